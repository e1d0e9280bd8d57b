import Derived.Test.YtkmbkaoolacofaaGreatCode3
set_option maxRecDepth 8000
set_option maxHeartbeats 4000000
namespace Go.Proofs.YtkmbkaoolacofaaGreat
open Go.RowKit
def f41 (x0 : PayTable) : Option (Bool × Int) :=
 (f66 x0).bind fun y4 =>
 jn (σ := Unit) (fun _ =>
  (f67 (y4.1)).bind fun o0 =>
  (f69 (([o0.1, o0.2.1, ([o0.2.2.1, o0.2.2.2] : List Int)] : List (List Int)))).bind fun q5 =>
  (f68 q5 ((fun a0 => f70 a0))).bind fun o3 =>
  some ((!o3), (0 : Int))
  ) fun k8 =>
 bif (y4.2 != (0 : Int)) then
  some (false, y4.2)
 else
  k8 ()
def f42 (x0 : PayTable) : Option (PayEntry × Int) :=
 (f66 x0).bind fun y5 =>
 jn (σ := PayEntry) (fun n8 =>
  (f67 (y5.1)).bind fun o0 =>
  (f71 (o0.1)).bind fun j1 =>
  (f71 (o0.2.1)).bind fun u0 =>
  jn (σ := PayEntry × Bool) (fun (qC, cC) =>
   jn (σ := PayEntry) (fun yD =>
    some (yD, (0 : Int))
    ) fun eF =>
   bif (!cC) then
    some ((⟨0, 0, 0, 0⟩ : PayEntry), (9 : Int))
   else
    eF (qC)
   ) fun rC =>
  Option.bind (α := Bool) (
   bif (j1.2 == (0 : Int)) then
    bif (u0.2 == (0 : Int)) then
     bif (o0.2.2.1 == (0 : Int)) then
      some ((o0.2.2.2 == (0 : Int)))
     else
      some (false)
    else
     some (false)
   else
    some (false)
   ) fun oA =>
  bif oA then
   some (n8, (0 : Int))
  else
   Option.bind (α := Bool) (
    bif (j1.2 == (1 : Int)) then
     bif (u0.2 == (1 : Int)) then
      bif (o0.2.2.1 == (0 : Int)) then
       bif (o0.2.2.2 == (0 : Int)) then
        (idx (o0.1) j1.1).bind fun tC =>
        (idx (o0.2.1) u0.1).bind fun uC =>
        some ((tC == uC))
       else
        some (false)
      else
       some (false)
     else
      some (false)
    else
     some (false)
    ) fun n9 =>
   bif n9 then
    (idx (((y5.1).PayTable).Rows) j1.1).bind fun iF =>
    (idx iF u0.1).bind fun v6 =>
    (idx (o0.1) j1.1).bind fun x6 =>
    (f54 ((0 : Int)) ((1000000 : Int)) (([(w64 (v6 - x6))] : List Int))).bind fun gD =>
    rC ((⟨(1 : Int), j1.1, u0.1, (w64 (v6 - x6))⟩ : PayEntry), gD)
   else
    Option.bind (α := Bool) (
     bif (j1.2 == (1 : Int)) then
      bif (u0.2 == (0 : Int)) then
       bif (o0.2.2.2 == (0 : Int)) then
        (idx (o0.1) j1.1).bind fun iC =>
        some ((iC == (w64 (0 - o0.2.2.1))))
       else
        some (false)
      else
       some (false)
     else
      some (false)
     ) fun g8 =>
    bif g8 then
     (idx (((y5.1).PayTable).Across) j1.1).bind fun o8 =>
     (idx (o0.1) j1.1).bind fun q8 =>
     rC ((⟨(2 : Int), j1.1, 0, (w64 (o8 + q8))⟩ : PayEntry), true)
    else
     Option.bind (α := Bool) (
      bif (j1.2 == (0 : Int)) then
       bif (u0.2 == (1 : Int)) then
        bif (o0.2.2.1 == (0 : Int)) then
         (idx (o0.2.1) u0.1).bind fun jC =>
         some ((jC == (w64 (0 - o0.2.2.2))))
        else
         some (false)
       else
        some (false)
      else
       some (false)
      ) fun i8 =>
     bif i8 then
      (idx (((y5.1).PayTable).Down) u0.1).bind fun r8 =>
      (idx (o0.2.1) u0.1).bind fun t8 =>
      rC ((⟨(3 : Int), 0, u0.1, (w64 (r8 + t8))⟩ : PayEntry), true)
     else
      Option.bind (α := Bool) (
       bif (j1.2 == (0 : Int)) then
        bif (u0.2 == (0 : Int)) then
         some ((o0.2.2.1 == o0.2.2.2))
        else
         some (false)
       else
        some (false)
       ) fun k8 =>
      bif k8 then
       (f72 (([(w64 (((y5.1).PayTable).Total + o0.2.2.1))] : List Int))).bind fun iD =>
       rC ((⟨(4 : Int), 0, 0, (w64 (((y5.1).PayTable).Total + o0.2.2.1))⟩ : PayEntry), iD)
      else
       rC (n8, false)
  ) fun oJ =>
 bif (y5.2 != (0 : Int)) then
  some ((⟨0, 0, 0, 0⟩ : PayEntry), y5.2)
 else
  oJ ((⟨0, 0, 0, 0⟩ : PayEntry))
def f75 (x0 : List Int) (x1 : Int → Int → Option Int) : Option ((List Int)) :=
 (f100 x0 (((x0).length : Int)) x1).bind fun y2 =>
 some (y2)
def f79 (x0 : PayPayList) (x1 : PayPiece) : Option (Int) :=
 jn (σ := Unit) (fun _ =>
  some ((0 : Int))
  ) fun m7 =>
 Option.bind (α := Bool) (
  (f54 ((0 : Int)) ((50 : Int)) (([(x1).Weaver] : List Int))).bind fun l5 =>
  bif (!l5) then
   some ((!l5))
  else
   (f54 ((0 : Int)) ((1000 : Int)) (([(x1).Dense] : List Int))).bind fun q5 =>
   bif (!q5) then
    some ((!q5))
   else
    (f54 ((0 : Int)) ((1000000 : Int)) (([(x1).Picks] : List Int))).bind fun j1 =>
    bif (!j1) then
     some ((!j1))
    else
     (f54 ((0 : Int)) ((100 : Int)) (([(x1).Faults] : List Int))).bind fun i3 =>
     some ((!i3))
  ) fun u0 =>
 bif u0 then
  some ((2 : Int))
 else
  (f54 ((0 : Int)) ((w64 (((((x0).PayList).Extras).length : Int) - (1 : Int)))) ((x1).Extras)).bind fun j3 =>
  bif (!j3) then
   some ((7 : Int))
  else
   (f102 ((x1).Extras)).bind fun y125 =>
   bif (!y125) then
    some ((4 : Int))
   else
    m7 ()
theorem en79 : Enters Tryz.prog 79 := enters_of Tryz.func79 (by kernel_rfl) rfl
theorem wk79 {gI : Gh} {wI : World} {x0 : PayPayList} {x1 : PayPiece} {up0 : Value} (rp0 : RV gI.m wI x0 up0) {up1 : Value} (rp1 : RV gI.m wI x1 up1) {r : Int} (h : f79 x0 x1 = some r) : Fn Tryz.prog 79 #[up0, up1] gI wI (fun _ _ v => v = .int .i64 (r)) := by
 unfold f79 at h
 refine fn_of_E Tryz.func79 rfl (Nat.le_of_ble_eq_true rfl) fun g0 hm hfr => ?_
 have rp0 : RV g0.m wI x0 up0 := hm ▸ rp0
 have rp1 : RV g0.m wI x1 up1 := hm ▸ rp1
 show E _ 41 none _ _ _ _ _
 refine E_seq (E_region (EL_do .plain rfl (D_box (g := g0) rfl rp0 fun g1 w1 p1 hs q1 => ?_)))
 have hfr := hfr.ext hs
 have rp1 := rp1.ext hs
 refine EL_do .plain rfl (D_box (g := g1) rfl rp1 fun g2 w2 p2 hs q2 => ?_)
 have hfr := hfr.ext hs
 have q1 := q1.ext hs
 refine EL_at (.int .i64 (0)) rfl rfl ?_
 refine EL_nil (thn_n (E_joinC h (fun (s : Unit) e w => ∃ (g : Gh) , Fr gI wI g w) (fun X65 m7 o7 h => ?_) ?_))
 ·refine E_block ?_
  obtain ⟨u0, hx, h⟩ := bsome h
  refine E_join (fun e w => ∃ (g : Gh) , Fr gI wI g w ∧ e 2 = p1 ∧ PT g.m w (x0 : PayPayList) p1 ∧ e 3 = p2 ∧ PT g.m w (x1 : PayPiece) p2 ∧ e 5 = .bool (u0)) (fun Q' hQ => ?_) (fun mA uA hR => ?_)
  ·replace h := hx
   clear hx
   refine E_seq (E_region (EL_p (fPtr p2 0) (P_fieldAddr at_27_0 rfl (PT.ptr q2)) rfl ?_))
   have o9 := PT_field (part_PayPiece_0).1 q2
   refine EL_do .plain rfl (D_load (g := g2) Tryz.isAgg3 Tryz.sizeOf3 rfl o9 fun oB t9 => ?_)
   obtain rfl := RV_int.1 t9
   refine EL_do .plain rfl (D_buildSlice (g := g2) 3008 (xs := ([(x1).Weaver] : List Int)) (vs := [.int .i64 ((x1).Weaver)]) Tryz.underlying23 Tryz.sizeOf3 Tryz.zeroValue3 rfl rfl (.cons rfl .nil) (RVs.cons (RV_int.2 rfl) RVs.nil) rfl rfl fun u9 tB y9 hs o91 z9 hxt hfl => ?_)
   have hfr := hfr.stp hs
   have q1 := q1.stp hs
   have q2 := q2.stp hs
   obtain ⟨l5, u7, h⟩ := bsome h
   refine EL_do .plain rfl (D_call (g := u9) (vs := [.int .i64 (0), .int .i64 (50), y9]) en54 (.cons rfl (.cons rfl (.cons rfl .nil))) (wk54 z9 u7) fun y6 xA vB hs hr => ?_)
   have hfr := hfr.ext hs
   have q1 := q1.ext hs
   have q2 := q2.ext hs
   subst hr
   refine EL_p (.bool (!l5)) (P_not rfl) rfl ?_
   refine EL_at (.bool (!l5)) rfl rfl ?_
   refine EL_nil (thn_n ?_)
   rcases csome h with ⟨j6, h⟩ | ⟨j6, h⟩
   ·refine E_ct j6 rfl ?_
    refine E_skip ?_
    obtain rfl := sinj h
    exact hQ _ _ ⟨y6, hfr, rfl, q1, rfl, q2, rfl⟩
   ·refine E_cf j6 rfl ?_
    refine E_seq (E_region (EL_p (fPtr p2 1) (P_fieldAddr at_27_1 rfl (PT.ptr q2)) rfl ?_))
    have bA := PT_field (part_PayPiece_1).1 q2
    refine EL_do .plain rfl (D_load (g := y6) Tryz.isAgg3 Tryz.sizeOf3 rfl bA fun xB gA => ?_)
    obtain rfl := RV_int.1 gA
    refine EL_do .plain rfl (D_buildSlice (g := y6) 3013 (xs := ([(x1).Dense] : List Int)) (vs := [.int .i64 ((x1).Dense)]) Tryz.underlying23 Tryz.sizeOf3 Tryz.zeroValue3 rfl rfl (.cons rfl .nil) (RVs.cons (RV_int.2 rfl) RVs.nil) rfl rfl fun iA yB jA hs o97 lA hxt hfl => ?_)
    have hfr := hfr.stp hs
    have q1 := q1.stp hs
    have q2 := q2.stp hs
    obtain ⟨q5, v7, h⟩ := bsome h
    refine EL_do .plain rfl (D_call (g := iA) (vs := [.int .i64 (0), .int .i64 (1000), jA]) en54 (.cons rfl (.cons rfl (.cons rfl .nil))) (wk54 lA v7) fun a7 yA zB hs hr => ?_)
    have hfr := hfr.ext hs
    have q1 := q1.ext hs
    have q2 := q2.ext hs
    subst hr
    refine EL_p (.bool (!q5)) (P_not rfl) rfl ?_
    refine EL_at (.bool (!q5)) rfl rfl ?_
    refine EL_nil (thn_n ?_)
    rcases csome h with ⟨o3, h⟩ | ⟨o3, h⟩
    ·refine E_ct o3 rfl ?_
     refine E_skip ?_
     obtain rfl := sinj h
     exact hQ _ _ ⟨a7, hfr, rfl, q1, rfl, q2, rfl⟩
    ·refine E_cf o3 rfl ?_
     refine E_seq (E_region (EL_p (fPtr p2 2) (P_fieldAddr at_27_2 rfl (PT.ptr q2)) rfl ?_))
     have c8 := PT_field (part_PayPiece_2).1 q2
     refine EL_do .plain rfl (D_load (g := a7) Tryz.isAgg3 Tryz.sizeOf3 rfl c8 fun zA g8 => ?_)
     obtain rfl := RV_int.1 g8
     refine EL_do .plain rfl (D_buildSlice (g := a7) 3018 (xs := ([(x1).Picks] : List Int)) (vs := [.int .i64 ((x1).Picks)]) Tryz.underlying23 Tryz.sizeOf3 Tryz.zeroValue3 rfl rfl (.cons rfl .nil) (RVs.cons (RV_int.2 rfl) RVs.nil) rfl rfl fun i8 aB k8 hs o103 l8 hxt hfl => ?_)
     have hfr := hfr.stp hs
     have q1 := q1.stp hs
     have q2 := q2.stp hs
     obtain ⟨j1, e7, h⟩ := bsome h
     refine EL_do .plain rfl (D_call (g := i8) (vs := [.int .i64 (0), .int .i64 (1000000), k8]) en54 (.cons rfl (.cons rfl (.cons rfl .nil))) (wk54 l8 e7) fun v6 nA bB hs hr => ?_)
     have hfr := hfr.ext hs
     have q1 := q1.ext hs
     have q2 := q2.ext hs
     subst hr
     refine EL_p (.bool (!j1)) (P_not rfl) rfl ?_
     refine EL_at (.bool (!j1)) rfl rfl ?_
     refine EL_nil (thn_n ?_)
     rcases csome h with ⟨u3, h⟩ | ⟨u3, h⟩
     ·refine E_ct u3 rfl ?_
      refine E_skip ?_
      obtain rfl := sinj h
      exact hQ _ _ ⟨v6, hfr, rfl, q1, rfl, q2, rfl⟩
     ·refine E_cf u3 rfl ?_
      refine E_region (EL_p (fPtr p2 4) (P_fieldAddr at_27_4 rfl (PT.ptr q2)) rfl ?_)
      have m8 := PT_field (part_PayPiece_4).1 q2
      refine EL_do .plain rfl (D_load (g := v6) Tryz.isAgg3 Tryz.sizeOf3 rfl m8 fun cB n8 => ?_)
      obtain rfl := RV_int.1 n8
      refine EL_do .plain rfl (D_buildSlice (g := v6) 3023 (xs := ([(x1).Faults] : List Int)) (vs := [.int .i64 ((x1).Faults)]) Tryz.underlying23 Tryz.sizeOf3 Tryz.zeroValue3 rfl rfl (.cons rfl .nil) (RVs.cons (RV_int.2 rfl) RVs.nil) rfl rfl fun o8 dB q8 hs o109 r8 hxt hfl => ?_)
      have hfr := hfr.stp hs
      have q1 := q1.stp hs
      have q2 := q2.stp hs
      obtain ⟨i3, g7, h⟩ := bsome h
      refine EL_do .plain rfl (D_call (g := o8) (vs := [.int .i64 (0), .int .i64 (100), q8]) en54 (.cons rfl (.cons rfl (.cons rfl .nil))) (wk54 r8 g7) fun t8 oA eB hs hr => ?_)
      have hfr := hfr.ext hs
      have q1 := q1.ext hs
      have q2 := q2.ext hs
      subst hr
      refine EL_p (.bool (!i3)) (P_not rfl) rfl ?_
      refine EL_at (.bool (!i3)) rfl rfl ?_
      refine EL_nil ?_
      obtain rfl := sinj h
      exact hQ _ _ ⟨t8, hfr, rfl, q1, rfl, q2, rfl⟩
  ·clear hx
   obtain ⟨x6, hfr, b7, t5, x5, o0, i6⟩ := hR
   rcases csome h with ⟨z3, h⟩ | ⟨z3, h⟩
   ·refine E_cond_true (Eq.trans (show ev _ _ = .bool (u0) from i6) (congrArg Value.bool z3)) ?_
    refine E_seq (E_region (EL_at (.int .i64 (2)) rfl rfl ?_))
    refine EL_nil (thn_n (E_ret (blk_r ?_)))
    refine thn_r ?_
    obtain rfl := sinj h
    exact end1 rfl rfl (show _ = .int .i64 (2) from rfl) ⟨_, hfr, rfl⟩
   ·refine E_cond_false (Eq.trans (show ev _ _ = .bool (u0) from i6) (congrArg Value.bool z3)) ?_
    refine E_seq (E_region (EL_p (fPtr p1 0) (P_fieldAddr at_117_0 b7 (PT.ptr t5)) rfl ?_))
    have c7 := PT_field (part_PayPayList_0).1 t5
    refine EL_p (fPtr (fPtr p1 0) 1) (P_fieldAddr at_25_1 rfl (PT.ptr c7)) rfl ?_
    have v8 := PT_field (part_PayList_1).1 c7
    refine EL_do .plain rfl (D_load (g := x6) Tryz.isAgg23 Tryz.sizeOf23 rfl v8 fun iB x8 => ?_)
    refine EL_p (.int .i64 ((((x0).PayList).Extras).length : Int)) (P_len Tryz.underlying23 rfl x8) rfl ?_
    refine EL_p (.int .i64 ((w64 (((((x0).PayList).Extras).length : Int) - (1 : Int))))) (P_int rfl rfl rfl) rfl ?_
    refine EL_p (fPtr p2 3) (P_fieldAddr at_27_3 x5 (PT.ptr o0)) rfl ?_
    have y8 := PT_field (part_PayPiece_3).1 o0
    refine EL_do .plain rfl (D_load (g := x6) Tryz.isAgg23 Tryz.sizeOf23 rfl y8 fun a9 d9 => ?_)
    obtain ⟨j3, i7, h⟩ := bsome h
    refine EL_do .plain rfl (D_call (g := x6) (vs := [.int .i64 (0), .int .i64 ((w64 (((((x0).PayList).Extras).length : Int) - (1 : Int)))), a9]) en54 (.cons rfl (.cons rfl (.cons rfl .nil))) (wk54 d9 i7) fun d7 pA jB hs hr => ?_)
    have hfr := hfr.ext hs
    have o0 := o0.ext hs
    subst hr
    refine EL_p (.bool (!j3)) (P_not rfl) rfl ?_
    refine EL_at (.bool (!j3)) rfl rfl ?_
    refine EL_nil (thn_n ?_)
    rcases csome h with ⟨z4, h⟩ | ⟨z4, h⟩
    ·refine E_ct z4 rfl ?_
     refine E_seq (E_region (EL_at (.int .i64 (7)) rfl rfl ?_))
     refine EL_nil (thn_n (E_ret (blk_r ?_)))
     refine thn_r ?_
     obtain rfl := sinj h
     exact end1 rfl rfl (show _ = .int .i64 (7) from rfl) ⟨_, hfr, rfl⟩
    ·refine E_cf z4 rfl ?_
     refine E_seq (E_region (EL_p (fPtr p2 3) (P_fieldAddr at_27_3 x5 (PT.ptr o0)) rfl ?_))
     have i9 := PT_field (part_PayPiece_3).1 o0
     refine EL_do .plain rfl (D_load (g := d7) Tryz.isAgg23 Tryz.sizeOf23 rfl i9 fun k9 l9 => ?_)
     obtain ⟨y125, j7, h⟩ := bsome h
     refine EL_do .plain rfl (D_call (g := d7) (vs := [k9]) en102 (.cons rfl .nil) (wk102 l9 j7) fun n9 qA lB hs hr => ?_)
     have hfr := hfr.ext hs
     subst hr
     refine EL_p (.bool (!y125)) (P_not rfl) rfl ?_
     refine EL_at (.bool (!y125)) rfl rfl ?_
     refine EL_nil (thn_n ?_)
     rcases csome h with ⟨i5, h⟩ | ⟨i5, h⟩
     ·refine E_ct i5 rfl ?_
      refine E_seq (E_region (EL_at (.int .i64 (4)) rfl rfl ?_))
      refine EL_nil (thn_n (E_ret (blk_r ?_)))
      refine thn_r ?_
      obtain rfl := sinj h
      exact end1 rfl rfl (show _ = .int .i64 (4) from rfl) ⟨_, hfr, rfl⟩
     ·refine E_cf i5 rfl ?_
      exact E_skip (blk_n (thn_n (o7 () _ _ ⟨n9, hfr⟩ h)))
 ·rintro _ rA mB ⟨nB, hfr⟩ h
  refine E_seq (E_region (EL_at (.int .i64 (0)) rfl rfl ?_))
  refine EL_nil (thn_n (E_ret ?_))
  obtain rfl := sinj h
  exact end1 rfl rfl (show _ = .int .i64 (0) from rfl) ⟨_, hfr, rfl⟩
def f50 (x0 : Int) (x1 : List Int) : Option ((List Int) × Int) :=
 Option.bind (α := Int) (
  lp (σ := Int × Int) (fun pG (o7, i3) =>
   bif (decide (i3 < ((x1).length : Int))) then
    Option.bind (α := Int) (
     (idx x1 i3).bind fun o8 =>
     some ((w64 (o7 + (min64 (max64 o8 (0 : Int)) (1000 : Int)))))
     ) fun q8 =>
    pG (q8, (w64 (i3 + (1 : Int))))
   else
    some (o7)
   ) big ((0 : Int), (0 : Int))
  ) fun o3 =>
 jn (σ := (List Int)) (fun eC =>
  (mks 8 (0 : Int) (((x1).length : Int))).bind fun eB =>
  Option.bind (α := (List Int) × Int × (List Int)) (
   lp (σ := (List Int) × Int × (List Int) × Int) (fun sD (d9, a7, i7, o0) =>
    bif (decide (o0 < ((x1).length : Int))) then
     Option.bind (α := (List Int) × Int × (List Int)) (
      (idx x1 o0).bind fun i9 =>
      (quo64 (w64 (x0 * i9)) o3).bind fun y158 =>
      (apnd 8 d9 (([y158] : List Int))).bind fun y161 =>
      (idx i7 o0).bind fun vG =>
      (idx y161 o0).bind fun oA =>
      some (y161, (w64 (a7 - oA)), (List.set i7 (Int.toNat o0) o0))
      ) fun (u7, v7, j7) =>
     sD (u7, v7, j7, (w64 (o0 + (1 : Int))))
    else
     some (d9, a7, i7)
    ) big (eC, x0, eB, (0 : Int))
   ) fun (k9, u3, k8) =>
  (f75 k8 ((fun a0 a1 => f76 a0 a1 x0 x1 o3))).bind fun tD =>
  Option.bind (α := (List Int)) (
   (cut tD 0 u3).bind fun y6 =>
   lp (σ := (List Int) × Int) (fun uD (b7, u0) =>
    bif (decide (u0 < ((y6).length : Int))) then
     Option.bind (α := (List Int)) (
      (idx y6 u0).bind fun c7 =>
      (idx b7 c7).bind fun pA =>
      (idx b7 c7).bind fun xG =>
      some ((List.set b7 (Int.toNat c7) ((w64 (pA + (1 : Int))))))
      ) fun c8 =>
     uD (c8, (w64 (u0 + (1 : Int))))
    else
     some (b7)
    ) big (k9, (0 : Int))
   ) fun l9 =>
  some (l9, (0 : Int))
  ) fun qG =>
 (f54 ((0 : Int)) ((1000000000 : Int)) (([x0] : List Int))).bind fun iC =>
 bif (!iC) then
  some (([] : List Int), (3 : Int))
 else
  bif (decide (((x1).length : Int) > (10 : Int))) then
   some (([] : List Int), (5 : Int))
  else
   Option.bind (α := Bool) (
    (f54 ((0 : Int)) ((1000 : Int)) x1).bind fun iB =>
    bif (!iB) then
     some ((!iB))
    else
     some ((o3 == (0 : Int)))
    ) fun d7 =>
   bif d7 then
    some (([] : List Int), (2 : Int))
   else
    qG (([] : List Int))
def f55 (x0 : PayList) (x1 : PayPiece) : Option (PayPayList × Int) :=
 jn (σ := PayPayList) (fun j6 =>
  (f79 ((⟨x0⟩ : PayPayList)) x1).bind fun u0 =>
  some ((⟨x0⟩ : PayPayList), u0)
  ) fun y6 =>
 (f15 x0).bind fun o0 =>
 bif (o0 != (0 : Int)) then
  some ((⟨x0⟩ : PayPayList), o0)
 else
  y6 ((⟨⟨[], [], 0, 0⟩⟩ : PayPayList))
theorem en55 : Enters Tryz.prog 55 := enters_of Tryz.func55 (by kernel_rfl) rfl
theorem wk55 {gI : Gh} {wI : World} {x0 : PayList} {x1 : PayPiece} {up0 : Value} (rp0 : RV gI.m wI x0 up0) {up1 : Value} (rp1 : RV gI.m wI x1 up1) {r : PayPayList × Int} (h : f55 x0 x1 = some r) : Fn Tryz.prog 55 #[up0, up1] gI wI (fun m w v => ∃ y0 y1, v = .tuple #[y0, y1] ∧ RV m w (r.1) y0 ∧ y1 = .int .i64 (r.2)) := by
 unfold f55 at h
 refine fn_of_E Tryz.func55 rfl (Nat.le_of_ble_eq_true rfl) fun g0 hm hfr => ?_
 have rp0 : RV g0.m wI x0 up0 := hm ▸ rp0
 have rp1 : RV g0.m wI x1 up1 := hm ▸ rp1
 show E _ 20 none _ _ _ _ _
 refine E_seq (E_region (EL_do .plain rfl (D_box (g := g0) rfl rp0 fun g1 w1 p1 hs q1 => ?_)))
 have hfr := hfr.ext hs
 have rp1 := rp1.ext hs
 refine EL_do .plain rfl (D_box (g := g1) rfl rp1 fun g2 w2 p2 hs q2 => ?_)
 have hfr := hfr.ext hs
 have q1 := q1.ext hs
 refine EL_do .plain rfl (D_allocOc (g := g2) 2004 (⟨⟨[], [], 0, 0⟩⟩ : PayPayList) Tryz.zeroValue117 (fun m w => ⟨_, (rep_two rep_nil (rep_two rep_nil (rep_two rep_int rep_int))), rfl⟩) fun g3 w3 p3 hs b3 cb => ?_)
 have hfr := hfr.stp hs
 have q1 := q1.stp hs
 have q2 := q2.stp hs
 have i3 : OSF 2004 60400 0 g3 w3 87 117 ([] : List PayRate) p3 := cb.osf (by rfl)
 have j3 : OSF 2004 60401 1 g3 w3 3 117 ([] : List Int) p3 := cb.osf (by rfl)
 clear cb
 refine EL_at (.int .i64 (0)) rfl rfl ?_
 refine EL_nil (thn_n (E_joinC h (fun (s : PayPayList) e w => ∃ (g : Gh) , Fr gI wI g w ∧ e 2 = p1 ∧ PT g.m w (x0 : PayList) p1 ∧ e 3 = p2 ∧ PT g.m w (x1 : PayPiece) p2 ∧ e 4 = p3 ∧ OB 2004 g w 117 (s : PayPayList) p3 ∧ OSF 2004 60400 0 g w 87 117 (((s).PayList).Rates) p3 ∧ OSF 2004 60401 1 g w 3 117 (((s).PayList).Extras) p3) (fun X12 y6 o7 h => ?_) ?_))
 ·refine E_seq (E_region (EL_do .plain rfl (D_load (g := g3) Tryz.isAgg25 Tryz.sizeOf25 rfl q1 fun q8 r8 => ?_)))
  obtain ⟨o0, u7, h⟩ := bsome h
  refine EL_do .plain rfl (D_call (g := g3) (vs := [q8]) en15 (.cons rfl .nil) (wk15 r8 u7) fun u3 x8 a9 hs hr => ?_)
  have hfr := hfr.ext hs
  have q1 := q1.ext hs
  have q2 := q2.ext hs
  have i3 := i3.ext hs
  have j3 := j3.ext hs
  have b3 := b3.ext hs
  subst hr
  refine EL_at (.int .i64 (o0)) rfl rfl ?_
  refine EL_nil (thn_n (E_seq (E_region (EL_mw (.int .i64 (o0)) rfl rfl ?_))))
  refine EL_in (.bool ((o0 != (0 : Int)))) rfl rfl rfl rfl ?_
  refine EL_nil (thn_n ?_)
  rcases csome h with ⟨o3, h⟩ | ⟨o3, h⟩
  ·refine E_ct o3 rfl ?_
   refine E_seq (E_region (EL_do .plain rfl (D_load (g := u3) Tryz.isAgg25 Tryz.sizeOf25 rfl q1 fun x5 a7 => ?_)))
   have b7 : RV u3.m _ (⟨x0⟩ : PayPayList) (.agg (setCh [[.slice none 0 0, .slice none 0 0, .int .i64 0, .int .i64 0]] [(0, x5)]).flatten.toArray) := RV_build rfl (rep_last (RV.cells a7))
   generalize v7 : (Value.agg (setCh [[.slice none 0 0, .slice none 0 0, .int .i64 0, .int .i64 0]] [(0, x5)]).flatten.toArray) = c7 at b7
   refine EL_p c7 (v7 ▸ P_build (vs := [(0, x5)]) [[.slice none 0 0, .slice none 0 0, .int .i64 0, .int .i64 0]] lay_117 rfl rfl (.cons rfl .nil) ⟨⟨_, rfl, cells_size a7⟩, trivial⟩) rfl ?_
   refine EL_mw (.int .i64 (o0)) rfl rfl ?_
   refine EL_do .plain rfl (D_storeOc (g := u3) (v := c7) Tryz.sizeOf117 rfl b3 rfl b7 fun d9 i9 hs b19 cb => ?_)
   clear cb
   have hfr := hfr.stp hs
   refine EL_at (.int .i64 (o0)) rfl rfl ?_
   refine EL_nil (thn_n (E_ret (thn_r ?_)))
   obtain rfl := sinj h
   obtain ⟨ad20, cv20, hp20, c8, cr20⟩ := ob_read Tryz.isAgg117 Tryz.sizeOf117 b19
   exact endm_ct rfl rfl ((show _ = p3 from rfl).trans hp20) c8 (show _ = .int .i64 (o0) from rfl) ⟨_, hfr, _, _, rfl, cr20, rfl⟩
  ·refine E_cf o3 rfl ?_
   exact E_skip (thn_n (o7 ((⟨⟨[], [], 0, 0⟩⟩ : PayPayList)) _ _ ⟨u3, hfr, rfl, q1, rfl, q2, rfl, b3, i3, j3⟩ h))
 ·rintro j6 y8 k9 ⟨i6, hfr, z3, z4, v6, x6, i5, j1, u4_0_21, u4_1_21⟩ h
  refine E_seq (L_load (x := .tmp 2) Tryz.isAgg25 Tryz.sizeOf25 z4 fun l5 d7 g8 => ?_)
  have q5 : RV i6.m _ (⟨x0⟩ : PayPayList) (.agg (setCh [[.slice none 0 0, .slice none 0 0, .int .i64 0, .int .i64 0]] [(0, l5)]).flatten.toArray) := RV_build rfl (rep_last (RV.cells d7))
  generalize i8 : (Value.agg (setCh [[.slice none 0 0, .slice none 0 0, .int .i64 0, .int .i64 0]] [(0, l5)]).flatten.toArray) = e7 at q5
  refine L_load (x := .tmp 2) Tryz.isAgg25 Tryz.sizeOf25 z4 fun t5 g7 k8 => ?_
  have i7 : RV i6.m _ (⟨x0⟩ : PayPayList) (.agg (setCh [[.slice none 0 0, .slice none 0 0, .int .i64 0, .int .i64 0]] [(0, t5)]).flatten.toArray) := RV_build rfl (rep_last (RV.cells g7))
  generalize l8 : (Value.agg (setCh [[.slice none 0 0, .slice none 0 0, .int .i64 0, .int .i64 0]] [(0, t5)]).flatten.toArray) = j7 at i7
  refine L_load (x := .tmp 3) Tryz.isAgg27 Tryz.sizeOf27 x6 fun m7 t8 m8 => ?_
  obtain ⟨u0, n8, h⟩ := bsome h
  refine E_drawL (g := i6) (n := 6) [(5, (fun v g w => v = .int .i64 (u0)))] [0, 1, 2, 3, 4, 5] rfl mixed (by kernel_rfl) (⟨fun _ => up_eq _, trivial⟩) ?_
  refine L_ld (c := l5) rfl rfl .plain (fun _ _ h => h.ch) g8 z3 ?_
  refine L_p e7 rfl rfl (i8 ▸ P_build (vs := [(0, l5)]) [[.slice none 0 0, .slice none 0 0, .int .i64 0, .int .i64 0]] lay_117 rfl rfl (.cons rfl .nil) ⟨⟨_, rfl, cells_size d7⟩, trivial⟩) ?_
  refine L_ld (c := t5) rfl rfl .plain (fun _ _ h => h.ch) k8 z3 ?_
  refine L_p j7 rfl rfl (l8 ▸ P_build (vs := [(0, t5)]) [[.slice none 0 0, .slice none 0 0, .int .i64 0, .int .i64 0]] lay_117 rfl rfl (.cons rfl .nil) ⟨⟨_, rfl, cells_size g7⟩, trivial⟩) ?_
  refine L_ld (c := m7) rfl rfl .plain (fun _ _ h => h.ch) m8 v6 ?_
  refine L_do (φ := fun v g w => v = .int .i64 (u0)) rfl rfl .plain (fun g w hd => D_call (g := g) (vs := [j7, m7]) en79 (.cons rfl (.cons rfl .nil)) (wk79 (i7.ext hd.1) (t8.ext hd.1) n8) fun g' w' v hs hr => ⟨g', hs, hr⟩) (fun l9 hv => ?_)
  obtain ⟨_, _, _, rfl⟩ := hv
  refine L_nl fun v8 n9 hs => ?_
  have hfr := hfr.ext hs
  have j1 := j1.ext hs
  have q5 := q5.ext hs
  clear hs
  refine EL_do .plain rfl (D_storeOc (g := v8) (v := e7) Tryz.sizeOf117 i5 j1 rfl q5 fun o9 t9 hs b39 cb => ?_)
  clear cb
  have hfr := hfr.stp hs
  refine EL_at (.int .i64 (u0)) rfl rfl ?_
  refine EL_nil (thn_n (E_ret ?_))
  obtain rfl := sinj h
  obtain ⟨ad40, cv40, hp40, o8, cr40⟩ := ob_read Tryz.isAgg117 Tryz.sizeOf117 b39
  exact endm_ct rfl rfl ((show _ = p3 from i5).trans hp40) o8 (show _ = .int .i64 (u0) from rfl) ⟨_, hfr, _, _, rfl, cr40, rfl⟩
def f16 (x0 : PayList) (x1 : PayPiece) : Option (Int × Int × Int × Int) :=
 (f55 x0 x1).bind fun y6 =>
 jn (σ := Unit) (fun _ =>
  (f56 (y6.1) x1).bind fun u0 =>
  (f57 (y6.1) u0 ((x1).Faults)).bind fun j3 =>
  (f58 (y6.1) x1 ((x1).Faults)).bind fun o3 =>
  some (u0, j3, o3, (0 : Int))
  ) fun q5 =>
 bif (y6.2 != (0 : Int)) then
  some ((0 : Int), (0 : Int), (0 : Int), y6.2)
 else
  q5 ()
def f17 (x0 : PayList) (x1 : PayPiece) (x2 : Span) : Option (Span × Int) :=
 (f55 x0 x1).bind fun y8 =>
 jn (σ := Span) (fun m7 =>
  (f58 (y8.1) x1 ((x2).High)).bind fun u0 =>
  (f58 (y8.1) x1 ((x2).Low)).bind fun j1 =>
  some ((⟨u0, j1⟩ : Span), (0 : Int))
  ) fun n8 =>
 bif (y8.2 != (0 : Int)) then
  some ((⟨0, 0⟩ : Span), y8.2)
 else
  Option.bind (α := Bool) (
   (f54 ((0 : Int)) ((100 : Int)) (([(x2).Low, (x2).High] : List Int))).bind fun z3 =>
   bif (!z3) then
    some ((!z3))
   else
    some ((decide ((x2).Low > (x2).High)))
   ) fun o0 =>
  bif o0 then
   some ((⟨0, 0⟩ : Span), (3 : Int))
  else
   n8 ((⟨0, 0⟩ : Span))
def f27 (x0 : PayList) (x1 : List PayPiece) : Option ((List Int) × (List Int) × Int × Int) :=
 jn (σ := (List Int)) (fun n9 =>
  jn (σ := (List Int)) (fun lB =>
   jn (σ := (List Int) × (List (Int × Int))) (fun (lA, t5) =>
    (keysS t5).bind fun l5 =>
    Option.bind (α := (List Int)) (
     lp (σ := (List Int) × Int) (fun qC (o8, u3) =>
      bif (decide (u3 < ((l5).length : Int))) then
       Option.bind (α := (List Int)) (
        (idx l5 u3).bind fun i8 =>
        (apnd 8 o8 (([((mget t5 i8).getD (0 : Int))] : List Int))).bind fun rC =>
        some (rC)
        ) fun a7 =>
       qC (a7, (w64 (u3 + (1 : Int))))
      else
       some (o8)
      ) big (lA, (0 : Int))
     ) fun m7 =>
    some (l5, m7, (0 : Int), (0 : Int))
    ) fun tC =>
   lp (σ := (List Int) × (List (Int × Int)) × Int) (fun uC (b7, z3, o0) =>
    bif (decide (o0 < ((x1).length : Int))) then
     jn (σ := (List Int) × (List (Int × Int))) (fun (q8, r8) =>
      uC (q8, r8, (w64 (o0 + (1 : Int))))
      ) fun vC =>
     (idx x1 o0).bind fun z4 =>
     (f55 x0 z4).bind fun y168 =>
     jn (σ := (List Int)) (fun t8 =>
      (f58 (y168.1) z4 ((z4).Faults)).bind fun k8 =>
      vC (t8, (mset z3 ((z4).Weaver) ((w64 (((mget z3 ((z4).Weaver)).getD (0 : Int)) + k8)))))
      ) fun xC =>
     bif (y168.2 != (0 : Int)) then
      some ([], [], o0, y168.2)
     else
      xC (b7)
    else
     tC (b7, z3)
    ) big (lB, ([] : List (Int × Int)), (0 : Int))
   ) fun xF =>
  bif (decide (((x1).length : Int) > (50 : Int))) then
   some ([], [], (0 : Int), (5 : Int))
  else
   xF (n9)
  ) fun k6 =>
 (f15 x0).bind fun y9 =>
 bif (y9 != (0 : Int)) then
  some ([], [], (0 : Int), y9)
 else
  k6 ([])
theorem en27 : Enters Tryz.prog 27 := enters_of Tryz.func27 (by kernel_rfl) rfl
theorem wk27 {gI : Gh} {wI : World} {x0 : PayList} {x1 : List PayPiece} {up0 : Value} (rp0 : RV gI.m wI x0 up0) {up1 : Value} (rp1 : RV gI.m wI x1 up1) {r : (List Int) × (List Int) × Int × Int} (h : f27 x0 x1 = some r) : Fn Tryz.prog 27 #[up0, up1] gI wI (fun m w v => ∃ y0 y1 y2 y3, v = .tuple #[y0, y1, y2, y3] ∧ RV m w (r.1) y0 ∧ RV m w (r.2.1) y1 ∧ y2 = .int .i64 (r.2.2.1) ∧ y3 = .int .i64 (r.2.2.2)) := by
 unfold f27 at h
 refine fn_of_E Tryz.func27 rfl (Nat.le_of_ble_eq_true rfl) fun g0 hm hfr => ?_
 have rp0 : RV g0.m wI x0 up0 := hm ▸ rp0
 have rp1 : RV g0.m wI x1 up1 := hm ▸ rp1
 show E _ 71 none _ _ _ _ _
 refine E_seq (E_region (EL_do .plain rfl (D_box (g := g0) rfl rp0 fun g1 w1 p1 hs q1 => ?_)))
 have hfr := hfr.ext hs
 have rp1 := rp1.ext hs
 refine EL_at (.slice none 0 0) rfl rfl ?_
 refine EL_at (.slice none 0 0) rfl rfl ?_
 refine EL_at (.int .i64 (0)) rfl rfl ?_
 refine EL_at (.int .i64 (0)) rfl rfl ?_
 refine EL_nil (thn_n (E_joinC h (fun (s : (List Int)) e w => ∃ (g : Gh) (v5 : Value), Fr gI wI g w ∧ e 1 = up1 ∧ RV g.m w (x1 : List PayPiece) up1 ∧ e 2 = p1 ∧ PT g.m w (x0 : PayList) p1 ∧ e 5 = v5 ∧ RV g.m w (s : List Int) v5 ∧ OS 1005 g w 3 (s : List Int) v5) (fun X6 k6 hk6 h => ?_) ?_))
 ·refine E_seq (E_region (EL_do .plain rfl (D_load (g := g1) Tryz.isAgg25 Tryz.sizeOf25 rfl q1 fun v7 r7 => ?_)))
  obtain ⟨y9, gH, h⟩ := bsome h
  refine EL_do .plain rfl (D_call (g := g1) (vs := [v7]) en15 (.cons rfl .nil) (wk15 r7 gH) fun g8 w8_ v8 hs hr => ?_)
  have hfr := hfr.ext hs
  have rp1 := rp1.ext hs
  have q1 := q1.ext hs
  subst hr
  refine EL_at (.int .i64 (y9)) rfl rfl ?_
  refine EL_nil (thn_n (E_seq (E_region (EL_mw (.int .i64 (y9)) rfl rfl ?_))))
  refine EL_in (.bool ((y9 != (0 : Int)))) rfl rfl rfl rfl ?_
  refine EL_nil (thn_n ?_)
  rcases csome h with ⟨aB, h⟩ | ⟨aB, h⟩
  ·refine E_ct aB rfl ?_
   refine E_seq (E_region (EL_mw (.int .i64 (y9)) rfl rfl ?_))
   refine EL_at (.slice none 0 0) rfl rfl ?_
   refine EL_at (.slice none 0 0) rfl rfl ?_
   refine EL_at (.int .i64 (0)) rfl rfl ?_
   refine EL_at (.int .i64 (y9)) rfl rfl ?_
   refine EL_nil (thn_n (E_ret (thn_r ?_)))
   obtain rfl := sinj h
   exact end4 rfl rfl (show _ = .slice none 0 0 from rfl) (show _ = .slice none 0 0 from rfl) (show _ = .int .i64 (0) from rfl) (show _ = .int .i64 (y9) from rfl) ⟨_, hfr, _, _, _, _, rfl, RV_nil, RV_nil, rfl, rfl⟩
  ·refine E_cf aB rfl ?_
   exact E_skip (thn_n (hk6 ([]) _ _ ⟨g8, (.slice none 0 0), hfr, rfl, rp1, rfl, q1, rfl, RV_nil, OS.nil⟩ h))
 ·rintro n9 aI iJ ⟨iH, nE, hfr, mB, nB, oE, rE, sE, tE, uE⟩ h
  refine E_joinC h (fun (s : (List Int)) e w => ∃ (g : Gh) (v5 : Value), Fr gI wI g w ∧ e 1 = up1 ∧ RV g.m w (x1 : List PayPiece) up1 ∧ e 2 = p1 ∧ PT g.m w (x0 : PayList) p1 ∧ e 5 = v5 ∧ RV g.m w (s : List Int) v5 ∧ OS 1005 g w 3 (s : List Int) v5) (fun X13 xF yF h => ?_) ?_
  ·refine E_seq (E_region (EL_mv mB rfl ?_))
   refine EL_p (.int .i64 ((x1).length : Int)) (P_len Tryz.underlying33 rfl nB) rfl ?_
   refine EL_in (.bool ((decide (((x1).length : Int) > (50 : Int))))) rfl rfl rfl rfl ?_
   refine EL_nil (thn_n ?_)
   rcases csome h with ⟨bB, h⟩ | ⟨bB, h⟩
   ·refine E_ct bB rfl ?_
    refine E_seq (E_region (EL_at (.slice none 0 0) rfl rfl ?_))
    refine EL_at (.slice none 0 0) rfl rfl ?_
    refine EL_at (.int .i64 (0)) rfl rfl ?_
    refine EL_at (.int .i64 (5)) rfl rfl ?_
    refine EL_nil (thn_n (E_ret (thn_r ?_)))
    obtain rfl := sinj h
    exact end4 rfl rfl (show _ = .slice none 0 0 from rfl) (show _ = .slice none 0 0 from rfl) (show _ = .int .i64 (0) from rfl) (show _ = .int .i64 (5) from rfl) ⟨_, hfr, _, _, _, _, rfl, RV_nil, RV_nil, rfl, rfl⟩
   ·refine E_cf bB rfl ?_
    exact E_skip (thn_n (yF (n9) _ _ ⟨iH, (nE), hfr, mB, nB, oE, rE, sE, tE, uE⟩ h))
  ·rintro lB bI w15 ⟨jH, vE, hfr, xE, n8, yE, o9, zE, t9, u9⟩ h
   refine E_seq (E_region (EL_do .plain rfl (D_makeMap (g := jH) (Value.int .i64) Int 8024 fun kH jJ x5 hs m16 => ?_)))
   have hfr := hfr.stp hs
   have n8 := n8.stp hs
   have o9 := o9.stp hs
   have t9 := t9.stp hs
   have u9 := u9.stp hs rfl
   refine EL_at x5 rfl rfl ?_
   refine EL_nil (thn_n (E_joinC h (fun (s : (List Int) × (List (Int × Int))) e w => ∃ (g : Gh) (v5 : Value), Fr gI wI g w ∧ e 5 = v5 ∧ RV g.m w (s.1 : List Int) v5 ∧ OS 1005 g w 3 (s.1 : List Int) v5 ∧ e 9 = x5 ∧ MP (Value.int .i64) 8024 g w (s.2 : List (Int × Int)) x5) (fun X111 tC cF h => ?_) ?_))
   ·refine E_seq (E_region (EL_mv xE rfl ?_))
    refine EL_p (.int .i64 ((x1).length : Int)) (P_len Tryz.underlying33 rfl n8) rfl ?_
    refine EL_mw (.int .i64 (0)) rfl rfl ?_
    refine EL_nil (thn_n (E_block ?_))
    refine E_lp h (fun (s : (List Int) × (List (Int × Int)) × Int) e w => ∃ (g : Gh) (v5 : Value), Fr gI wI g w ∧ e 2 = p1 ∧ PT g.m w (x0 : PayList) p1 ∧ e 5 = v5 ∧ RV g.m w (s.1 : List Int) v5 ∧ OS 1005 g w 3 (s.1 : List Int) v5 ∧ e 9 = x5 ∧ MP (Value.int .i64) 8024 g w (s.2.1 : List (Int × Int)) x5 ∧ e 25 = up1 ∧ RV g.m w (x1 : List PayPiece) up1 ∧ e 26 = .int .i64 (((x1).length : Int)) ∧ e 27 = .int .i64 (s.2.2)) ⟨kH, (vE), hfr, yE, o9, zE, t9, u9, rfl, m16, rfl, n8, rfl, rfl⟩ (fun X112 uC dF => ?_)
    rintro ⟨b7, z3, o0⟩ qH cI ⟨cB, mA, hfr, nA, j1, oA, i3, j3, pA, o3, d9, u0, i9, j7⟩ h
    refine E_seq (E_region (EL_in (.bool ((decide (o0 < ((x1).length : Int))))) j7 i9 rfl rfl ?_))
    refine EL_nil (thn_n (E_seq ?_))
    rcases csome h with ⟨z9, h⟩ | ⟨z9, h⟩
    ·refine E_ct z9 rfl ?_
     refine E_skip (thn_n (E_joinC h (fun (s : (List Int) × (List (Int × Int))) e w => ∃ (g : Gh) (v5 : Value), Fr gI wI g w ∧ e 2 = p1 ∧ PT g.m w (x0 : PayList) p1 ∧ e 5 = v5 ∧ RV g.m w (s.1 : List Int) v5 ∧ OS 1005 g w 3 (s.1 : List Int) v5 ∧ e 9 = x5 ∧ MP (Value.int .i64) 8024 g w (s.2 : List (Int × Int)) x5 ∧ e 25 = up1 ∧ RV g.m w (x1 : List PayPiece) up1 ∧ e 26 = .int .i64 (((x1).length : Int)) ∧ e 27 = .int .i64 (o0)) (fun X159 vC eF h => ?_) ?_))
     ·refine E_block ?_
      refine E_seq (E_region (EL_mv j7 rfl ?_))
      obtain ⟨z4, oB, h⟩ := bsome h
      refine EL_p (ePtr up1 o0 5) (P_indexAddr (α := PayPiece) Tryz.underlying33 Tryz.sizeOf27 d9 u0 j7 oB) rfl ?_
      have zF := PT_idx u0 oB
      refine EL_do .plain rfl (D_load (g := cB) Tryz.isAgg27 Tryz.sizeOf27 rfl zF fun aG dB => ?_)
      refine EL_do .plain rfl (D_allocOc (g := cB) 2011 (⟨0, 0, 0, [], 0⟩ : PayPiece) Tryz.zeroValue27 (fun m w => ⟨_, (rep_two rep_int (rep_two rep_int (rep_two rep_int (rep_two rep_nil rep_int)))), rfl⟩) fun yC bG x8 hs b163 cb => ?_)
      have hfr := hfr.stp hs
      have j1 := j1.stp hs
      have i3 := i3.stp hs
      have j3 := j3.stp hs rfl
      have o3 := o3.stp hs rfl
      have u0 := u0.stp hs
      have dB := dB.stp hs
      have lH : OSF 2011 61103 3 yC bG 3 27 ([] : List Int) x8 := cb.osf (by rfl)
      clear cb
      refine EL_at (.int .i64 (o0)) rfl rfl ?_
      refine EL_do .plain rfl (D_storeOc (g := yC) (v := aG) Tryz.sizeOf27 rfl b163 rfl dB fun eB dI hs b164 cb => ?_)
      clear cb
      have hfr := hfr.stp hs
      have j1 := j1.stp hs
      have i3 := i3.stp hs
      have j3 := j3.stp hs rfl
      have o3 := o3.stp hs rfl
      have u0 := u0.stp hs
      refine EL_nil (thn_n (E_seq (E_region (EL_do .plain rfl (D_load (g := eB) Tryz.isAgg25 Tryz.sizeOf25 nA j1 fun cG dG => ?_)))))
      refine EL_do .plain rfl (D_loadO (g := eB) Tryz.isAgg27 Tryz.sizeOf27 rfl b164 fun eG gG => ?_)
      obtain ⟨y168, iF, h⟩ := bsome h
      refine EL_do .plain rfl (D_call (g := eB) (vs := [cG, eG]) en55 (.cons rfl (.cons rfl .nil)) (wk55 dG gG iF) fun hG sH iI hs hr => ?_)
      have hfr := hfr.ext hs
      have j1 := j1.ext hs
      have i3 := i3.ext hs
      have j3 := j3.ext hs
      have o3 := o3.ext hs
      have u0 := u0.ext hs
      have b164 := b164.ext hs
      obtain ⟨y8, mH, rfl, a9, rfl⟩ := hr
      refine EL_mw (.tuple #[y8, .int .i64 (y168.2)]) rfl rfl ?_
      refine EL_p y8 (P_extract rfl rfl) rfl ?_
      refine EL_p (.int .i64 (y168.2)) (P_extract rfl rfl) rfl ?_
      refine EL_do .plain rfl (D_allocOc (g := hG) 2012 (⟨⟨[], [], 0, 0⟩⟩ : PayPayList) Tryz.zeroValue117 (fun m w => ⟨_, (rep_two rep_nil (rep_two rep_nil (rep_two rep_int rep_int))), rfl⟩) fun iB aD bA hs b169 cb => ?_)
      have hfr := hfr.stp hs
      have j1 := j1.stp hs
      have i3 := i3.stp hs
      have j3 := j3.stp hs rfl
      have o3 := o3.stp hs rfl
      have u0 := u0.stp hs
      have b164 := b164.stp hs rfl
      have a9 := a9.stp hs
      have nH : OSF 2012 61200 0 iB aD 87 117 ([] : List PayRate) bA := cb.osf (by rfl)
      have oH : OSF 2012 61201 1 iB aD 3 117 ([] : List Int) bA := cb.osf (by rfl)
      clear cb
      refine EL_do .plain rfl (D_storeOc (g := iB) (v := y8) Tryz.sizeOf117 rfl b169 rfl a9 fun iG jI hs b170 cb => ?_)
      clear cb
      have hfr := hfr.stp hs
      have j1 := j1.stp hs
      have i3 := i3.stp hs
      have j3 := j3.stp hs rfl
      have o3 := o3.stp hs rfl
      have u0 := u0.stp hs
      have b164 := b164.stp hs rfl
      refine EL_at (.int .i64 (y168.2)) rfl rfl ?_
      refine EL_nil (thn_n (E_joinC h (fun (s : (List Int)) e w => ∃ (g : Gh) (v5 : Value), Fr gI wI g w ∧ e 2 = p1 ∧ PT g.m w (x0 : PayList) p1 ∧ e 5 = v5 ∧ RV g.m w (s : List Int) v5 ∧ OS 1005 g w 3 (s : List Int) v5 ∧ e 9 = x5 ∧ MP (Value.int .i64) 8024 g w (z3 : List (Int × Int)) x5 ∧ e 11 = x8 ∧ OB 2011 g w 27 (z4 : PayPiece) x8 ∧ e 12 = bA ∧ OB 2012 g w 117 (y168.1 : PayPayList) bA ∧ e 25 = up1 ∧ RV g.m w (x1 : List PayPiece) up1 ∧ e 26 = .int .i64 (((x1).length : Int)) ∧ e 27 = .int .i64 (o0)) (fun X172 xC nF h => ?_) ?_))
      ·refine E_seq (E_region (EL_mw (.int .i64 (y168.2)) rfl rfl ?_))
       refine EL_in (.bool ((y168.2 != (0 : Int)))) rfl rfl rfl rfl ?_
       refine EL_nil (thn_n ?_)
       rcases csome h with ⟨gA, h⟩ | ⟨gA, h⟩
       ·refine E_ct gA rfl ?_
        refine E_seq (E_region (EL_mw (.int .i64 (o0)) rfl rfl ?_))
        refine EL_mw (.int .i64 (y168.2)) rfl rfl ?_
        refine EL_at (.slice none 0 0) rfl rfl ?_
        refine EL_at (.slice none 0 0) rfl rfl ?_
        refine EL_at (.int .i64 (o0)) rfl rfl ?_
        refine EL_at (.int .i64 (y168.2)) rfl rfl ?_
        refine EL_nil (thn_n (E_ret (thn_r ?_)))
        refine blk_r ?_
        refine thn_r ?_
        refine thn_r ?_
        refine blk_r ?_
        refine thn_r ?_
        obtain rfl := sinj h
        exact end4 rfl rfl (show _ = .slice none 0 0 from rfl) (show _ = .slice none 0 0 from rfl) (show _ = .int .i64 (o0) from rfl) (show _ = .int .i64 (y168.2) from rfl) ⟨_, hfr, _, _, _, _, rfl, RV_nil, RV_nil, rfl, rfl⟩
       ·refine E_cf gA rfl ?_
        exact E_skip (thn_n (nF (b7) _ _ ⟨iG, (mA), hfr, nA, j1, oA, i3, j3, pA, o3, rfl, b164, rfl, b170, d9, u0, i9, j7⟩ h))
      ·rintro t8 tH kI ⟨jG, bD, hfr, cD, c7, eD, d7, e7, qA, o7, l8, j6, vB, xB, yB, v6, zB, aC⟩ h
       refine L_loadO (x := .tmp 43) part_PayPiece_0.1 Tryz.isAgg3 Tryz.sizeOf3 j6 fun lI kG oF => ?_
       obtain rfl := RV_int.1 kG
       refine L_loadO0 (x := .tmp 12) Tryz.isAgg117 Tryz.sizeOf117 xB fun gD lG pF => ?_
       refine L_loadO0 (x := .tmp 11) Tryz.isAgg27 Tryz.sizeOf27 j6 fun iD mG qF => ?_
       refine L_loadO (x := .tmp 48) part_PayPiece_4.1 Tryz.isAgg3 Tryz.sizeOf3 j6 fun mI nG rF => ?_
       obtain rfl := RV_int.1 nG
       obtain ⟨k8, sF, h⟩ := bsome h
       refine E_drawL (g := jG) (n := 10) [(3, (fun v _ _ => v = .int .i64 (((mget z3 ((z4).Weaver)).getD (0 : Int))))), (8, (fun v g w => v = .int .i64 (k8)))] [0, 1, 2, 3, 4, 5, 6, 7, 8, 9] rfl mixed (by kernel_rfl) (⟨fun _ => up_eq _, fun _ => up_eq _, trivial⟩) ?_
       refine L_p x5 rfl rfl (P_move qA) ?_
       refine L_p (fPtr x8 0) rfl rfl (P_fieldAddr at_27_0 l8 (OB.ptr j6)) ?_
       refine L_ld (c := .int .i64 ((z4).Weaver)) rfl rfl .plain (fun _ _ h => ⟨h.ch, fun b hb _ => h.below.block b hb⟩) oF rfl ?_
       refine L_do (φ := (fun v _ _ => v = .int .i64 (((mget z3 ((z4).Weaver)).getD (0 : Int))))) rfl rfl .plain (fun g w hd => D_lookup (g := g) (z0 := (0 : Int)) Tryz.underlying125 key_3 Tryz.zeroValue3 (fun m w => ⟨_, rep_int, rfl⟩) rfl (o7.ext hd.1) rfl fun v r => ⟨g, Ext.refl g w, RV_int.1 r⟩) (fun nI hv => ?_)
       obtain ⟨_, _, _, rfl⟩ := hv
       refine L_ld (c := gD) rfl rfl .plain (fun _ _ h => ⟨h.ch, fun b hb _ => h.below.block b hb⟩) pF vB ?_
       refine L_ld (c := iD) rfl rfl .plain (fun _ _ h => ⟨h.ch, fun b hb _ => h.below.block b hb⟩) qF l8 ?_
       refine L_p (fPtr x8 4) rfl rfl (P_fieldAddr at_27_4 l8 (OB.ptr j6)) ?_
       refine L_ld (c := .int .i64 ((z4).Faults)) rfl rfl .plain (fun _ _ h => ⟨h.ch, fun b hb _ => h.below.block b hb⟩) rF rfl ?_
       refine L_do (φ := fun v g w => v = .int .i64 (k8)) rfl rfl .plain (fun g w hd => D_call (g := g) (vs := [gD, iD, .int .i64 ((z4).Faults)]) en58 (.cons rfl (.cons rfl (.cons rfl .nil))) (wk58 (lG.ext hd.1) (mG.ext hd.1) sF) fun g' w' v hs hr => ⟨g', hs, hr⟩) (fun pI hv => ?_)
       obtain ⟨_, _, _, rfl⟩ := hv
       refine L_p (.int .i64 ((w64 (((mget z3 ((z4).Weaver)).getD (0 : Int)) + k8)))) rfl rfl (P_int rfl rfl rfl) ?_
       refine L_nl fun oG qI hs => ?_
       have hfr := hfr.ext hs
       have c7 := c7.ext hs
       have d7 := d7.ext hs
       have e7 := e7.ext hs
       have o7 := o7.ext hs
       have v6 := v6.ext hs
       clear hs
       refine EL_do .plain rfl (D_mapUpdate (g := oG) Tryz.underlying125 key_3 rfl o7 rfl rfl (RV_int.2 rfl) fun pG rI hs m203 => ?_)
       have hfr := hfr.stp hs
       have c7 := c7.stp hs
       have d7 := d7.stp hs
       have e7 := e7.stp hs rfl
       have v6 := v6.stp hs
       exact EL_nil (blk_n (thn_n (eF (t8, (mset z3 ((z4).Weaver) ((w64 (((mget z3 ((z4).Weaver)).getD (0 : Int)) + k8))))) _ _ ⟨pG, (bD), hfr, cD, c7, eD, d7, e7, qA, m203, yB, v6, zB, aC⟩ h)))
     ·rintro ⟨q8, r8⟩ uH sI ⟨qG, jD, hfr, kD, lD, mD, nD, oD, sD, tD, cC, dC, eC, iC⟩ h
      refine E_region (EL_in (.int .i64 ((w64 (o0 + (1 : Int))))) iC rfl rfl rfl ?_)
      refine EL_mw (.int .i64 ((w64 (o0 + (1 : Int))))) rfl rfl ?_
      exact EL_nil (thn_n (dF (q8, r8, (w64 (o0 + (1 : Int)))) _ _ ⟨qG, (jD), hfr, kD, lD, mD, nD, oD, sD, tD, cC, dC, eC, rfl⟩ h))
    ·refine E_cf z9 rfl ?_
     refine E_exit ?_
     refine thn_e ?_
     refine thn_e ?_
     refine blk_hit ?_
     exact thn_n (cF (b7, z3) _ _ ⟨cB, (mA), hfr, oA, i3, j3, pA, o3⟩ h)
   ·rintro ⟨lA, t5⟩ vH tI ⟨rG, uD, hfr, vD, g7, i7, rA, i6⟩ h
    refine E_seq (E_region (EL_mv rA rfl ?_))
    refine EL_do .plain rfl (D_callG (g := rG) (vs := [x5]) en60 (.cons rfl .nil) (keys_fnG Tryz.keys_ok i6) fun sG uI tG hs m206 => ?_)
    have hfr := hfr.ext hs
    have g7 := g7.ext hs
    have i7 := i7.ext hs
    have i6 := i6.ext hs
    obtain ⟨l5, tF, h⟩ := bsome h
    refine EL_do .plain rfl (D_callG (g := sG) (vs := [tG]) en59 (.cons rfl .nil) (sorted_fnG Tryz.underlying3 Tryz.sorted_ok i6 m206 tF) fun uG vI i5 hs jB => ?_)
    have hfr := hfr.ext hs
    have g7 := g7.ext hs
    have i7 := i7.ext hs
    have i6 := i6.ext hs
    refine EL_at i5 rfl rfl ?_
    refine EL_nil (thn_n ?_)
    obtain ⟨m7, hx, h⟩ := bsome h
    refine E_join (fun e w => ∃ (g : Gh) (v5 : Value), Fr gI wI g w ∧ e 4 = i5 ∧ RV g.m w (l5 : List Int) i5 ∧ e 5 = v5 ∧ RV g.m w (m7 : List Int) v5 ∧ OS 1005 g w 3 (m7 : List Int) v5) (fun Q' hQ => ?_) (fun xH xI hR => ?_)
    ·replace h := hx
     clear hx
     refine E_seq (E_region (EL_mw i5 rfl rfl ?_))
     refine EL_p (.int .i64 ((l5).length : Int)) (P_len Tryz.underlying23 rfl jB) rfl ?_
     refine EL_mw (.int .i64 (0)) rfl rfl ?_
     refine EL_nil (thn_n (E_block ?_))
     refine E_lp h (fun (s : (List Int) × Int) e w => ∃ (g : Gh) (v5 : Value), Fr gI wI g w ∧ e 4 = i5 ∧ RV g.m w (l5 : List Int) i5 ∧ e 5 = v5 ∧ RV g.m w (s.1 : List Int) v5 ∧ OS 1005 g w 3 (s.1 : List Int) v5 ∧ e 9 = x5 ∧ MP (Value.int .i64) 8024 g w (t5 : List (Int × Int)) x5 ∧ e 56 = i5 ∧ RV g.m w (l5 : List Int) i5 ∧ e 57 = .int .i64 (((l5).length : Int)) ∧ e 58 = .int .i64 (s.2)) ⟨uG, (uD), hfr, rfl, jB, vD, g7, i7, rA, i6, rfl, jB, rfl, rfl⟩ (fun X227 qC uF => ?_)
     rintro ⟨o8, u3⟩ yH yI ⟨iA, xD, hfr, uA, x6, xA, u7, c8, yA, y6, k9, q5, l9, m8⟩ h
     refine E_seq (E_region (EL_in (.bool ((decide (u3 < ((l5).length : Int))))) m8 l9 rfl rfl ?_))
     refine EL_nil (thn_n (E_seq ?_))
     rcases csome h with ⟨jA, h⟩ | ⟨jA, h⟩
     ·refine E_ct jA rfl ?_
      refine E_skip (thn_n ?_)
      obtain ⟨a7, hx, h⟩ := bsome h
      refine E_join (fun e w => ∃ (g : Gh) (v5 : Value), Fr gI wI g w ∧ e 4 = i5 ∧ RV g.m w (l5 : List Int) i5 ∧ e 5 = v5 ∧ RV g.m w (a7 : List Int) v5 ∧ OS 1005 g w 3 (a7 : List Int) v5 ∧ e 9 = x5 ∧ MP (Value.int .i64) 8024 g w (t5 : List (Int × Int)) x5 ∧ e 56 = i5 ∧ RV g.m w (l5 : List Int) i5 ∧ e 57 = .int .i64 (((l5).length : Int)) ∧ e 58 = .int .i64 (u3)) (fun Q' hQ => ?_) (fun zH zI hR => ?_)
      ·replace h := hx
       clear hx
       refine E_block ?_
       refine E_seq (E_region ?_)
       obtain ⟨i8, tB, h⟩ := bsome h
       refine EL_p (ePtr i5 u3 1) (P_indexAddr (α := Int) Tryz.underlying23 Tryz.sizeOf3 k9 q5 m8 tB) rfl ?_
       have vG := PT_idx q5 tB
       refine EL_do .plain rfl (D_load (g := iA) Tryz.isAgg3 Tryz.sizeOf3 rfl vG fun aJ xG => ?_)
       obtain rfl := RV_int.1 xG
       refine EL_at (.int .i64 (i8)) rfl rfl ?_
       refine EL_nil (thn_n (E_region (EL_mv xA rfl ?_)))
       refine EL_mv yA rfl ?_
       refine EL_mw (.int .i64 (i8)) rfl rfl ?_
       refine EL_do .plain rfl (D_lookup (g := iA) (z0 := (0 : Int)) Tryz.underlying125 key_3 Tryz.zeroValue3 (fun m w => ⟨_, rep_int, rfl⟩) rfl y6 rfl fun bJ yG => ?_)
       obtain rfl := RV_int.1 yG
       refine EL_do .plain rfl (D_buildSlice (g := iA) 3066 (xs := ([((mget t5 i8).getD (0 : Int))] : List Int)) (vs := [.int .i64 (((mget t5 i8).getD (0 : Int)))]) Tryz.underlying23 Tryz.sizeOf3 Tryz.zeroValue3 rfl rfl (.cons rfl .nil) (RVs.cons (RV_int.2 rfl) RVs.nil) rfl rfl fun zG cJ dJ hs o241 aH hxt hfl => ?_)
       have hfr := hfr.stp hs
       have x6 := x6.stp hs
       have u7 := u7.stp hs
       have c8 := c8.stp hs rfl
       have y6 := y6.stp hs rfl
       have q5 := q5.stp hs
       obtain ⟨rC, vF, h⟩ := bsome h
       refine EL_do .plain rfl (D_append (g := zG) (i := 1005) Tryz.underlying23 info_3 rfl rfl c8 u7 rfl aH vF fun bH eJ yD hs o242 cH _ => ?_)
       have hfr := hfr.stp hs
       have x6 := x6.stp hs
       have y6 := y6.stp hs rfl
       have q5 := q5.stp hs
       refine EL_at yD rfl rfl ?_
       refine EL_nil (blk_n ?_)
       obtain rfl := sinj h
       exact hQ _ _ ⟨bH, (yD), hfr, uA, x6, rfl, cH, o242, yA, y6, k9, q5, l9, m8⟩
      ·clear hx
       obtain ⟨dH, zD, hfr, aE, bE, cE, dE, eE, gE, iE, jC, kC, lC, mC⟩ := hR
       refine E_region (EL_in (.int .i64 ((w64 (u3 + (1 : Int))))) mC rfl rfl rfl ?_)
       refine EL_mw (.int .i64 ((w64 (u3 + (1 : Int))))) rfl rfl ?_
       exact EL_nil (thn_n (uF (a7, (w64 (u3 + (1 : Int)))) _ _ ⟨dH, (zD), hfr, aE, bE, cE, dE, eE, gE, iE, jC, kC, lC, rfl⟩ h))
     ·refine E_cf jA rfl ?_
      refine E_exit ?_
      refine thn_e ?_
      refine thn_e ?_
      refine blk_hit ?_
      obtain rfl := sinj h
      exact hQ _ _ ⟨iA, (xD), hfr, uA, x6, xA, u7, c8⟩
    ·clear hx
     obtain ⟨gJ, zA, hfr, jE, kE, lE, mE, pH⟩ := hR
     refine E_seq (E_region (EL_mv jE rfl ?_))
     refine EL_mv lE rfl ?_
     refine EL_at i5 rfl rfl ?_
     refine EL_at zA rfl rfl ?_
     refine EL_at (.int .i64 (0)) rfl rfl ?_
     refine EL_at (.int .i64 (0)) rfl rfl ?_
     refine EL_nil (thn_n (E_ret ?_))
     obtain rfl := sinj h
     exact end4 rfl rfl (show _ = i5 from rfl) (show _ = zA from rfl) (show _ = .int .i64 (0) from rfl) (show _ = .int .i64 (0) from rfl) ⟨_, hfr, _, _, _, _, rfl, kE, mE, rfl, rfl⟩
def f4 (x0 : PayList) (x1 : List PayPiece) : Option (Bool) :=
 jn (σ := Unit) (fun _ =>
  jn (σ := Unit) (fun _ =>
   (f13 x0).bind fun bG =>
   (f14 x1).bind fun cG =>
   (f27 bG cG).bind fun y84 =>
   jn (σ := Unit) (fun _ =>
    (f18 x0).bind fun v6 =>
    Option.bind (α := Int) (
     Option.bind (α := Bool) (
      bif (v6 == (0 : Int)) then
       some ((decide (((x1).length : Int) > (50 : Int))))
      else
       some (false)
      ) fun x6 =>
     bif x6 then
      some ((5 : Int))
     else
      some (v6)
     ) fun i9 =>
    Option.bind (α := Int × Int) (
     lp (σ := Int × Int × Int) (fun dG (z4, y6, j1) =>
      jn (σ := Unit) (fun _ =>
       Option.bind (α := Int × Int) (
        (idx x1 j1).bind fun eG =>
        (f21 x0 eG).bind fun d7 =>
        bif (d7 != (0 : Int)) then
         some (d7, j1)
        else
         some (d7, y6)
        ) fun (i8, k8) =>
       dG (i8, k8, (w64 (j1 + (1 : Int))))
       ) fun gG =>
      Option.bind (α := Bool) (
       bif (decide (j1 < ((x1).length : Int))) then
        some ((z4 == (0 : Int)))
       else
        some (false)
       ) fun a7 =>
      bif a7 then
       gG ()
      else
       some (z4, y6)
      ) big (i9, (0 : Int), (0 : Int))
     ) fun (o3, u3) =>
    jn (σ := Unit) (fun _ =>
     (f28 x0 x1).bind fun iE =>
     Option.bind (α := Bool) (
      bif (y84.2.2.2 == (0 : Int)) then
       bif (y84.2.2.1 == (0 : Int)) then
        (f29 (y84.1) (iE.1)).bind fun k9 =>
        bif k9 then
         (f29 (y84.2.1) (iE.2)).bind fun l9 =>
         bif l9 then
          (f12).bind fun vB =>
          some (vB)
         else
          some (false)
        else
         some (false)
       else
        some (false)
      else
       some (false)
      ) fun q8 =>
     some (q8)
     ) fun hG =>
    bif (o3 != (0 : Int)) then
     Option.bind (α := Bool) (
      bif (y84.2.2.2 == o3) then
       bif (y84.2.2.1 == u3) then
        bif (((y84.1).length : Int) == (0 : Int)) then
         bif (((y84.2.1).length : Int) == (0 : Int)) then
          (f12).bind fun xB =>
          some (xB)
         else
          some (false)
        else
         some (false)
       else
        some (false)
      else
       some (false)
      ) fun r8 =>
     some (r8)
    else
     hG ()
    ) fun iG =>
   Option.bind (α := Bool) (
    (f19 bG x0).bind fun n9 =>
    bif (!n9) then
     some (true)
    else
     (f20 cG x1).bind fun yB =>
     some ((!yB))
    ) fun b7 =>
   bif b7 then
    some (false)
   else
    iG ()
   ) fun dK =>
  lp (σ := Int) (fun eK z3 =>
   jn (σ := Unit) (fun _ =>
    jn (σ := Unit) (fun _ =>
     eK ((w64 (z3 + (1 : Int))))
     ) fun lK =>
    (idx x1 z3).bind fun nE =>
    bif (decide ((((nE).Extras).length : Int) > (12 : Int))) then
     (f12).bind fun oE =>
     some (oE)
    else
     lK ()
    ) fun k54 =>
   bif (decide (z3 < ((x1).length : Int))) then
    k54 ()
   else
    dK ()
   ) big ((0 : Int))
  ) fun mK =>
 Option.bind (α := Bool) (
  (f11 x0).bind fun lC =>
  bif lC then
   some (true)
  else
   some ((decide (((x1).length : Int) > (60 : Int))))
  ) fun j7 =>
 bif j7 then
  (f12).bind fun rE =>
  some (rE)
 else
  mK ()
theorem wk4 {gI : Gh} {wI : World} {x0 : PayList} {x1 : List PayPiece} {up0 : Value} (rp0 : RV gI.m wI x0 up0) {up1 : Value} (rp1 : RV gI.m wI x1 up1) {r : Bool} (h : f4 x0 x1 = some r) : Fn Tryz.prog 4 #[up0, up1] gI wI (fun _ _ v => v = .bool (r)) := by
 unfold f4 at h
 refine fn_of_E Tryz.func4 rfl (Nat.le_of_ble_eq_true rfl) fun g0 hm hfr => ?_
 have rp0 : RV g0.m wI x0 up0 := hm ▸ rp0
 have rp1 : RV g0.m wI x1 up1 := hm ▸ rp1
 show E _ 137 none _ _ _ _ _
 refine E_seq (E_region (EL_do .plain rfl (D_box (g := g0) rfl rp0 fun g1 w1 p1 hs q1 => ?_)))
 have hfr := hfr.ext hs
 have rp1 := rp1.ext hs
 refine EL_at (.bool false) rfl rfl ?_
 refine EL_nil (thn_n (E_joinC h (fun (s : Unit) e w => ∃ (g : Gh) , Fr gI wI g w ∧ e 1 = up1 ∧ RV g.m w (x1 : List PayPiece) up1 ∧ e 2 = p1 ∧ PT g.m w (x0 : PayList) p1) (fun X14 mK xK h => ?_) ?_))
 ·obtain ⟨j7, hx, h⟩ := bsome h
  refine E_join (fun e w => ∃ (g : Gh) , Fr gI wI g w ∧ e 1 = up1 ∧ RV g.m w (x1 : List PayPiece) up1 ∧ e 2 = p1 ∧ PT g.m w (x0 : PayList) p1 ∧ e 23 = .bool (j7)) (fun Q' hQ => ?_) (fun yN nP hR => ?_)
  ·replace h := hx
   clear hx
   refine E_region (EL_do .plain rfl (D_load (g := g1) Tryz.isAgg25 Tryz.sizeOf25 rfl q1 fun gM iM => ?_))
   obtain ⟨lC, yK, h⟩ := bsome h
   refine EL_do .plain rfl (D_call (g := g1) (vs := [gM]) en11 (.cons rfl .nil) (wk11 iM yK) fun nK zN oP hs hr => ?_)
   have hfr := hfr.ext hs
   have rp1 := rp1.ext hs
   have q1 := q1.ext hs
   subst hr
   refine EL_mw (.bool (lC)) rfl rfl ?_
   rcases csome h with ⟨e7, h⟩ | ⟨e7, h⟩
   ·refine EL_s rfl rfl e7 rfl rfl ?_
    refine EL_s rfl rfl e7 rfl rfl ?_
    refine EL_s rfl rfl e7 rfl rfl ?_
    refine EL_p (.bool true) (P_pick (b := lC) rfl (pick_t e7 rfl)) rfl ?_
    refine EL_nil ?_
    obtain rfl := sinj h
    exact hQ _ _ ⟨nK, hfr, rfl, rp1, rfl, q1, rfl⟩
   ·refine EL_y up1 (P_move rfl) rfl rfl e7 rfl ?_
    refine EL_y (.int .i64 ((x1).length : Int)) (P_len Tryz.underlying33 rfl rp1) rfl rfl e7 rfl ?_
    refine EL_y (.bool ((decide (((x1).length : Int) > (60 : Int))))) (P_int rfl rfl rfl) rfl rfl e7 rfl ?_
    refine EL_p (.bool ((decide (((x1).length : Int) > (60 : Int))))) (P_pick (b := lC) rfl (pick_f e7 rfl)) rfl ?_
    refine EL_nil ?_
    obtain rfl := sinj h
    exact hQ _ _ ⟨nK, hfr, rfl, rp1, rfl, q1, rfl⟩
  ·clear hx
   obtain ⟨oK, hfr, vI, xI, yI, zI, mC⟩ := hR
   rcases csome h with ⟨jE, h⟩ | ⟨jE, h⟩
   ·refine E_cond_true (Eq.trans (show ev _ _ = .bool (j7) from mC) (congrArg Value.bool jE)) ?_
    refine E_seq (E_region ?_)
    obtain ⟨rE, zK, h⟩ := bsome h
    refine EL_do .plain rfl (D_call (g := oK) (vs := []) en12 .nil (wk12  zK) fun pP aO sP hs hr => ?_)
    have hfr := hfr.ext hs
    subst hr
    refine EL_at (.bool (rE)) rfl rfl ?_
    refine EL_nil (thn_n (E_ret (thn_r ?_)))
    obtain rfl := sinj h
    exact end1 rfl rfl (show _ = .bool (rE) from rfl) ⟨_, hfr, rfl⟩
   ·refine E_cond_false (Eq.trans (show ev _ _ = .bool (j7) from mC) (congrArg Value.bool jE)) ?_
    exact E_skip (thn_n (xK () _ _ ⟨oK, hfr, vI, xI, yI, zI⟩ h))
 ·rintro _ bO tP ⟨jM, hfr, aJ, bJ, cJ, dJ⟩ h
  refine E_joinC h (fun (s : Unit) e w => ∃ (g : Gh) , Fr gI wI g w ∧ e 1 = up1 ∧ RV g.m w (x1 : List PayPiece) up1 ∧ e 2 = p1 ∧ PT g.m w (x0 : PayList) p1) (fun X50 dK aL h => ?_) ?_
  ·refine E_seq (E_region (EL_at (.int .i64 (0)) rfl rfl ?_))
   refine EL_nil (thn_n (E_block ?_))
   refine E_lp h (fun (s : Int) e w => ∃ (g : Gh) , Fr gI wI g w ∧ e 1 = up1 ∧ RV g.m w (x1 : List PayPiece) up1 ∧ e 2 = p1 ∧ PT g.m w (x0 : PayList) p1 ∧ e 5 = .int .i64 (s)) ⟨jM, hfr, aJ, bJ, cJ, dJ, rfl⟩ (fun X51 eK bL => ?_)
   rintro z3 cO uP ⟨pK, hfr, zB, aC, sE, tE, uE⟩ h
   refine E_joinC h (fun (s : Unit) e w => ∃ (g : Gh) , Fr gI wI g w ∧ e 1 = up1 ∧ RV g.m w (x1 : List PayPiece) up1 ∧ e 2 = p1 ∧ PT g.m w (x0 : PayList) p1 ∧ e 5 = .int .i64 (z3)) (fun X54 k54 cL h => ?_) ?_
   ·refine E_seq (E_region (EL_mv uE rfl ?_))
    refine EL_mv zB rfl ?_
    refine EL_p (.int .i64 ((x1).length : Int)) (P_len Tryz.underlying33 rfl aC) rfl ?_
    refine EL_in (.bool ((decide (z3 < ((x1).length : Int))))) rfl rfl rfl rfl ?_
    refine EL_nil (thn_n ?_)
    rcases csome h with ⟨kE, h⟩ | ⟨kE, h⟩
    ·refine E_ct kE rfl ?_
     exact E_skip (thn_n (cL () _ _ ⟨pK, hfr, zB, aC, sE, tE, uE⟩ h))
    ·refine E_cf kE rfl ?_
     refine E_exit ?_
     refine thn_e ?_
     refine thn_e ?_
     refine blk_hit ?_
     exact thn_n (aL () _ _ ⟨pK, hfr, zB, aC, sE, tE⟩ h)
   ·rintro _ dO vP ⟨jG, hfr, vE, cC, eJ, gJ, xE⟩ h
    refine E_joinC h (fun (s : Unit) e w => ∃ (g : Gh) , Fr gI wI g w ∧ e 1 = up1 ∧ RV g.m w (x1 : List PayPiece) up1 ∧ e 2 = p1 ∧ PT g.m w (x0 : PayList) p1 ∧ e 5 = .int .i64 (z3)) (fun X65 lK dL h => ?_) ?_
    ·refine E_block ?_
     refine E_seq (E_region (EL_mv vE rfl ?_))
     refine EL_mv xE rfl ?_
     obtain ⟨nE, kG, h⟩ := bsome h
     refine EL_p (ePtr up1 z3 5) (P_indexAddr (α := PayPiece) Tryz.underlying33 Tryz.sizeOf27 rfl cC rfl kG) rfl ?_
     have qK := PT_idx cC kG
     refine EL_p (fPtr (ePtr up1 z3 5) 3) (P_fieldAddr at_27_3 rfl (PT.ptr qK)) rfl ?_
     have kM := PT_field (part_PayPiece_3).1 qK
     refine EL_do .plain rfl (D_load (g := jG) Tryz.isAgg23 Tryz.sizeOf23 rfl kM fun xP mM => ?_)
     refine EL_p (.int .i64 (((nE).Extras).length : Int)) (P_len Tryz.underlying23 rfl mM) rfl ?_
     refine EL_p (.bool ((decide ((((nE).Extras).length : Int) > (12 : Int))))) (P_int rfl rfl rfl) rfl ?_
     refine EL_nil (thn_n ?_)
     rcases csome h with ⟨lE, h⟩ | ⟨lE, h⟩
     ·refine E_ct lE rfl ?_
      refine E_seq (E_region ?_)
      obtain ⟨oE, eL, h⟩ := bsome h
      refine EL_do .plain rfl (D_call (g := jG) (vs := []) en12 .nil (wk12  eL) fun yP eO zP hs hr => ?_)
      have hfr := hfr.ext hs
      subst hr
      refine EL_at (.bool (oE)) rfl rfl ?_
      refine EL_nil (thn_n (E_ret (blk_r ?_)))
      refine thn_r ?_
      refine thn_r ?_
      refine blk_r ?_
      refine thn_r ?_
      obtain rfl := sinj h
      exact end1 rfl rfl (show _ = .bool (oE) from rfl) ⟨_, hfr, rfl⟩
     ·refine E_cf lE rfl ?_
      exact E_skip (blk_n (thn_n (dL () _ _ ⟨jG, hfr, vE, cC, eJ, gJ, xE⟩ h)))
    ·rintro _ gO bQ ⟨nM, hfr, iJ, jJ, kJ, lJ, mJ⟩ h
     refine E_region (EL_mv mJ rfl ?_)
     refine EL_in (.int .i64 ((w64 (z3 + (1 : Int))))) rfl rfl rfl rfl ?_
     refine EL_at (.int .i64 ((w64 (z3 + (1 : Int))))) rfl rfl ?_
     exact EL_nil (thn_n (bL ((w64 (z3 + (1 : Int)))) _ _ ⟨nM, hfr, iJ, jJ, kJ, lJ, rfl⟩ h))
  ·rintro _ iO cQ ⟨sK, hfr, y9, i3, z9, j3⟩ h
   refine E_seq (E_region (EL_do .plain rfl (D_load (g := sK) Tryz.isAgg25 Tryz.sizeOf25 z9 j3 fun oM pM => ?_)))
   obtain ⟨bG, gL, h⟩ := bsome h
   refine EL_do .plain rfl (D_call (g := sK) (vs := [oM]) en13 (.cons rfl .nil) (wk13 pM gL) fun qM jO rM hs hr => ?_)
   have hfr := hfr.ext hs
   have i3 := i3.ext hs
   have j3 := j3.ext hs
   have qC := hr
   refine EL_mv y9 rfl ?_
   obtain ⟨cG, iL, h⟩ := bsome h
   refine EL_do .plain rfl (D_call (g := qM) (vs := [up1]) en14 (.cons rfl .nil) (wk14 i3 iL) fun sM kO rC hs hr => ?_)
   have hfr := hfr.ext hs
   have i3 := i3.ext hs
   have j3 := j3.ext hs
   have qC := qC.ext hs
   have o8 := hr
   refine EL_do .plain rfl (D_allocOc (g := sM) 2006 (⟨[], [], 0, 0⟩ : PayList) Tryz.zeroValue25 (fun m w => ⟨_, (rep_two rep_nil (rep_two rep_nil (rep_two rep_int rep_int))), rfl⟩) fun lG tK uK hs b80 cb => ?_)
   have hfr := hfr.stp hs
   have i3 := i3.stp hs
   have j3 := j3.stp hs
   have qC := qC.stp hs
   have o8 := o8.stp hs
   have vM : OSF 2006 60600 0 lG tK 87 25 ([] : List PayRate) uK := cb.osf (by rfl)
   have xM : OSF 2006 60601 1 lG tK 3 25 ([] : List Int) uK := cb.osf (by rfl)
   clear cb
   refine EL_do .plain rfl (D_storeOc (g := lG) (v := rM) Tryz.sizeOf25 rfl b80 rfl qC fun vK dQ hs b81 cb => ?_)
   clear cb
   have hfr := hfr.stp hs
   have i3 := i3.stp hs
   have j3 := j3.stp hs
   have o8 := o8.stp hs
   refine EL_at rC rfl rfl ?_
   refine EL_nil (thn_n (E_seq (E_region (EL_do .plain rfl (D_loadO (g := vK) Tryz.isAgg25 Tryz.sizeOf25 rfl b81 fun tM uM => ?_)))))
   refine EL_mw rC rfl rfl ?_
   obtain ⟨y84, jL, h⟩ := bsome h
   refine EL_do .plain rfl (D_call (g := vK) (vs := [tM, rC]) en27 (.cons rfl (.cons rfl .nil)) (wk27 uM o8 jL) fun mG lO eQ hs hr => ?_)
   have hfr := hfr.ext hs
   have i3 := i3.ext hs
   have j3 := j3.ext hs
   have o8 := o8.ext hs
   have b81 := b81.ext hs
   obtain ⟨o0, u0, yM, zM, rfl, l8, m8, rfl, rfl⟩ := hr
   refine EL_mw (.tuple #[o0, u0, .int .i64 (y84.2.2.1), .int .i64 (y84.2.2.2)]) rfl rfl ?_
   refine EL_p o0 (P_extract rfl rfl) rfl ?_
   refine EL_p u0 (P_extract rfl rfl) rfl ?_
   refine EL_p (.int .i64 (y84.2.2.1)) (P_extract rfl rfl) rfl ?_
   refine EL_p (.int .i64 (y84.2.2.2)) (P_extract rfl rfl) rfl ?_
   refine EL_at o0 rfl rfl ?_
   refine EL_at u0 rfl rfl ?_
   refine EL_at (.int .i64 (y84.2.2.1)) rfl rfl ?_
   refine EL_at (.int .i64 (y84.2.2.2)) rfl rfl ?_
   refine EL_nil (thn_n (E_joinC h (fun (s : Unit) e w => ∃ (g : Gh) , Fr gI wI g w ∧ e 1 = up1 ∧ RV g.m w (x1 : List PayPiece) up1 ∧ e 2 = p1 ∧ PT g.m w (x0 : PayList) p1 ∧ e 8 = o0 ∧ RV g.m w (y84.1 : List Int) o0 ∧ e 9 = u0 ∧ RV g.m w (y84.2.1 : List Int) u0 ∧ e 10 = .int .i64 (y84.2.2.1) ∧ e 11 = .int .i64 (y84.2.2.2)) (fun X101 iG nJ h => ?_) ?_))
   ·obtain ⟨b7, hx, h⟩ := bsome h
    refine E_join (fun e w => ∃ (g : Gh) , Fr gI wI g w ∧ e 1 = up1 ∧ RV g.m w (x1 : List PayPiece) up1 ∧ e 2 = p1 ∧ PT g.m w (x0 : PayList) p1 ∧ e 8 = o0 ∧ RV g.m w (y84.1 : List Int) o0 ∧ e 9 = u0 ∧ RV g.m w (y84.2.1 : List Int) u0 ∧ e 10 = .int .i64 (y84.2.2.1) ∧ e 11 = .int .i64 (y84.2.2.2) ∧ e 60 = .bool (b7)) (fun Q' hQ => ?_) (fun bN mO hR => ?_)
    ·replace h := hx
     clear hx
     refine E_region (EL_do .plain rfl (D_loadO (g := mG) Tryz.isAgg25 Tryz.sizeOf25 rfl b81 fun lL mL => ?_))
     refine EL_do .plain rfl (D_load (g := mG) Tryz.isAgg25 Tryz.sizeOf25 z9 j3 fun nL oL => ?_)
     obtain ⟨n9, oJ, h⟩ := bsome h
     refine EL_do .plain rfl (D_call (g := mG) (vs := [lL, nL]) en19 (.cons rfl (.cons rfl .nil)) (wk19 mL oL oJ) fun nG cN nO hs hr => ?_)
     have hfr := hfr.ext hs
     have i3 := i3.ext hs
     have j3 := j3.ext hs
     have o8 := o8.ext hs
     have l8 := l8.ext hs
     have m8 := m8.ext hs
     subst hr
     refine EL_p (.bool (!n9)) (P_not rfl) rfl ?_
     refine EL_mw (.bool (!n9)) rfl rfl ?_
     rcases csome h with ⟨i5, h⟩ | ⟨i5, h⟩
     ·refine EL_s rfl rfl i5 rfl rfl ?_
      iterate 3 refine EL_s rfl rfl i5 rfl rfl ?_
      refine EL_p (.bool true) (P_pick (b := (!n9)) rfl (pick_t i5 rfl)) rfl ?_
      refine EL_nil ?_
      obtain rfl := sinj h
      exact hQ _ _ ⟨nG, hfr, y9, i3, z9, j3, rfl, l8, rfl, m8, rfl, rfl, rfl⟩
     ·refine EL_y rC (P_move rfl) rfl rfl i5 rfl ?_
      refine EL_y up1 (P_move y9) rfl rfl i5 rfl ?_
      obtain ⟨yB, pJ, h⟩ := bsome h
      refine EL_do (.yes2 rfl rfl i5) rfl (D_call (g := nG) (vs := [rC, up1]) en20 (.cons rfl (.cons rfl .nil)) (wk20 o8 i3 pJ) fun pL dN oO hs hr => ?_)
      have hfr := hfr.ext hs
      have i3 := i3.ext hs
      have j3 := j3.ext hs
      have l8 := l8.ext hs
      have m8 := m8.ext hs
      subst hr
      refine EL_y (.bool (!yB)) (P_not rfl) rfl rfl i5 rfl ?_
      refine EL_p (.bool (!yB)) (P_pick (b := (!n9)) rfl (pick_f i5 rfl)) rfl ?_
      refine EL_nil ?_
      obtain rfl := sinj h
      exact hQ _ _ ⟨pL, hfr, y9, i3, z9, j3, rfl, l8, rfl, m8, rfl, rfl, rfl⟩
    ·clear hx
     obtain ⟨qL, hfr, oG, pG, qG, rG, sG, tG, uG, vG, zE, cF, pA⟩ := hR
     rcases csome h with ⟨dC, h⟩ | ⟨dC, h⟩
     ·refine E_cond_true (Eq.trans (show ev _ _ = .bool (b7) from pA) (congrArg Value.bool dC)) ?_
      refine E_seq (E_region (EL_at (.bool false) rfl rfl ?_))
      refine EL_nil (thn_n (E_ret (thn_r ?_)))
      obtain rfl := sinj h
      exact end1 rfl rfl (show _ = .bool false from rfl) ⟨_, hfr, rfl⟩
     ·refine E_cond_false (Eq.trans (show ev _ _ = .bool (b7) from pA) (congrArg Value.bool dC)) ?_
      exact E_skip (thn_n (nJ () _ _ ⟨qL, hfr, oG, pG, qG, rG, sG, tG, uG, vG, zE, cF⟩ h))
   ·rintro _ eN pO ⟨xG, hfr, bA, m7, gA, o7, tC, t8, uC, v8, qA, rA⟩ h
    refine E_seq (E_region (EL_do .plain rfl (D_load (g := xG) Tryz.isAgg25 Tryz.sizeOf25 gA o7 fun rL tL => ?_)))
    obtain ⟨v6, qJ, h⟩ := bsome h
    refine EL_do .plain rfl (D_call (g := xG) (vs := [rL]) en18 (.cons rfl .nil) (wk18 tL qJ) fun yG gN qO hs hr => ?_)
    have hfr := hfr.ext hs
    have m7 := m7.ext hs
    have o7 := o7.ext hs
    have t8 := t8.ext hs
    have v8 := v8.ext hs
    subst hr
    refine EL_at (.int .i64 (v6)) rfl rfl ?_
    refine EL_at (.int .i64 (0)) rfl rfl ?_
    refine EL_nil (thn_n ?_)
    obtain ⟨i9, hx, h⟩ := bsome h
    refine E_join (fun e w => ∃ (g : Gh) , Fr gI wI g w ∧ e 1 = up1 ∧ RV g.m w (x1 : List PayPiece) up1 ∧ e 2 = p1 ∧ PT g.m w (x0 : PayList) p1 ∧ e 8 = o0 ∧ RV g.m w (y84.1 : List Int) o0 ∧ e 9 = u0 ∧ RV g.m w (y84.2.1 : List Int) u0 ∧ e 10 = .int .i64 (y84.2.2.1) ∧ e 11 = .int .i64 (y84.2.2.2) ∧ e 12 = .int .i64 (i9) ∧ e 13 = .int .i64 ((0 : Int))) (fun Q' hQ => ?_) (fun iN rO hR => ?_)
    ·replace h := hx
     clear hx
     obtain ⟨x6, hx, h⟩ := bsome h
     refine E_join (fun e w => ∃ (g : Gh) , Fr gI wI g w ∧ e 1 = up1 ∧ RV g.m w (x1 : List PayPiece) up1 ∧ e 2 = p1 ∧ PT g.m w (x0 : PayList) p1 ∧ e 8 = o0 ∧ RV g.m w (y84.1 : List Int) o0 ∧ e 9 = u0 ∧ RV g.m w (y84.2.1 : List Int) u0 ∧ e 10 = .int .i64 (y84.2.2.1) ∧ e 11 = .int .i64 (y84.2.2.2) ∧ e 12 = .int .i64 (v6) ∧ e 13 = .int .i64 ((0 : Int)) ∧ e 69 = .bool (x6)) (fun Q' hQ => ?_) (fun jN sO hR => ?_)
     ·replace h := hx
      clear hx
      refine E_region (EL_mw (.int .i64 (v6)) rfl rfl ?_)
      refine EL_in (.bool ((v6 == (0 : Int)))) rfl rfl rfl rfl ?_
      refine EL_mw (.bool ((v6 == (0 : Int)))) rfl rfl ?_
      rcases csome h with ⟨l5, h⟩ | ⟨l5, h⟩
      ·refine EL_y up1 (P_move bA) rfl rfl l5 rfl ?_
       refine EL_y (.int .i64 ((x1).length : Int)) (P_len Tryz.underlying33 rfl m7) rfl rfl l5 rfl ?_
       refine EL_y (.bool ((decide (((x1).length : Int) > (50 : Int))))) (P_int rfl rfl rfl) rfl rfl l5 rfl ?_
       refine EL_p (.bool ((decide (((x1).length : Int) > (50 : Int))))) (P_pick (b := (v6 == (0 : Int))) rfl (pick_t l5 rfl)) rfl ?_
       refine EL_nil ?_
       obtain rfl := sinj h
       exact hQ _ _ ⟨yG, hfr, bA, m7, gA, o7, tC, t8, uC, v8, qA, rA, rfl, rfl, rfl⟩
      ·refine EL_s rfl rfl l5 rfl rfl ?_
       refine EL_s rfl rfl l5 rfl rfl ?_
       refine EL_s rfl rfl l5 rfl rfl ?_
       refine EL_p (.bool false) (P_pick (b := (v6 == (0 : Int))) rfl (pick_f l5 rfl)) rfl ?_
       refine EL_nil ?_
       obtain rfl := sinj h
       exact hQ _ _ ⟨yG, hfr, bA, m7, gA, o7, tC, t8, uC, v8, qA, rA, rfl, rfl, rfl⟩
     ·clear hx
      obtain ⟨zG, hfr, vC, xC, yC, aD, bD, cD, eD, gD, uA, xA, dF, yA, zA⟩ := hR
      rcases csome h with ⟨eC, h⟩ | ⟨eC, h⟩
      ·refine E_cond_true (Eq.trans (show ev _ _ = .bool (x6) from zA) (congrArg Value.bool eC)) ?_
       refine E_region (EL_at (.int .i64 (5)) rfl rfl ?_)
       refine EL_nil ?_
       obtain rfl := sinj h
       exact hQ _ _ ⟨zG, hfr, vC, xC, yC, aD, bD, cD, eD, gD, uA, xA, rfl, yA⟩
      ·refine E_cond_false (Eq.trans (show ev _ _ = .bool (x6) from zA) (congrArg Value.bool eC)) ?_
       refine E_skip ?_
       obtain rfl := sinj h
       exact hQ _ _ ⟨zG, hfr, vC, xC, yC, aD, bD, cD, eD, gD, uA, xA, dF, yA⟩
    ·clear hx
     obtain ⟨uL, hfr, aH, bH, cH, dH, gH, iH, jH, kH, eF, iF, nF, oF⟩ := hR
     obtain ⟨⟨o3, u3⟩, hx, h⟩ := bsome h
     refine E_join (fun e w => ∃ (g : Gh) , Fr gI wI g w ∧ e 1 = up1 ∧ RV g.m w (x1 : List PayPiece) up1 ∧ e 2 = p1 ∧ PT g.m w (x0 : PayList) p1 ∧ e 8 = o0 ∧ RV g.m w (y84.1 : List Int) o0 ∧ e 9 = u0 ∧ RV g.m w (y84.2.1 : List Int) u0 ∧ e 10 = .int .i64 (y84.2.2.1) ∧ e 11 = .int .i64 (y84.2.2.2) ∧ e 12 = .int .i64 (o3) ∧ e 13 = .int .i64 (u3)) (fun Q' hQ => ?_) (fun kN tO hR => ?_)
     ·replace h := hx
      clear hx
      refine E_seq (E_region (EL_at (.int .i64 (0)) rfl rfl ?_))
      refine EL_nil (thn_n (E_block ?_))
      refine E_lp h (fun (s : Int × Int × Int) e w => ∃ (g : Gh) , Fr gI wI g w ∧ e 1 = up1 ∧ RV g.m w (x1 : List PayPiece) up1 ∧ e 2 = p1 ∧ PT g.m w (x0 : PayList) p1 ∧ e 8 = o0 ∧ RV g.m w (y84.1 : List Int) o0 ∧ e 9 = u0 ∧ RV g.m w (y84.2.1 : List Int) u0 ∧ e 10 = .int .i64 (y84.2.2.1) ∧ e 11 = .int .i64 (y84.2.2.2) ∧ e 12 = .int .i64 (s.1) ∧ e 13 = .int .i64 (s.2.1) ∧ e 14 = .int .i64 (s.2.2)) ⟨uL, hfr, aH, bH, cH, dH, gH, iH, jH, kH, eF, iF, nF, oF, rfl⟩ (fun X190 dG rJ => ?_)
      rintro ⟨z4, y6, j1⟩ lN uO ⟨lH, hfr, iA, jA, iD, jD, kD, lD, mD, nD, aB, bB, o9, cB, t9⟩ h
      refine E_joinC h (fun (s : Unit) e w => ∃ (g : Gh) , Fr gI wI g w ∧ e 1 = up1 ∧ RV g.m w (x1 : List PayPiece) up1 ∧ e 2 = p1 ∧ PT g.m w (x0 : PayList) p1 ∧ e 8 = o0 ∧ RV g.m w (y84.1 : List Int) o0 ∧ e 9 = u0 ∧ RV g.m w (y84.2.1 : List Int) u0 ∧ e 10 = .int .i64 (y84.2.2.1) ∧ e 11 = .int .i64 (y84.2.2.2) ∧ e 13 = .int .i64 (y6) ∧ e 14 = .int .i64 (j1)) (fun X196 gG sJ h => ?_) ?_
      ·obtain ⟨a7, hx, h⟩ := bsome h
       refine E_join (fun e w => ∃ (g : Gh) , Fr gI wI g w ∧ e 1 = up1 ∧ RV g.m w (x1 : List PayPiece) up1 ∧ e 2 = p1 ∧ PT g.m w (x0 : PayList) p1 ∧ e 8 = o0 ∧ RV g.m w (y84.1 : List Int) o0 ∧ e 9 = u0 ∧ RV g.m w (y84.2.1 : List Int) u0 ∧ e 10 = .int .i64 (y84.2.2.1) ∧ e 11 = .int .i64 (y84.2.2.2) ∧ e 12 = .int .i64 (z4) ∧ e 13 = .int .i64 (y6) ∧ e 14 = .int .i64 (j1) ∧ e 77 = .bool (a7)) (fun Q' hQ => ?_) (fun mN vO hR => ?_)
       ·replace h := hx
        clear hx
        refine E_region (EL_mv t9 rfl ?_)
        refine EL_mv iA rfl ?_
        refine EL_p (.int .i64 ((x1).length : Int)) (P_len Tryz.underlying33 rfl jA) rfl ?_
        refine EL_in (.bool ((decide (j1 < ((x1).length : Int))))) rfl rfl rfl rfl ?_
        refine EL_mw (.bool ((decide (j1 < ((x1).length : Int))))) rfl rfl ?_
        rcases csome h with ⟨g7, h⟩ | ⟨g7, h⟩
        ·refine EL_y (.int .i64 (z4)) (P_move o9) rfl rfl g7 rfl ?_
         refine EL_y (.bool ((z4 == (0 : Int)))) (P_int rfl rfl rfl) rfl rfl g7 rfl ?_
         refine EL_p (.bool ((z4 == (0 : Int)))) (P_pick (b := (decide (j1 < ((x1).length : Int)))) rfl (pick_t g7 rfl)) rfl ?_
         refine EL_nil ?_
         obtain rfl := sinj h
         exact hQ _ _ ⟨lH, hfr, iA, jA, iD, jD, kD, lD, mD, nD, aB, bB, o9, cB, t9, rfl⟩
        ·refine EL_s rfl rfl g7 rfl rfl ?_
         refine EL_s rfl rfl g7 rfl rfl ?_
         refine EL_p (.bool false) (P_pick (b := (decide (j1 < ((x1).length : Int)))) rfl (pick_f g7 rfl)) rfl ?_
         refine EL_nil ?_
         obtain rfl := sinj h
         exact hQ _ _ ⟨lH, hfr, iA, jA, iD, jD, kD, lD, mD, nD, aB, bB, o9, cB, t9, rfl⟩
       ·clear hx
        obtain ⟨mH, hfr, oD, sD, tD, uD, vD, xD, yD, zD, dB, eB, pF, iB, qF, jB⟩ := hR
        rcases csome h with ⟨iC, h⟩ | ⟨iC, h⟩
        ·refine E_cond_true (Eq.trans (show ev _ _ = .bool (a7) from jB) (congrArg Value.bool iC)) ?_
         exact E_skip (thn_n (sJ () _ _ ⟨mH, hfr, oD, sD, tD, uD, vD, xD, yD, zD, dB, eB, iB, qF⟩ h))
        ·refine E_cond_false (Eq.trans (show ev _ _ = .bool (a7) from jB) (congrArg Value.bool iC)) ?_
         refine E_exit ?_
         refine thn_e ?_
         refine thn_e ?_
         refine blk_hit ?_
         obtain ⟨rfl, rfl⟩ := pairs2 h
         exact hQ _ _ ⟨mH, hfr, oD, sD, tD, uD, vD, xD, yD, zD, dB, eB, pF, iB⟩
      ·rintro _ nN xO ⟨vL, hfr, lA, c7, mA, u7, aE, x8, bE, y8, lB, mB, rF, n8⟩ h
       obtain ⟨⟨i8, k8⟩, hx, h⟩ := bsome h
       refine E_join (fun e w => ∃ (g : Gh) , Fr gI wI g w ∧ e 1 = up1 ∧ RV g.m w (x1 : List PayPiece) up1 ∧ e 2 = p1 ∧ PT g.m w (x0 : PayList) p1 ∧ e 8 = o0 ∧ RV g.m w (y84.1 : List Int) o0 ∧ e 9 = u0 ∧ RV g.m w (y84.2.1 : List Int) u0 ∧ e 10 = .int .i64 (y84.2.2.1) ∧ e 11 = .int .i64 (y84.2.2.2) ∧ e 12 = .int .i64 (i8) ∧ e 13 = .int .i64 (k8) ∧ e 14 = .int .i64 (j1)) (fun Q' hQ => ?_) (fun oN yO hR => ?_)
       ·replace h := hx
        clear hx
        refine E_block ?_
        refine E_seq (L_load (x := .tmp 2) Tryz.isAgg25 Tryz.sizeOf25 u7 fun nH xL tJ => ?_)
        obtain ⟨eG, yE, h⟩ := bsome h
        have yL := PT_idx c7 yE
        refine L_load (x := .tmp 83) Tryz.isAgg27 Tryz.sizeOf27 yL fun oH zL uJ => ?_
        obtain ⟨d7, vJ, h⟩ := bsome h
        refine E_drawL (g := vL) (n := 7) [(5, (fun v g w => v = .int .i64 (d7)))] [0, 1, 2, 3, 4, 5, 6] rfl mixed (by kernel_rfl) (⟨fun _ => up_eq _, trivial⟩) ?_
        refine L_ld (c := nH) rfl rfl .plain (fun _ _ h => h.ch) tJ mA ?_
        refine L_p up1 rfl rfl (P_move lA) ?_
        refine L_p (.int .i64 (j1)) rfl rfl (P_move n8) ?_
        refine L_p (ePtr up1 j1 5) rfl rfl (P_indexAddr (α := PayPiece) Tryz.underlying33 Tryz.sizeOf27 rfl c7 rfl yE) ?_
        refine L_ld (c := oH) rfl rfl .plain (fun _ _ h => h.ch) uJ rfl ?_
        refine L_do (φ := fun v g w => v = .int .i64 (d7)) rfl rfl .plain (fun g w hd => D_call (g := g) (vs := [nH, oH]) en21 (.cons rfl (.cons rfl .nil)) (wk21 (xL.ext hd.1) (zL.ext hd.1) vJ) fun g' w' v hs hr => ⟨g', hs, hr⟩) (fun zO hv => ?_)
        obtain ⟨_, _, _, rfl⟩ := hv
        refine L_p (.int .i64 (d7)) rfl rfl (P_assign rfl) ?_
        refine L_nl fun pH aP hs => ?_
        have hfr := hfr.ext hs
        have c7 := c7.ext hs
        have u7 := u7.ext hs
        have x8 := x8.ext hs
        have y8 := y8.ext hs
        clear hs
        refine EL_nil (thn_n (E_seq (E_region (EL_mw (.int .i64 (d7)) rfl rfl ?_))))
        refine EL_in (.bool ((d7 != (0 : Int)))) rfl rfl rfl rfl ?_
        refine EL_nil (thn_n ?_)
        rcases csome h with ⟨jC, h⟩ | ⟨jC, h⟩
        ·refine E_ct jC rfl ?_
         refine E_region (EL_mv n8 rfl ?_)
         refine EL_at (.int .i64 (j1)) rfl rfl ?_
         refine EL_nil (blk_n ?_)
         obtain ⟨rfl, rfl⟩ := pairs2 h
         exact hQ _ _ ⟨pH, hfr, lA, c7, mA, u7, aE, x8, bE, y8, lB, mB, rfl, rfl, n8⟩
        ·refine E_cf jC rfl ?_
         refine E_skip (blk_n ?_)
         obtain ⟨rfl, rfl⟩ := pairs2 h
         exact hQ _ _ ⟨pH, hfr, lA, c7, mA, u7, aE, x8, bE, y8, lB, mB, rfl, rF, n8⟩
       ·clear hx
        obtain ⟨aM, hfr, qH, sH, tH, uH, vH, xH, yH, zH, sF, tF, uF, vF, xF⟩ := hR
        refine E_region (EL_mv xF rfl ?_)
        refine EL_in (.int .i64 ((w64 (j1 + (1 : Int))))) rfl rfl rfl rfl ?_
        refine EL_at (.int .i64 ((w64 (j1 + (1 : Int))))) rfl rfl ?_
        exact EL_nil (thn_n (rJ (i8, k8, (w64 (j1 + (1 : Int)))) _ _ ⟨aM, hfr, qH, sH, tH, uH, vH, xH, yH, zH, sF, tF, uF, vF, rfl⟩ h))
     ·clear hx
      obtain ⟨u9, hfr, aI, bI, cI, dI, cE, dE, eE, gE, nB, oB, tB, yF⟩ := hR
      refine E_joinC h (fun (s : Unit) e w => ∃ (g : Gh) , Fr gI wI g w ∧ e 1 = up1 ∧ RV g.m w (x1 : List PayPiece) up1 ∧ e 2 = p1 ∧ PT g.m w (x0 : PayList) p1 ∧ e 8 = o0 ∧ RV g.m w (y84.1 : List Int) o0 ∧ e 9 = u0 ∧ RV g.m w (y84.2.1 : List Int) u0 ∧ e 10 = .int .i64 (y84.2.2.1) ∧ e 11 = .int .i64 (y84.2.2.2)) (fun X264 hG xJ h => ?_) ?_
      ·refine E_seq (E_region (EL_mv tB rfl ?_))
       refine EL_in (.bool ((o3 != (0 : Int)))) rfl rfl rfl rfl ?_
       refine EL_nil (thn_n ?_)
       rcases csome h with ⟨kC, h⟩ | ⟨kC, h⟩
       ·refine E_ct kC rfl ?_
        obtain ⟨r8, hx, h⟩ := bsome h
        refine E_join (fun e w => ∃ (g : Gh) , Fr gI wI g w ∧ e 4 = .bool (r8)) (fun Q' hQ => ?_) (fun pN bP hR => ?_)
        ·replace h := hx
         clear hx
         refine E_region (EL_mv oB rfl ?_)
         refine EL_mv tB rfl ?_
         refine EL_in (.bool ((y84.2.2.2 == o3))) rfl rfl rfl rfl ?_
         refine EL_mw (.bool ((y84.2.2.2 == o3))) rfl rfl ?_
         rcases csome h with ⟨q5, h⟩ | ⟨q5, h⟩
         ·refine EL_y (.int .i64 (y84.2.2.1)) (P_move nB) rfl rfl q5 rfl ?_
          refine EL_y (.int .i64 (u3)) (P_move yF) rfl rfl q5 rfl ?_
          refine EL_y (.bool ((y84.2.2.1 == u3))) (P_int rfl rfl rfl) rfl rfl q5 rfl ?_
          refine EL_p (.bool ((y84.2.2.1 == u3))) (P_pick (b := (y84.2.2.2 == o3)) rfl (pick_t q5 rfl)) rfl ?_
          refine EL_mw (.bool ((y84.2.2.1 == u3))) rfl rfl ?_
          rcases csome h with ⟨t5, h⟩ | ⟨t5, h⟩
          ·refine EL_y o0 (P_move cE) rfl rfl t5 rfl ?_
           refine EL_y (.int .i64 ((y84.1).length : Int)) (P_len Tryz.underlying23 rfl dE) rfl rfl t5 rfl ?_
           refine EL_y (.bool ((((y84.1).length : Int) == (0 : Int)))) (P_int rfl rfl rfl) rfl rfl t5 rfl ?_
           refine EL_p (.bool ((((y84.1).length : Int) == (0 : Int)))) (P_pick (b := (y84.2.2.1 == u3)) rfl (pick_t t5 rfl)) rfl ?_
           refine EL_mw (.bool ((((y84.1).length : Int) == (0 : Int)))) rfl rfl ?_
           rcases csome h with ⟨x5, h⟩ | ⟨x5, h⟩
           ·refine EL_y u0 (P_move eE) rfl rfl x5 rfl ?_
            refine EL_y (.int .i64 ((y84.2.1).length : Int)) (P_len Tryz.underlying23 rfl gE) rfl rfl x5 rfl ?_
            refine EL_y (.bool ((((y84.2.1).length : Int) == (0 : Int)))) (P_int rfl rfl rfl) rfl rfl x5 rfl ?_
            refine EL_p (.bool ((((y84.2.1).length : Int) == (0 : Int)))) (P_pick (b := (((y84.1).length : Int) == (0 : Int))) rfl (pick_t x5 rfl)) rfl ?_
            refine EL_mw (.bool ((((y84.2.1).length : Int) == (0 : Int)))) rfl rfl ?_
            rcases csome h with ⟨a9, h⟩ | ⟨a9, h⟩
            ·obtain ⟨xB, yJ, h⟩ := bsome h
             refine EL_do (.yes2 rfl rfl a9) rfl (D_call (g := u9) (vs := []) en12 .nil (wk12  yJ) fun bM qN cP hs hr => ?_)
             have hfr := hfr.ext hs
             subst hr
             refine EL_p (.bool (xB)) (P_pick (b := (((y84.2.1).length : Int) == (0 : Int))) rfl (pick_t a9 rfl)) rfl ?_
             refine EL_at (.bool (xB)) rfl rfl ?_
             refine EL_nil ?_
             obtain rfl := sinj h
             exact hQ _ _ ⟨bM, hfr, rfl⟩
            ·refine EL_s rfl rfl a9 rfl rfl ?_
             refine EL_p (.bool false) (P_pick (b := (((y84.2.1).length : Int) == (0 : Int))) rfl (pick_f a9 rfl)) rfl ?_
             refine EL_at (.bool false) rfl rfl ?_
             refine EL_nil ?_
             obtain rfl := sinj h
             exact hQ _ _ ⟨u9, hfr, rfl⟩
           ·refine EL_s rfl rfl x5 rfl rfl ?_
            refine EL_s rfl rfl x5 rfl rfl ?_
            refine EL_s rfl rfl x5 rfl rfl ?_
            refine EL_p (.bool false) (P_pick (b := (((y84.1).length : Int) == (0 : Int))) rfl (pick_f x5 rfl)) rfl ?_
            refine EL_dead 3 rfl ?_
            refine EL_at (.bool false) rfl rfl ?_
            refine EL_nil ?_
            obtain rfl := sinj h
            exact hQ _ _ ⟨u9, hfr, rfl⟩
          ·refine EL_s rfl rfl t5 rfl rfl ?_
           refine EL_s rfl rfl t5 rfl rfl ?_
           refine EL_s rfl rfl t5 rfl rfl ?_
           refine EL_p (.bool false) (P_pick (b := (y84.2.2.1 == u3)) rfl (pick_f t5 rfl)) rfl ?_
           refine EL_dead 8 rfl ?_
           refine EL_at (.bool false) rfl rfl ?_
           refine EL_nil ?_
           obtain rfl := sinj h
           exact hQ _ _ ⟨u9, hfr, rfl⟩
         ·refine EL_s rfl rfl q5 rfl rfl ?_
          refine EL_s rfl rfl q5 rfl rfl ?_
          refine EL_s rfl rfl q5 rfl rfl ?_
          refine EL_p (.bool false) (P_pick (b := (y84.2.2.2 == o3)) rfl (pick_f q5 rfl)) rfl ?_
          refine EL_dead 13 rfl ?_
          refine EL_at (.bool false) rfl rfl ?_
          refine EL_nil ?_
          obtain rfl := sinj h
          exact hQ _ _ ⟨u9, hfr, rfl⟩
        ·clear hx
         obtain ⟨dP, hfr, iI⟩ := hR
         refine E_ret (thn_r ?_)
         obtain rfl := sinj h
         exact end1 rfl rfl (show _ = .bool (r8) from iI) ⟨_, hfr, rfl⟩
       ·refine E_cf kC rfl ?_
        exact E_skip (thn_n (xJ () _ _ ⟨u9, hfr, aI, bI, cI, dI, cE, dE, eE, gE, nB, oB⟩ h))
      ·rintro _ rN eP ⟨jI, hfr, kI, lI, mI, nI, pI, nA, qI, v7, zF, aG⟩ h
       refine E_seq (E_region (EL_do .plain rfl (D_load (g := jI) Tryz.isAgg25 Tryz.sizeOf25 mI nI fun cM dM => ?_)))
       refine EL_mv kI rfl ?_
       obtain ⟨iE, zJ, h⟩ := bsome h
       refine EL_do .plain rfl (D_call (g := jI) (vs := [cM, up1]) en28 (.cons rfl (.cons rfl .nil)) (wk28 dM lI zJ) fun mE sN gP hs hr => ?_)
       have hfr := hfr.ext hs
       have nA := nA.ext hs
       have v7 := v7.ext hs
       obtain ⟨c8, g8, rfl, rI, oA⟩ := hr
       refine EL_mw (.tuple #[c8, g8]) rfl rfl ?_
       refine EL_p c8 (P_extract rfl rfl) rfl ?_
       refine EL_p g8 (P_extract rfl rfl) rfl ?_
       refine EL_at c8 rfl rfl ?_
       refine EL_at g8 rfl rfl ?_
       refine EL_nil (thn_n ?_)
       obtain ⟨q8, hx, h⟩ := bsome h
       refine E_join (fun e w => ∃ (g : Gh) , Fr gI wI g w ∧ e 4 = .bool (q8)) (fun Q' hQ => ?_) (fun tN iP hR => ?_)
       ·replace h := hx
        clear hx
        refine E_region (EL_mv aG rfl ?_)
        refine EL_in (.bool ((y84.2.2.2 == (0 : Int)))) rfl rfl rfl rfl ?_
        refine EL_mw (.bool ((y84.2.2.2 == (0 : Int)))) rfl rfl ?_
        rcases csome h with ⟨i7, h⟩ | ⟨i7, h⟩
        ·refine EL_y (.int .i64 (y84.2.2.1)) (P_move zF) rfl rfl i7 rfl ?_
         refine EL_y (.bool ((y84.2.2.1 == (0 : Int)))) (P_int rfl rfl rfl) rfl rfl i7 rfl ?_
         refine EL_p (.bool ((y84.2.2.1 == (0 : Int)))) (P_pick (b := (y84.2.2.2 == (0 : Int))) rfl (pick_t i7 rfl)) rfl ?_
         refine EL_mw (.bool ((y84.2.2.1 == (0 : Int)))) rfl rfl ?_
         rcases csome h with ⟨i6, h⟩ | ⟨i6, h⟩
         ·refine EL_y o0 (P_move pI) rfl rfl i6 rfl ?_
          refine EL_y c8 (P_move rfl) rfl rfl i6 rfl ?_
          obtain ⟨k9, aK, h⟩ := bsome h
          refine EL_do (.yes2 rfl rfl i6) rfl (D_call (g := mE) (vs := [o0, c8]) en29 (.cons rfl (.cons rfl .nil)) (wk29 nA rI aK) fun sI uN jP hs hr => ?_)
          have hfr := hfr.ext hs
          have v7 := v7.ext hs
          have oA := oA.ext hs
          subst hr
          refine EL_p (.bool (k9)) (P_pick (b := (y84.2.2.1 == (0 : Int))) rfl (pick_t i6 rfl)) rfl ?_
          refine EL_mw (.bool (k9)) rfl rfl ?_
          rcases csome h with ⟨j6, h⟩ | ⟨j6, h⟩
          ·refine EL_y u0 (P_move qI) rfl rfl j6 rfl ?_
           refine EL_y g8 (P_move rfl) rfl rfl j6 rfl ?_
           obtain ⟨l9, bK, h⟩ := bsome h
           refine EL_do (.yes2 rfl rfl j6) rfl (D_call (g := sI) (vs := [u0, g8]) en29 (.cons rfl (.cons rfl .nil)) (wk29 v7 oA bK) fun tI vN kP hs hr => ?_)
           have hfr := hfr.ext hs
           subst hr
           refine EL_p (.bool (l9)) (P_pick (b := k9) rfl (pick_t j6 rfl)) rfl ?_
           refine EL_mw (.bool (l9)) rfl rfl ?_
           rcases csome h with ⟨d9, h⟩ | ⟨d9, h⟩
           ·obtain ⟨vB, cK, h⟩ := bsome h
            refine EL_do (.yes2 rfl rfl d9) rfl (D_call (g := tI) (vs := []) en12 .nil (wk12  cK) fun eM xN lP hs hr => ?_)
            have hfr := hfr.ext hs
            subst hr
            refine EL_p (.bool (vB)) (P_pick (b := l9) rfl (pick_t d9 rfl)) rfl ?_
            refine EL_at (.bool (vB)) rfl rfl ?_
            refine EL_nil ?_
            obtain rfl := sinj h
            exact hQ _ _ ⟨eM, hfr, rfl⟩
           ·refine EL_s rfl rfl d9 rfl rfl ?_
            refine EL_p (.bool false) (P_pick (b := l9) rfl (pick_f d9 rfl)) rfl ?_
            refine EL_at (.bool false) rfl rfl ?_
            refine EL_nil ?_
            obtain rfl := sinj h
            exact hQ _ _ ⟨tI, hfr, rfl⟩
          ·refine EL_s rfl rfl j6 rfl rfl ?_
           refine EL_s rfl rfl j6 rfl rfl ?_
           refine EL_s rfl rfl j6 rfl rfl ?_
           refine EL_p (.bool false) (P_pick (b := k9) rfl (pick_f j6 rfl)) rfl ?_
           refine EL_dead 3 rfl ?_
           refine EL_at (.bool false) rfl rfl ?_
           refine EL_nil ?_
           obtain rfl := sinj h
           exact hQ _ _ ⟨sI, hfr, rfl⟩
         ·refine EL_s rfl rfl i6 rfl rfl ?_
          refine EL_s rfl rfl i6 rfl rfl ?_
          refine EL_s rfl rfl i6 rfl rfl ?_
          refine EL_p (.bool false) (P_pick (b := (y84.2.2.1 == (0 : Int))) rfl (pick_f i6 rfl)) rfl ?_
          refine EL_dead 8 rfl ?_
          refine EL_at (.bool false) rfl rfl ?_
          refine EL_nil ?_
          obtain rfl := sinj h
          exact hQ _ _ ⟨mE, hfr, rfl⟩
        ·refine EL_s rfl rfl i7 rfl rfl ?_
         refine EL_s rfl rfl i7 rfl rfl ?_
         refine EL_p (.bool false) (P_pick (b := (y84.2.2.2 == (0 : Int))) rfl (pick_f i7 rfl)) rfl ?_
         refine EL_dead 13 rfl ?_
         refine EL_at (.bool false) rfl rfl ?_
         refine EL_nil ?_
         obtain rfl := sinj h
         exact hQ _ _ ⟨mE, hfr, rfl⟩
       ·clear hx
        obtain ⟨mP, hfr, uI⟩ := hR
        refine E_ret ?_
        obtain rfl := sinj h
        exact end1 rfl rfl (show _ = .bool (q8) from uI) ⟨_, hfr, rfl⟩
end Go.Proofs.YtkmbkaoolacofaaGreat
