import Derived.Test.YtkmbkaoolacofaaGreatCode1
set_option maxRecDepth 8000
set_option maxHeartbeats 4000000
namespace Go.Proofs.YtkmbkaoolacofaaGreat
open Go.RowKit
def f78 (x0 : Int) (z0 : Int) (z1 : Int) : Option (Bool) :=
 Option.bind (α := Bool) (
  bif (decide (x0 < z0)) then
   some (true)
  else
   some ((decide (x0 > z1)))
  ) fun o0 =>
 some (o0)
theorem en78 : Enters Tryz.prog 78 := enters_of Tryz.func78 (by kernel_rfl) rfl
theorem wk78 {gI : Gh} {wI : World} {x0 : Int} {z0 : Int} {z1 : Int} {pf0 : Value} (qf0 : PT gI.m wI z0 pf0) {pf1 : Value} (qf1 : PT gI.m wI z1 pf1) {r : Bool} (h : f78 x0 z0 z1 = some r) : Fn Tryz.prog 78 #[.int .i64 (x0), pf0, pf1] gI wI (fun _ _ v => v = .bool (r)) := by
 unfold f78 at h
 refine fn_of_E Tryz.func78 rfl (Nat.le_of_ble_eq_true rfl) fun g0 hm hfr => ?_
 have qf0 : PT g0.m wI z0 pf0 := hm ▸ qf0
 have qf1 : PT g0.m wI z1 pf1 := hm ▸ qf1
 show E _ 13 none _ _ _ _ _
 refine E_seq (E_region (EL_at (.bool false) rfl rfl ?_))
 refine EL_nil (thn_n ?_)
 obtain ⟨o0, hx, h⟩ := bsome h
 refine E_join (fun e w => ∃ (g : Gh) , Fr gI wI g w ∧ e 4 = .bool (o0)) (fun Q' hQ => ?_) (fun j1 w7 hR => ?_)
 ·replace h := hx
  clear hx
  refine E_region (EL_mw (.int .i64 (x0)) rfl rfl ?_)
  refine EL_do .plain rfl (D_load (g := g0) Tryz.isAgg3 Tryz.sizeOf3 rfl qf0 fun v4 r4 => ?_)
  obtain rfl := RV_int.1 r4
  refine EL_in (.bool ((decide (x0 < z0)))) rfl rfl rfl rfl ?_
  refine EL_mw (.bool ((decide (x0 < z0)))) rfl rfl ?_
  rcases csome h with ⟨hc5, h⟩ | ⟨hc5, h⟩
  ·refine EL_s rfl rfl hc5 rfl rfl ?_
   refine EL_s rfl rfl hc5 rfl rfl ?_
   refine EL_s rfl rfl hc5 rfl rfl ?_
   refine EL_p (.bool true) (P_pick (b := (decide (x0 < z0))) rfl (pick_t hc5 rfl)) rfl ?_
   refine EL_at (.bool true) rfl rfl ?_
   refine EL_nil ?_
   obtain rfl := sinj h
   exact hQ _ _ ⟨g0, hfr, rfl⟩
  ·refine EL_y (.int .i64 (x0)) (P_move rfl) rfl rfl hc5 rfl ?_
   refine EL_do (.yes2 rfl rfl hc5) rfl (D_load (g := g0) Tryz.isAgg3 Tryz.sizeOf3 rfl qf1 fun v6 r6 => ?_)
   obtain rfl := RV_int.1 r6
   refine EL_y (.bool ((decide (x0 > z1)))) (P_int rfl rfl rfl) rfl rfl hc5 rfl ?_
   refine EL_p (.bool ((decide (x0 > z1)))) (P_pick (b := (decide (x0 < z0))) rfl (pick_f hc5 rfl)) rfl ?_
   refine EL_at (.bool ((decide (x0 > z1)))) rfl rfl ?_
   refine EL_nil ?_
   obtain rfl := sinj h
   exact hQ _ _ ⟨g0, hfr, rfl⟩
 ·clear hx
  obtain ⟨g7, hfr, u0⟩ := hR
  refine E_ret ?_
  obtain rfl := sinj h
  exact end1 rfl rfl (show _ = .bool (o0) from u0) ⟨_, hfr, rfl⟩
def f87 (x0 : PaySheet) : Option ((List PayPlace)) :=
 Option.bind (α := (List PayPlace)) (
  lp (σ := (List PayPlace) × Int) (fun yA (a7, o0) =>
   bif (decide (o0 < ((((x0).PayTable).Rows).length : Int))) then
    Option.bind (α := (List PayPlace)) (
     (idx (((x0).PayTable).Rows) o0).bind fun z3 =>
     lp (σ := (List PayPlace) × Int) (fun zA (x5, u0) =>
      bif (decide (u0 < ((z3).length : Int))) then
       Option.bind (α := (List PayPlace)) (
        (idx z3 u0).bind fun i7 =>
        bif (i7 == (-1 : Int)) then
         (apnd 16 x5 (([(⟨o0, u0⟩ : PayPlace)] : List PayPlace))).bind fun a9 =>
         some (a9)
        else
         some (x5)
        ) fun j3 =>
       zA (j3, (w64 (u0 + (1 : Int))))
      else
       some (x5)
      ) big (a7, (0 : Int))
     ) fun o3 =>
    yA (o3, (w64 (o0 + (1 : Int))))
   else
    some (a7)
   ) big ([], (0 : Int))
  ) fun z4 =>
 some (z4)
def f89 (x0 : List Int) : Option (Int) :=
 Option.bind (α := Int) (
  lp (σ := Int × Int) (fun a7 (u0, o0) =>
   bif (decide (o0 < ((x0).length : Int))) then
    Option.bind (α := Int) (
     (idx x0 o0).bind fun j3 =>
     some ((w64 (u0 + j3)))
     ) fun i3 =>
    a7 (i3, (w64 (o0 + (1 : Int))))
   else
    some (u0)
   ) big ((0 : Int), (0 : Int))
  ) fun j1 =>
 some (j1)
def f91 (x0 : PayEnd) (z0 : List Int) : Option (Bool) :=
 Option.bind (α := Bool) (
  bif (x0).isDown then
   (idx z0 (x0).at_).bind fun j1 =>
   some ((decide (j1 > (0 : Int))))
  else
   some (false)
  ) fun u0 =>
 some (u0)
def f94 (x0 : Int) : Option (Bool) :=
 some ((decide (x0 > (0 : Int))))
def f95 (x0 : PayFilling) (x1 : PayStep) : Option (Int) :=
 jn (σ := Unit) (fun _ =>
  (idx ((x0).amounts) (x1).blot).bind fun o0 =>
  some ((w64 ((1000000 : Int) - o0)))
  ) fun k28 =>
 bif (x1).less then
  (idx ((x0).amounts) (x1).blot).bind fun j1 =>
  some (j1)
 else
  k28 ()
def f96 (x0 : PayEnd) (z0 : PayEnd) : Option (Bool) :=
 some ((decide (x0 = z0)))
def f97 (x0 : PaySheet) (x1 : Int) : Option ((List Int)) :=
 Option.bind (α := (List Int)) (
  lp (σ := (List Int) × Int) (fun g8 (z3, o0) =>
   bif (decide (o0 < ((((x0).PayTable).Rows).length : Int))) then
    Option.bind (α := (List Int)) (
     (idx (((x0).PayTable).Rows) o0).bind fun i8 =>
     (idx i8 x1).bind fun q5 =>
     (apnd 8 z3 (([q5] : List Int))).bind fun k8 =>
     some (k8)
     ) fun j1 =>
    g8 (j1, (w64 (o0 + (1 : Int))))
   else
    some (z3)
   ) big ([], (0 : Int))
  ) fun i3 =>
 some (i3)
def f98 (x0 : List Int) (x1 : Int → Option Bool) : Option (Int) :=
 jn (σ := Unit) (fun _ =>
  some ((-1 : Int))
  ) fun k18 =>
 lp (σ := Int) (fun k19 o0 =>
  bif (decide (o0 < ((x0).length : Int))) then
   jn (σ := Unit) (fun _ =>
    k19 ((w64 (o0 + (1 : Int))))
    ) fun k28 =>
   (idx x0 o0).bind fun z4 =>
   (x1 z4).bind fun v6 =>
   bif v6 then
    some (o0)
   else
    k28 ()
  else
   k18 ()
  ) big ((0 : Int))
theorem en98 : Enters Tryz.prog 98 := enters_of Tryz.func98 (by kernel_rfl) rfl
theorem wk98 {gI : Gh} {wI : World} {x0 : List Int} {x1 : Int → Option Bool} {up0 : Value} (rp0 : RV gI.m wI x0 up0) {up1 : Value} (rp1 : FnV1 Tryz.prog x1 up1 gI wI) {r : Int} (h : f98 x0 x1 = some r) : Fn Tryz.prog 98 #[up0, up1] gI wI (fun _ _ v => v = .int .i64 (r)) := by
 unfold f98 at h
 refine fn_of_E Tryz.func98 rfl (Nat.le_of_ble_eq_true rfl) fun g0 hm hfr => ?_
 have rp0 : RV g0.m wI x0 up0 := hm ▸ rp0
 obtain ⟨ff1, fa1, fc1, rfl, fen1, fcl1⟩ := rp1
 show E _ 19 none _ _ _ _ _
 refine E_seq (E_region (EL_at (.int .i64 (0)) rfl rfl ?_))
 refine EL_nil (thn_n (E_joinC h (fun (s : Unit) e w => ∃ (g : Gh) , Fr gI wI g w) (fun X18 k18 x6 h => ?_) ?_))
 ·refine E_seq (E_region (EL_mw up0 rfl rfl ?_))
  refine EL_p (.int .i64 ((x0).length : Int)) (P_len Tryz.underlying23 rfl rp0) rfl ?_
  refine EL_mw (.int .i64 (0)) rfl rfl ?_
  refine EL_nil (thn_n (E_block ?_))
  refine E_lp h (fun (s : Int) e w => ∃ (g : Gh) , Fr gI wI g w ∧ e 0 = up0 ∧ RV g.m w (x0 : List Int) up0 ∧ e 1 = (.func (.func ff1) fa1 fc1) ∧ e 7 = .int .i64 (((x0).length : Int)) ∧ e 8 = .int .i64 (s)) ⟨g0, hfr, rfl, rp0, rfl, rfl, rfl⟩ (fun X19 k19 y6 => ?_)
  rintro o0 i7 o7 ⟨i5, hfr, o3, u0, u3, z3, j1⟩ h
  refine E_seq (E_region (EL_in (.bool ((decide (o0 < ((x0).length : Int))))) j1 z3 rfl rfl ?_))
  refine EL_nil (thn_n (E_seq ?_))
  rcases csome h with ⟨i3, h⟩ | ⟨i3, h⟩
  ·refine E_ct i3 rfl ?_
   refine E_skip (thn_n (E_joinC h (fun (s : Unit) e w => ∃ (g : Gh) , Fr gI wI g w ∧ e 0 = up0 ∧ RV g.m w (x0 : List Int) up0 ∧ e 1 = (.func (.func ff1) fa1 fc1) ∧ e 7 = .int .i64 (((x0).length : Int)) ∧ e 8 = .int .i64 (o0)) (fun X28 k28 a7 h => ?_) ?_))
   ·refine E_block ?_
    refine E_seq (E_region (EL_mv j1 rfl ?_))
    refine EL_at (.int .i64 (o0)) rfl rfl ?_
    refine EL_nil (thn_n (E_seq (E_region (EL_mv u3 rfl ?_))))
    refine EL_mv o3 rfl ?_
    refine EL_mw (.int .i64 (o0)) rfl rfl ?_
    obtain ⟨z4, l5, h⟩ := bsome h
    refine EL_p (ePtr up0 o0 1) (P_indexAddr (α := Int) Tryz.underlying23 Tryz.sizeOf3 rfl u0 rfl l5) rfl ?_
    have c7 := PT_idx u0 l5
    refine EL_do .plain rfl (D_load (g := i5) Tryz.isAgg3 Tryz.sizeOf3 rfl c7 fun u7 d7 => ?_)
    obtain rfl := RV_int.1 d7
    obtain ⟨v6, b7, h⟩ := bsome h
    refine EL_do .plain rfl (D_callv (g := i5) (vs := [.int .i64 (z4)]) rfl fen1 (.cons rfl .nil) (fcl1 _ _ hfr.ch _ _ _  (RV_int.2 rfl) b7) fun e7 v7 c8 hs hr => ?_)
    have hfr := hfr.ext hs
    have u0 := u0.ext hs
    obtain rfl := RV_bool.1 hr
    refine EL_nil (thn_n ?_)
    rcases csome h with ⟨j3, h⟩ | ⟨j3, h⟩
    ·refine E_ct j3 rfl ?_
     refine E_seq (E_region (EL_mw (.int .i64 (o0)) rfl rfl ?_))
     refine EL_at (.int .i64 (o0)) rfl rfl ?_
     refine EL_nil (thn_n (E_ret (blk_r ?_)))
     refine thn_r ?_
     refine thn_r ?_
     refine blk_r ?_
     refine thn_r ?_
     obtain rfl := sinj h
     exact end1 rfl rfl (show _ = .int .i64 (o0) from rfl) ⟨_, hfr, rfl⟩
    ·refine E_cf j3 rfl ?_
     exact E_skip (blk_n (thn_n (a7 () _ _ ⟨e7, hfr, o3, u0, u3, z3, j1⟩ h)))
   ·rintro _ j7 g8 ⟨g7, hfr, q5, t5, x5, i6, j6⟩ h
    refine E_region (EL_in (.int .i64 ((w64 (o0 + (1 : Int))))) j6 rfl rfl rfl ?_)
    refine EL_mw (.int .i64 ((w64 (o0 + (1 : Int))))) rfl rfl ?_
    exact EL_nil (thn_n (y6 ((w64 (o0 + (1 : Int)))) _ _ ⟨g7, hfr, q5, t5, x5, i6, rfl⟩ h))
  ·refine E_cf i3 rfl ?_
   refine E_exit ?_
   refine thn_e ?_
   refine thn_e ?_
   refine blk_hit ?_
   exact thn_n (x6 () _ _ ⟨i5, hfr⟩ h)
 ·rintro _ m7 i8 ⟨k8, hfr⟩ h
  refine E_seq (E_region (EL_at (.int .i64 (-1)) rfl rfl ?_))
  refine EL_nil (thn_n (E_ret ?_))
  obtain rfl := sinj h
  exact end1 rfl rfl (show _ = .int .i64 (-1) from rfl) ⟨_, hfr, rfl⟩
def f99 (x1 : Int) : Option ((List Int)) :=
 Option.bind (α := Unit) (
  bif (decide (x1 < (0 : Int))) then
   none
  else
   some ()
  ) fun (_ : Unit) =>
 Option.bind (α := (List Int)) (
  bif (decide ((w64 (x1 - (w64 (((0 : Nat) : Int) - ((([] : List Int)).length : Int))))) > (0 : Int))) then
   (grwz 8 ((w64 (x1 - (w64 (((0 : Nat) : Int) - ((([] : List Int)).length : Int))))))).bind fun _ =>
   some (([] : List Int))
  else
   some (([] : List Int))
  ) fun j1 =>
 some (j1)
def f101 (x0 : Int) : Option (Bool) :=
 some ((x0 != x0))
theorem en101 : Enters Tryz.prog 101 := enters_of Tryz.func101 (by kernel_rfl) rfl
theorem wk101 {gI : Gh} {wI : World} {x0 : Int}  {r : Bool} (h : f101 x0 = some r) : Fn Tryz.prog 101 #[.int .i64 (x0)] gI wI (fun _ _ v => v = .bool (r)) := by
 unfold f101 at h
 refine fn_of_E Tryz.func101 rfl (Nat.le_of_ble_eq_true rfl) fun g0 hm hfr => ?_
 show E _ 6 none _ _ _ _ _
 refine E_seq (E_region (EL_at (.bool false) rfl rfl ?_))
 refine EL_nil (thn_n (E_seq (E_region (EL_mw (.int .i64 (x0)) rfl rfl ?_))))
 refine EL_mw (.int .i64 (x0)) rfl rfl ?_
 refine EL_in (.bool ((x0 != x0))) rfl rfl rfl rfl ?_
 refine EL_at (.bool ((x0 != x0))) rfl rfl ?_
 refine EL_nil (thn_n (E_ret ?_))
 obtain rfl := sinj h
 exact end1 rfl rfl (show _ = .bool ((x0 != x0)) from rfl) ⟨_, hfr, rfl⟩
def f103 (x0 : List PayRate) (x1 : Int) (x2 : PayRate → Int → Option Int) : Option (Int × Bool) :=
 Option.bind (α := Int) (
  lp (σ := Int × Int) (fun j7 (i3, u0) =>
   jn (σ := Unit) (fun _ =>
    (shr64 (wu64 (w64 (i3 + u0))) (1 : Int)).bind fun j3 =>
    (idx x0 (w64 j3)).bind fun o8 =>
    (x2 o8 x1).bind fun m7 =>
    bif (decide (m7 < (0 : Int))) then
     j7 ((w64 ((w64 j3) + (1 : Int))), u0)
    else
     j7 (i3, (w64 j3))
    ) fun q8 =>
   bif (decide (i3 < u0)) then
    q8 ()
   else
    some (i3)
   ) big ((0 : Int), ((x0).length : Int))
  ) fun o0 =>
 Option.bind (α := Int × Bool) (
  bif (decide (o0 < ((x0).length : Int))) then
   (idx x0 o0).bind fun r8 =>
   (x2 r8 x1).bind fun x5 =>
   some (o0, (x5 == (0 : Int)))
  else
   some (o0, false)
  ) fun (u3, z3) =>
 some (u3, z3)
theorem en103 : Enters Tryz.prog 103 := enters_of Tryz.func103 (by kernel_rfl) rfl
theorem wk103 {gI : Gh} {wI : World} {x0 : List PayRate} {x1 : Int} {x2 : PayRate → Int → Option Int} {up0 : Value} (rp0 : RV gI.m wI x0 up0) {up2 : Value} (rp2 : FnV2 Tryz.prog x2 up2 gI wI) {r : Int × Bool} (h : f103 x0 x1 x2 = some r) : Fn Tryz.prog 103 #[up0, .int .i64 (x1), up2] gI wI (fun m w v => ∃ y0 y1, v = .tuple #[y0, y1] ∧ y0 = .int .i64 (r.1) ∧ y1 = .bool (r.2)) := by
 unfold f103 at h
 refine fn_of_E Tryz.func103 rfl (Nat.le_of_ble_eq_true rfl) fun g0 hm hfr => ?_
 have rp0 : RV g0.m wI x0 up0 := hm ▸ rp0
 obtain ⟨ff2, fa2, fc2, rfl, fen2, fcl2⟩ := rp2
 show E _ 49 none _ _ _ _ _
 refine E_seq (E_region (EL_at (.int .i64 (0)) rfl rfl ?_))
 refine EL_at (.bool false) rfl rfl ?_
 refine EL_nil (thn_n (E_seq (E_region (EL_mw up0 rfl rfl ?_))))
 refine EL_p (.int .i64 ((x0).length : Int)) (P_len Tryz.underlying22 rfl rp0) rfl ?_
 refine EL_at (.int .i64 ((x0).length : Int)) rfl rfl ?_
 refine EL_nil (thn_n (E_seq (E_region (EL_mw (.int .i64 ((x0).length : Int)) rfl rfl ?_))))
 refine EL_at (.int .i64 (0)) rfl rfl ?_
 refine EL_at (.int .i64 ((x0).length : Int)) rfl rfl ?_
 refine EL_nil (thn_n ?_)
 obtain ⟨o0, hx, h⟩ := bsome h
 refine E_join (fun e w => ∃ (g : Gh) , Fr gI wI g w ∧ e 0 = up0 ∧ RV g.m w (x0 : List PayRate) up0 ∧ e 1 = .int .i64 (x1) ∧ e 2 = (.func (.func ff2) fa2 fc2) ∧ e 8 = .int .i64 (((x0).length : Int)) ∧ e 9 = .int .i64 (o0)) (fun Q' hQ => ?_) (fun z9 jA hR => ?_)
 ·replace h := hx
  clear hx
  refine E_block ?_
  refine E_lp h (fun (s : Int × Int) e w => ∃ (g : Gh) , Fr gI wI g w ∧ e 0 = up0 ∧ RV g.m w (x0 : List PayRate) up0 ∧ e 1 = .int .i64 (x1) ∧ e 2 = (.func (.func ff2) fa2 fc2) ∧ e 8 = .int .i64 (((x0).length : Int)) ∧ e 9 = .int .i64 (s.1) ∧ e 10 = .int .i64 (s.2)) ⟨g0, hfr, rfl, rp0, rfl, rfl, rfl, rfl, rfl⟩ (fun X14 j7 o7 => ?_)
  rintro ⟨i3, u0⟩ bA w15 ⟨t8, hfr, y6, a7, b7, c7, d7, z4, i6⟩ h
  refine E_joinC h (fun (s : Unit) e w => ∃ (g : Gh) , Fr gI wI g w ∧ e 0 = up0 ∧ RV g.m w (x0 : List PayRate) up0 ∧ e 1 = .int .i64 (x1) ∧ e 2 = (.func (.func ff2) fa2 fc2) ∧ e 8 = .int .i64 (((x0).length : Int)) ∧ e 9 = .int .i64 (i3) ∧ e 10 = .int .i64 (u0)) (fun X17 q8 y8 h => ?_) ?_
  ·refine E_seq (E_region (EL_mv z4 rfl ?_))
   refine EL_mv i6 rfl ?_
   refine EL_in (.bool ((decide (i3 < u0)))) rfl rfl rfl rfl ?_
   refine EL_nil (thn_n ?_)
   rcases csome h with ⟨v6, h⟩ | ⟨v6, h⟩
   ·refine E_ct v6 rfl ?_
    exact E_skip (thn_n (y8 () _ _ ⟨t8, hfr, y6, a7, b7, c7, d7, z4, i6⟩ h))
   ·refine E_cf v6 rfl ?_
    refine E_exit ?_
    refine thn_e ?_
    refine thn_e ?_
    refine blk_hit ?_
    obtain rfl := sinj h
    exact hQ _ _ ⟨t8, hfr, y6, a7, b7, c7, d7, z4⟩
  ·rintro _ gA lA ⟨v8, hfr, i5, o3, l5, q5, e7, g7, j6⟩ h
   refine E_block ?_
   refine E_seq (E_region (EL_mv g7 rfl ?_))
   refine EL_mv j6 rfl ?_
   refine EL_in (.int .i64 ((w64 (i3 + u0)))) rfl rfl rfl rfl ?_
   refine EL_p (.int .u64 (wu64 (w64 (i3 + u0)))) (P_intu64 Tryz.underlying3 Tryz.underlying85 rfl) rfl ?_
   obtain ⟨j3, a9, h⟩ := bsome h
   refine EL_p (.int .u64 (j3)) (P_shrU rfl rfl a9) rfl ?_
   refine EL_p (.int .i64 ((w64 j3))) (P_u64int Tryz.underlying85 Tryz.underlying3 rfl) rfl ?_
   refine EL_at (.int .i64 ((w64 j3))) rfl rfl ?_
   refine EL_nil (thn_n (E_seq (E_region (EL_mv q5 rfl ?_))))
   refine EL_mv i5 rfl ?_
   refine EL_mw (.int .i64 ((w64 j3))) rfl rfl ?_
   obtain ⟨o8, u7, h⟩ := bsome h
   refine EL_p (ePtr up0 (w64 j3) 2) (P_indexAddr (α := PayRate) Tryz.underlying22 Tryz.sizeOf87 rfl o3 rfl u7) rfl ?_
   have k9 := PT_idx o3 u7
   refine EL_do .plain rfl (D_load (g := v8) Tryz.isAgg87 Tryz.sizeOf87 rfl k9 fun l9 n9 => ?_)
   refine EL_mv l5 rfl ?_
   obtain ⟨m7, d9, h⟩ := bsome h
   refine EL_do .plain rfl (D_callv (g := v8) (vs := [l9, .int .i64 (x1)]) rfl fen2 (.cons rfl (.cons rfl .nil)) (fcl2 _ _ hfr.ch _ _ _ _ _  n9 (RV_int.2 rfl) d9) fun x8 mA nA hs hr => ?_)
   have hfr := hfr.ext hs
   have o3 := o3.ext hs
   obtain rfl := RV_int.1 hr
   refine EL_in (.bool ((decide (m7 < (0 : Int))))) rfl rfl rfl rfl ?_
   refine EL_nil (thn_n ?_)
   rcases csome h with ⟨x6, h⟩ | ⟨x6, h⟩
   ·refine E_ct x6 rfl ?_
    refine E_region (EL_mw (.int .i64 ((w64 j3))) rfl rfl ?_)
    refine EL_in (.int .i64 ((w64 ((w64 j3) + (1 : Int))))) rfl rfl rfl rfl ?_
    refine EL_at (.int .i64 ((w64 ((w64 j3) + (1 : Int))))) rfl rfl ?_
    exact EL_nil (blk_n (thn_n (o7 ((w64 ((w64 j3) + (1 : Int))), u0) _ _ ⟨x8, hfr, i5, o3, l5, q5, e7, rfl, j6⟩ h)))
   ·refine E_cf x6 rfl ?_
    refine E_region (EL_mw (.int .i64 ((w64 j3))) rfl rfl ?_)
    refine EL_at (.int .i64 ((w64 j3))) rfl rfl ?_
    exact EL_nil (blk_n (thn_n (o7 (i3, (w64 j3)) _ _ ⟨x8, hfr, i5, o3, l5, q5, e7, g7, rfl⟩ h)))
 ·clear hx
  obtain ⟨v7, hfr, g8, i7, i8, k8, l8, t5⟩ := hR
  obtain ⟨⟨u3, z3⟩, hx, h⟩ := bsome h
  refine E_join (fun e w => ∃ (g : Gh) , Fr gI wI g w ∧ e 6 = .int .i64 (u3) ∧ e 7 = .bool (z3)) (fun Q' hQ => ?_) (fun iA oA hR => ?_)
  ·replace h := hx
   clear hx
   refine E_region (EL_mv t5 rfl ?_)
   refine EL_mv t5 rfl ?_
   refine EL_mv l8 rfl ?_
   refine EL_in (.bool ((decide (o0 < ((x0).length : Int))))) rfl rfl rfl rfl ?_
   refine EL_mw (.bool ((decide (o0 < ((x0).length : Int))))) rfl rfl ?_
   rcases csome h with ⟨j1, h⟩ | ⟨j1, h⟩
   ·refine EL_y ((.func (.func ff2) fa2 fc2)) (P_move k8) rfl rfl j1 rfl ?_
    refine EL_y up0 (P_move g8) rfl rfl j1 rfl ?_
    refine EL_y (.int .i64 (o0)) (P_move t5) rfl rfl j1 rfl ?_
    obtain ⟨r8, c8, h⟩ := bsome h
    refine EL_y (ePtr up0 o0 2) (P_indexAddr (α := PayRate) Tryz.underlying22 Tryz.sizeOf87 rfl i7 rfl c8) rfl rfl j1 rfl ?_
    have o9 := PT_idx i7 c8
    refine EL_do (.yes2 rfl rfl j1) rfl (D_load (g := v7) Tryz.isAgg87 Tryz.sizeOf87 rfl o9 fun t9 u9 => ?_)
    refine EL_y (.int .i64 (x1)) (P_move i8) rfl rfl j1 rfl ?_
    obtain ⟨x5, i9, h⟩ := bsome h
    refine EL_do (.yes2 rfl rfl j1) rfl (D_callv (g := v7) (vs := [t9, .int .i64 (x1)]) rfl fen2 (.cons rfl (.cons rfl .nil)) (fcl2 _ _ hfr.ch _ _ _ _ _  u9 (RV_int.2 rfl) i9) fun y9 pA qA hs hr => ?_)
    have hfr := hfr.ext hs
    obtain rfl := RV_int.1 hr
    refine EL_y (.bool ((x5 == (0 : Int)))) (P_int rfl rfl rfl) rfl rfl j1 rfl ?_
    refine EL_p (.bool ((x5 == (0 : Int)))) (P_pick (b := (decide (o0 < ((x0).length : Int)))) rfl (pick_t j1 rfl)) rfl ?_
    refine EL_at (.int .i64 (o0)) rfl rfl ?_
    refine EL_at (.bool ((x5 == (0 : Int)))) rfl rfl ?_
    refine EL_nil ?_
    obtain ⟨rfl, rfl⟩ := pairs2 h
    exact hQ _ _ ⟨y9, hfr, rfl, rfl⟩
   ·refine EL_s rfl rfl j1 rfl rfl ?_
    iterate 7 refine EL_s rfl rfl j1 rfl rfl ?_
    refine EL_p (.bool false) (P_pick (b := (decide (o0 < ((x0).length : Int)))) rfl (pick_f j1 rfl)) rfl ?_
    refine EL_at (.int .i64 (o0)) rfl rfl ?_
    refine EL_at (.bool false) rfl rfl ?_
    refine EL_nil ?_
    obtain ⟨rfl, rfl⟩ := pairs2 h
    exact hQ _ _ ⟨v7, hfr, rfl, rfl⟩
  ·clear hx
   obtain ⟨rA, hfr, m8, n8⟩ := hR
   refine E_ret ?_
   obtain rfl := sinj h
   exact end2 rfl rfl (show _ = .int .i64 (u3) from m8) (show _ = .bool (z3) from n8) ⟨_, hfr, _, _, rfl, rfl, rfl⟩
def f105 (x1 : It Int) : Option ((List Int)) :=
 Option.bind (α := (List Int)) (
  (x1 ((List Int)) (fun o3 i3 =>
   (apnd 8 o3 (([i3] : List Int))).bind fun i5 =>
   some (true, (i5))
   ) ((([] : List Int) : List Int))).bind fun u3 =>
  some (u3)
  ) fun j3 =>
 some (j3)
def f109 (x0 : List Int) : Option (Bool) :=
 some ((decide (((x0).length : Int) > (6 : Int))))
def f110 (x0 : List Int) (z0 : PaySheet) : Option (Bool) :=
 some ((((x0).length : Int) != ((((z0).PayTable).Down).length : Int)))
def f114 (x0 : List Int) (x1 : Int) (x2 : Int) (x3 : Int → Int → Option Int) : Option ((List Int)) :=
 lp (σ := (List Int) × Int) (fun k1 (y6, j3) =>
  jn (σ := Unit) (fun _ =>
   Option.bind (α := (List Int)) (
    lp (σ := (List Int) × Int) (fun n8 (j1, o0) =>
     jn (σ := Unit) (fun _ =>
      Option.bind (α := (List Int)) (
       (idx j1 (w64 (o0 - (1 : Int)))).bind fun j6 =>
       (idx j1 o0).bind fun a7 =>
       (idx j1 o0).bind fun cB =>
       (idx ((List.set j1 (Int.toNat o0) j6)) (w64 (o0 - (1 : Int)))).bind fun dB =>
       some ((List.set ((List.set j1 (Int.toNat o0) j6)) (Int.toNat (w64 (o0 - (1 : Int)))) a7))
       ) fun l5 =>
      n8 (l5, (w64 (o0 - (1 : Int))))
      ) fun o8 =>
     Option.bind (α := Bool) (
      bif (decide (o0 > x1)) then
       (idx j1 o0).bind fun b7 =>
       (idx j1 (w64 (o0 - (1 : Int)))).bind fun c7 =>
       (x3 b7 c7).bind fun i6 =>
       some ((decide (i6 < (0 : Int))))
      else
       some (false)
      ) fun u3 =>
     bif u3 then
      o8 ()
     else
      some (j1)
     ) big (y6, j3)
    ) fun q5 =>
   k1 (q5, (w64 (j3 + (1 : Int))))
   ) fun k4 =>
  bif (decide (j3 < x2)) then
   k4 ()
  else
   some (y6)
  ) big (x0, (w64 (x1 + (1 : Int))))
def f122 (x0 : List Int) (x1 : Int) (x2 : Int) : Option ((List Int)) :=
 lp (σ := (List Int) × Int × Int) (fun k1 (j1, o0, u0) =>
  jn (σ := Unit) (fun _ =>
   (idx j1 u0).bind fun y7 =>
   (idx j1 o0).bind fun y9 =>
   (idx j1 o0).bind fun y11 =>
   (idx ((List.set j1 (Int.toNat o0) y7)) u0).bind fun y6 =>
   k1 ((List.set ((List.set j1 (Int.toNat o0) y7)) (Int.toNat u0) y9), (w64 (o0 + (1 : Int))), (w64 (u0 - (1 : Int))))
   ) fun k4 =>
  bif (decide (o0 < u0)) then
   k4 ()
  else
   some (j1)
  ) big (x0, x1, (w64 (x2 - (1 : Int))))
def f124 (x0 : Int) (x1 : Int) : Option (Bool) :=
 Option.bind (α := Bool) (
  (f101 x0).bind fun y8 =>
  bif y8 then
   (f101 x1).bind fun y11 =>
   bif (!y11) then
    some (true)
   else
    some ((decide (x0 < x1)))
  else
   some ((decide (x0 < x1)))
  ) fun j1 =>
 some (j1)
theorem en124 : Enters Tryz.prog 124 := enters_of Tryz.func124 (by kernel_rfl) rfl
theorem wk124 {gI : Gh} {wI : World} {x0 : Int} {x1 : Int}  {r : Bool} (h : f124 x0 x1 = some r) : Fn Tryz.prog 124 #[.int .i64 (x0), .int .i64 (x1)] gI wI (fun _ _ v => v = .bool (r)) := by
 unfold f124 at h
 refine fn_of_E Tryz.func124 rfl (Nat.le_of_ble_eq_true rfl) fun g0 hm hfr => ?_
 show E _ 17 none _ _ _ _ _
 refine E_seq (E_region (EL_at (.bool false) rfl rfl ?_))
 refine EL_nil (thn_n ?_)
 obtain ⟨j1, hx, h⟩ := bsome h
 refine E_join (fun e w => ∃ (g : Gh) , Fr gI wI g w ∧ e 4 = .bool (j1)) (fun Q' hQ => ?_) (fun z3 i5 hR => ?_)
 ·replace h := hx
  clear hx
  refine E_region (EL_mw (.int .i64 (x0)) rfl rfl ?_)
  obtain ⟨y8, u3, h⟩ := bsome h
  refine EL_do .plain rfl (D_call (g := g0) (vs := [.int .i64 (x0)]) en101 (.cons rfl .nil) (wk101  u3) fun g7 w7_ v7 hs hr => ?_)
  have hfr := hfr.ext hs
  subst hr
  refine EL_mw (.bool (y8)) rfl rfl ?_
  rcases csome h with ⟨u0, h⟩ | ⟨u0, h⟩
  ·refine EL_y (.int .i64 (x1)) (P_move rfl) rfl rfl u0 rfl ?_
   obtain ⟨y11, o3, h⟩ := bsome h
   refine EL_do (.yes2 rfl rfl u0) rfl (D_call (g := g7) (vs := [.int .i64 (x1)]) en101 (.cons rfl .nil) (wk101  o3) fun j3 z4 l5 hs hr => ?_)
   have hfr := hfr.ext hs
   subst hr
   refine EL_y (.bool (!y11)) (P_not rfl) rfl rfl u0 rfl ?_
   refine EL_p (.bool (!y11)) (P_pick (b := y8) rfl (pick_t u0 rfl)) rfl ?_
   refine EL_mw (.bool (!y11)) rfl rfl ?_
   rcases csome h with ⟨o0, h⟩ | ⟨o0, h⟩
   ·refine EL_s rfl rfl o0 rfl rfl ?_
    refine EL_s rfl rfl o0 rfl rfl ?_
    refine EL_s rfl rfl o0 rfl rfl ?_
    refine EL_p (.bool true) (P_pick (b := (!y11)) rfl (pick_t o0 rfl)) rfl ?_
    refine EL_at (.bool true) rfl rfl ?_
    refine EL_nil ?_
    obtain rfl := sinj h
    exact hQ _ _ ⟨j3, hfr, rfl⟩
   ·refine EL_y (.int .i64 (x0)) (P_move rfl) rfl rfl o0 rfl ?_
    refine EL_y (.int .i64 (x1)) (P_move rfl) rfl rfl o0 rfl ?_
    refine EL_y (.bool ((decide (x0 < x1)))) (P_int rfl rfl rfl) rfl rfl o0 rfl ?_
    refine EL_p (.bool ((decide (x0 < x1)))) (P_pick (b := (!y11)) rfl (pick_f o0 rfl)) rfl ?_
    refine EL_at (.bool ((decide (x0 < x1)))) rfl rfl ?_
    refine EL_nil ?_
    obtain rfl := sinj h
    exact hQ _ _ ⟨j3, hfr, rfl⟩
  ·refine EL_s rfl rfl u0 rfl rfl ?_
   refine EL_s rfl rfl u0 rfl rfl ?_
   refine EL_s rfl rfl u0 rfl rfl ?_
   refine EL_p (.bool false) (P_pick (b := y8) rfl (pick_f u0 rfl)) rfl ?_
   refine EL_mw (.bool false) rfl rfl ?_
   refine EL_y (.int .i64 (x0)) (P_move rfl) rfl rfl rfl rfl ?_
   refine EL_y (.int .i64 (x1)) (P_move rfl) rfl rfl rfl rfl ?_
   refine EL_y (.bool ((decide (x0 < x1)))) (P_int rfl rfl rfl) rfl rfl rfl rfl ?_
   refine EL_p (.bool ((decide (x0 < x1)))) (P_pick (b := false) rfl (pick_f rfl rfl)) rfl ?_
   refine EL_at (.bool ((decide (x0 < x1)))) rfl rfl ?_
   refine EL_nil ?_
   obtain rfl := sinj h
   exact hQ _ _ ⟨g7, hfr, rfl⟩
 ·clear hx
  obtain ⟨q5, hfr, i3⟩ := hR
  refine E_ret ?_
  obtain rfl := sinj h
  exact end1 rfl rfl (show _ = .bool (j1) from i3) ⟨_, hfr, rfl⟩
def f125 (x0 : List Int) (x1 : Int) (x2 : Int) (x3 : Int) : Option (Int × (List Int)) :=
 (idx x0 x3).bind fun y1 =>
 (idx x0 x1).bind fun y3 =>
 (idx x0 x1).bind fun y5 =>
 (idx ((List.set x0 (Int.toNat x1) y1)) x3).bind fun sE =>
 Option.bind (α := (List Int) × Int) (
  lp (σ := (List Int) × Int × Int) (fun lC (j3, u9, o3) =>
   Option.bind (α := Int) (
    lp (σ := Int) (fun qA j1 =>
     jn (σ := Unit) (fun _ =>
      qA ((w64 (j1 + (1 : Int))))
      ) fun rA =>
     Option.bind (α := Bool) (
      bif (decide (j1 ≤ o3)) then
       (idx j3 x1).bind fun c8 =>
       (idx j3 j1).bind fun g8 =>
       (f124 c8 g8).bind fun y6 =>
       some ((!y6))
      else
       some (false)
      ) fun q5 =>
     bif q5 then
      rA ()
     else
      some (j1)
     ) big (u9)
    ) fun o0 =>
   Option.bind (α := Int) (
    lp (σ := Int) (fun uA u0 =>
     jn (σ := Unit) (fun _ =>
      uA ((w64 (u0 - (1 : Int))))
      ) fun xA =>
     Option.bind (α := Bool) (
      bif (decide (o0 ≤ u0)) then
       (idx j3 x1).bind fun i8 =>
       (idx j3 u0).bind fun k8 =>
       (f124 i8 k8).bind fun g7 =>
       some (g7)
      else
       some (false)
      ) fun t5 =>
     bif t5 then
      xA ()
     else
      some (u0)
     ) big (o3)
    ) fun i3 =>
   jn (σ := Unit) (fun _ =>
    (idx j3 i3).bind fun a7 =>
    (idx j3 o0).bind fun i7 =>
    (idx j3 o0).bind fun nD =>
    (idx ((List.set j3 (Int.toNat o0) a7)) i3).bind fun oD =>
    lC ((List.set ((List.set j3 (Int.toNat o0) a7)) (Int.toNat i3) i7), (w64 (o0 + (1 : Int))), (w64 (i3 - (1 : Int))))
    ) fun yA =>
   bif (decide (o0 > i3)) then
    some (j3, o0)
   else
    yA ()
   ) big ((List.set ((List.set x0 (Int.toNat x1) y1)) (Int.toNat x3) y3), (w64 (x1 + (1 : Int))), (w64 (x2 - (1 : Int))))
  ) fun (j7, i6) =>
 some (i6, j7)
def f126 (x0 : List Int) (x1 : Int) (x2 : Int) (x3 : Int) : Option (Int × Bool × (List Int)) :=
 (idx x0 x3).bind fun y1 =>
 (idx x0 x1).bind fun y3 =>
 (idx x0 x1).bind fun y5 =>
 (idx ((List.set x0 (Int.toNat x1) y1)) x3).bind fun eM =>
 Option.bind (α := Int) (
  lp (σ := Int) (fun zG z3 =>
   jn (σ := Unit) (fun _ =>
    zG ((w64 (z3 + (1 : Int))))
    ) fun aH =>
   Option.bind (α := Bool) (
    bif (decide (z3 ≤ (w64 (x2 - (1 : Int))))) then
     (idx ((List.set ((List.set x0 (Int.toNat x1) y1)) (Int.toNat x3) y3)) z3).bind fun uC =>
     (idx ((List.set ((List.set x0 (Int.toNat x1) y1)) (Int.toNat x3) y3)) x1).bind fun vC =>
     (f124 uC vC).bind fun uA =>
     some (uA)
    else
     some (false)
    ) fun o7 =>
   bif o7 then
    aH ()
   else
    some (z3)
   ) big ((w64 (x1 + (1 : Int))))
  ) fun u0 =>
 Option.bind (α := Int) (
  lp (σ := Int) (fun bH z4 =>
   jn (σ := Unit) (fun _ =>
    bH ((w64 (z4 - (1 : Int))))
    ) fun cH =>
   Option.bind (α := Bool) (
    bif (decide (u0 ≤ z4)) then
     (idx ((List.set ((List.set x0 (Int.toNat x1) y1)) (Int.toNat x3) y3)) z4).bind fun xC =>
     (idx ((List.set ((List.set x0 (Int.toNat x1) y1)) (Int.toNat x3) y3)) x1).bind fun yC =>
     (f124 xC yC).bind fun z9 =>
     some ((!z9))
    else
     some (false)
    ) fun u7 =>
   bif u7 then
    cH ()
   else
    some (z4)
   ) big ((w64 (x2 - (1 : Int))))
  ) fun j1 =>
 jn (σ := (List Int)) (fun v7 =>
  (idx v7 j1).bind fun xA =>
  (idx v7 u0).bind fun aD =>
  (idx v7 u0).bind fun zK =>
  (idx ((List.set v7 (Int.toNat u0) xA)) j1).bind fun aL =>
  Option.bind (α := (List Int) × Int) (
   lp (σ := (List Int) × Int × Int) (fun rE (o3, yA, i5) =>
    Option.bind (α := Int) (
     lp (σ := Int) (fun sE i3 =>
      jn (σ := Unit) (fun _ =>
       sE ((w64 (i3 + (1 : Int))))
       ) fun tE =>
      Option.bind (α := Bool) (
       bif (decide (i3 ≤ i5)) then
        (idx o3 i3).bind fun nA =>
        (idx o3 x1).bind fun oA =>
        (f124 nA oA).bind fun n9 =>
        some (n9)
       else
        some (false)
       ) fun e7 =>
      bif e7 then
       tE ()
      else
       some (i3)
      ) big (yA)
     ) fun o0 =>
    Option.bind (α := Int) (
     lp (σ := Int) (fun uE j3 =>
      jn (σ := Unit) (fun _ =>
       uE ((w64 (j3 - (1 : Int))))
       ) fun vE =>
      Option.bind (α := Bool) (
       bif (decide (o0 ≤ j3)) then
        (idx o3 j3).bind fun pA =>
        (idx o3 x1).bind fun qA =>
        (f124 pA qA).bind fun q8 =>
        some ((!q8))
       else
        some (false)
       ) fun g7 =>
      bif g7 then
       vE ()
      else
       some (j3)
      ) big (i5)
     ) fun u3 =>
    jn (σ := Unit) (fun _ =>
     (idx o3 u3).bind fun r8 =>
     (idx o3 o0).bind fun o9 =>
     (idx o3 o0).bind fun yI =>
     (idx ((List.set o3 (Int.toNat o0) r8)) u3).bind fun zI =>
     rE ((List.set ((List.set o3 (Int.toNat o0) r8)) (Int.toNat u3) o9), (w64 (o0 + (1 : Int))), (w64 (u3 - (1 : Int))))
     ) fun xE =>
    bif (decide (o0 > u3)) then
     some (o3, u3)
    else
     xE ()
    ) big ((List.set ((List.set v7 (Int.toNat u0) xA)) (Int.toNat j1) aD), (w64 (u0 + (1 : Int))), (w64 (j1 - (1 : Int))))
   ) fun (d7, l5) =>
  (idx d7 x1).bind fun t9 =>
  (idx d7 l5).bind fun rA =>
  (idx d7 l5).bind fun aJ =>
  (idx ((List.set d7 (Int.toNat l5) t9)) x1).bind fun bJ =>
  some (l5, false, (List.set ((List.set d7 (Int.toNat l5) t9)) (Int.toNat x1) rA))
  ) fun dH =>
 bif (decide (u0 > j1)) then
  (idx ((List.set ((List.set x0 (Int.toNat x1) y1)) (Int.toNat x3) y3)) x1).bind fun zA =>
  (idx ((List.set ((List.set x0 (Int.toNat x1) y1)) (Int.toNat x3) y3)) j1).bind fun bD =>
  (idx ((List.set ((List.set x0 (Int.toNat x1) y1)) (Int.toNat x3) y3)) j1).bind fun bL =>
  (idx ((List.set ((List.set ((List.set x0 (Int.toNat x1) y1)) (Int.toNat x3) y3)) (Int.toNat j1) zA)) x1).bind fun cL =>
  some (j1, true, (List.set ((List.set ((List.set ((List.set x0 (Int.toNat x1) y1)) (Int.toNat x3) y3)) (Int.toNat j1) zA)) (Int.toNat x1) bD))
 else
  dH ((List.set ((List.set x0 (Int.toNat x1) y1)) (Int.toNat x3) y3))
def f129 (x0 : List (List Int)) (x1 : (List Int) → Option Bool) : Option (Int) :=
 jn (σ := Unit) (fun _ =>
  some ((-1 : Int))
  ) fun k18 =>
 lp (σ := Int) (fun k19 o0 =>
  bif (decide (o0 < ((x0).length : Int))) then
   jn (σ := Unit) (fun _ =>
    k19 ((w64 (o0 + (1 : Int))))
    ) fun k28 =>
   (idx x0 o0).bind fun j6 =>
   (x1 j6).bind fun v6 =>
   bif v6 then
    some (o0)
   else
    k28 ()
  else
   k18 ()
  ) big ((0 : Int))
def f132 (x0 : List Int) (x1 : Int) (x2 : Int) (x3 : Int) : Option ((List Int)) :=
 lp (σ := (List Int) × Int) (fun k1 (i3, o0) =>
  jn (σ := Unit) (fun _ =>
   Option.bind (α := Int) (
    Option.bind (α := Bool) (
     bif (decide ((w64 ((w64 ((w64 ((2 : Int) * o0)) + (1 : Int))) + (1 : Int))) < x2)) then
      (idx i3 (w64 (x3 + (w64 ((w64 ((2 : Int) * o0)) + (1 : Int)))))).bind fun a7 =>
      (idx i3 (w64 ((w64 (x3 + (w64 ((w64 ((2 : Int) * o0)) + (1 : Int))))) + (1 : Int)))).bind fun b7 =>
      (f124 a7 b7).bind fun t5 =>
      some (t5)
     else
      some (false)
     ) fun z3 =>
    bif z3 then
     some ((w64 ((w64 ((w64 ((2 : Int) * o0)) + (1 : Int))) + (1 : Int))))
    else
     some ((w64 ((w64 ((2 : Int) * o0)) + (1 : Int))))
    ) fun u0 =>
   jn (σ := Unit) (fun _ =>
    (idx i3 (w64 (x3 + u0))).bind fun l5 =>
    (idx i3 (w64 (x3 + o0))).bind fun x5 =>
    (idx i3 (w64 (x3 + o0))).bind fun qA =>
    (idx ((List.set i3 (Int.toNat (w64 (x3 + o0))) l5)) (w64 (x3 + u0))).bind fun rA =>
    k1 ((List.set ((List.set i3 (Int.toNat (w64 (x3 + o0))) l5)) (Int.toNat (w64 (x3 + u0))) x5), u0)
    ) fun d9 =>
   (idx i3 (w64 (x3 + o0))).bind fun c7 =>
   (idx i3 (w64 (x3 + u0))).bind fun d7 =>
   (f124 c7 d7).bind fun i6 =>
   bif (!i6) then
    some (i3)
   else
    d9 ()
   ) fun k4 =>
  bif (decide ((w64 ((w64 ((2 : Int) * o0)) + (1 : Int))) ≥ x2)) then
   some (i3)
  else
   k4 ()
  ) big (x0, x1)
def f137 (x0 : List Int) (x1 : Int) (x2 : Int) (x3 : Int) (x4 : Int → Int → Option Int) : Option ((List Int)) :=
 lp (σ := (List Int) × Int) (fun k1 (u0, o0) =>
  jn (σ := Unit) (fun _ =>
   Option.bind (α := (List Int)) (
    (idx u0 (w64 (x2 + o0))).bind fun u3 =>
    (idx u0 (w64 (x1 + o0))).bind fun y44 =>
    (idx u0 (w64 (x1 + o0))).bind fun v7 =>
    (idx ((List.set u0 (Int.toNat (w64 (x1 + o0))) u3)) (w64 (x2 + o0))).bind fun c8 =>
    some ((List.set ((List.set u0 (Int.toNat (w64 (x1 + o0))) u3)) (Int.toNat (w64 (x2 + o0))) y44))
    ) fun j3 =>
   k1 (j3, (w64 (o0 + (1 : Int))))
   ) fun k4 =>
  bif (decide (o0 < x3)) then
   k4 ()
  else
   some (u0)
  ) big (x0, (0 : Int))
def f18 (x0 : PayList) : Option (Int) :=
 jn (σ := Unit) (fun _ =>
  jn (σ := Unit) (fun _ =>
   jn (σ := Unit) (fun _ =>
    jn (σ := Unit) (fun _ =>
     some ((0 : Int))
     ) fun xA =>
    Option.bind (α := Bool) (
     bif ((((x0).Rates).length : Int) == (0 : Int)) then
      some (true)
     else
      (f25 ((x0).Fine) ((0 : Int)) ((1000 : Int))).bind fun i7 =>
      bif (!i7) then
       some (true)
      else
       (f25 ((x0).Cap) ((0 : Int)) ((1000 : Int))).bind fun o8 =>
       some ((!o8))
     ) fun y6 =>
    bif y6 then
     some ((2 : Int))
    else
     xA ()
    ) fun yA =>
   lp (σ := Int) (fun zA x5 =>
    jn (σ := Unit) (fun _ =>
     jn (σ := Unit) (fun _ =>
      zA ((w64 (x5 + (1 : Int))))
      ) fun aB =>
     (idx ((x0).Extras) x5).bind fun t9 =>
     (f25 t9 ((0 : Int)) ((1000 : Int))).bind fun u9 =>
     bif (!u9) then
      some ((2 : Int))
     else
      aB ()
     ) fun bB =>
    bif (decide (x5 < (((x0).Extras).length : Int))) then
     bB ()
    else
     yA ()
    ) big ((0 : Int))
   ) fun cB =>
  lp (σ := Int) (fun dB o0 =>
   jn (σ := Unit) (fun _ =>
    jn (σ := Unit) (fun _ =>
     dB ((w64 (o0 + (1 : Int))))
     ) fun eB =>
    (idx ((x0).Rates) o0).bind fun u0 =>
    Option.bind (α := Bool) (
     (f25 ((u0).From) ((0 : Int)) ((1000 : Int))).bind fun o3 =>
     bif (!o3) then
      some (true)
     else
      (f25 ((u0).Rate) ((0 : Int)) ((10000 : Int))).bind fun j3 =>
      bif (!j3) then
       some (true)
      else
       bif (o0 == (0 : Int)) then
        bif ((u0).From != (0 : Int)) then
         some (true)
        else
         bif (decide (o0 > (0 : Int))) then
          (idx ((x0).Rates) (w64 (o0 - (1 : Int)))).bind fun u7 =>
          some ((decide ((u0).From ≤ (u7).From)))
         else
          some (false)
       else
        bif (decide (o0 > (0 : Int))) then
         (idx ((x0).Rates) (w64 (o0 - (1 : Int)))).bind fun v7 =>
         some ((decide ((u0).From ≤ (v7).From)))
        else
         some (false)
     ) fun a7 =>
    bif a7 then
     some ((2 : Int))
    else
     eB ()
    ) fun iB =>
   bif (decide (o0 < (((x0).Rates).length : Int))) then
    iB ()
   else
    cB ()
   ) big ((0 : Int))
  ) fun bG =>
 Option.bind (α := Bool) (
  bif (decide ((((x0).Rates).length : Int) > (6 : Int))) then
   some (true)
  else
   some ((decide ((((x0).Extras).length : Int) > (8 : Int))))
  ) fun o7 =>
 bif o7 then
  some ((5 : Int))
 else
  bG ()
theorem en18 : Enters Tryz.prog 18 := enters_of Tryz.func18 (by kernel_rfl) rfl
theorem wk18 {gI : Gh} {wI : World} {x0 : PayList} {up0 : Value} (rp0 : RV gI.m wI x0 up0) {r : Int} (h : f18 x0 = some r) : Fn Tryz.prog 18 #[up0] gI wI (fun _ _ v => v = .int .i64 (r)) := by
 unfold f18 at h
 refine fn_of_E Tryz.func18 rfl (Nat.le_of_ble_eq_true rfl) fun g0 hm hfr => ?_
 have rp0 : RV g0.m wI x0 up0 := hm ▸ rp0
 show E _ 93 none _ _ _ _ _
 refine E_seq (E_region (EL_do .plain rfl (D_box (g := g0) rfl rp0 fun g1 w1 p1 hs q1 => ?_)))
 have hfr := hfr.ext hs
 refine EL_at (.int .i64 (0)) rfl rfl ?_
 refine EL_nil (thn_n (E_joinC h (fun (s : Unit) e w => ∃ (g : Gh) , Fr gI wI g w ∧ e 1 = p1 ∧ PT g.m w (x0 : PayList) p1) (fun X14 bG cG h => ?_) ?_))
 ·obtain ⟨o7, hx, h⟩ := bsome h
  refine E_join (fun e w => ∃ (g : Gh) , Fr gI wI g w ∧ e 1 = p1 ∧ PT g.m w (x0 : PayList) p1 ∧ e 15 = .bool (o7)) (fun Q' hQ => ?_) (fun uI xI hR => ?_)
  ·replace h := hx
   clear hx
   refine E_region (EL_p (fPtr p1 0) (P_fieldAddr at_25_0 rfl (PT.ptr q1)) rfl ?_)
   have dG := PT_field (part_PayList_0).1 q1
   refine EL_do .plain rfl (D_load (g := g1) Tryz.isAgg22 Tryz.sizeOf22 rfl dG fun yI eG => ?_)
   refine EL_p (.int .i64 (((x0).Rates).length : Int)) (P_len Tryz.underlying22 rfl eG) rfl ?_
   refine EL_p (.bool ((decide ((((x0).Rates).length : Int) > (6 : Int))))) (P_int rfl rfl rfl) rfl ?_
   refine EL_p (.bool ((decide ((((x0).Rates).length : Int) > (6 : Int))))) (P_move rfl) rfl ?_
   rcases csome h with ⟨j7, h⟩ | ⟨j7, h⟩
   ·refine EL_s rfl rfl j7 rfl rfl ?_
    iterate 3 refine EL_s rfl rfl j7 rfl rfl ?_
    refine EL_p (.bool true) (P_pick (b := (decide ((((x0).Rates).length : Int) > (6 : Int)))) rfl (pick_t j7 rfl)) rfl ?_
    refine EL_nil ?_
    obtain rfl := sinj h
    exact hQ _ _ ⟨g1, hfr, rfl, q1, rfl⟩
   ·refine EL_y (fPtr p1 1) (P_fieldAddr at_25_1 rfl (PT.ptr q1)) rfl rfl j7 rfl ?_
    have gG := PT_field (part_PayList_1).1 q1
    refine EL_do (.yes2 rfl rfl j7) rfl (D_load (g := g1) Tryz.isAgg23 Tryz.sizeOf23 rfl gG fun zI hG => ?_)
    refine EL_y (.int .i64 (((x0).Extras).length : Int)) (P_len Tryz.underlying23 rfl hG) rfl rfl j7 rfl ?_
    refine EL_y (.bool ((decide ((((x0).Extras).length : Int) > (8 : Int))))) (P_int rfl rfl rfl) rfl rfl j7 rfl ?_
    refine EL_p (.bool ((decide ((((x0).Extras).length : Int) > (8 : Int))))) (P_pick (b := (decide ((((x0).Rates).length : Int) > (6 : Int)))) rfl (pick_f j7 rfl)) rfl ?_
    refine EL_nil ?_
    obtain rfl := sinj h
    exact hQ _ _ ⟨g1, hfr, rfl, q1, rfl⟩
  ·clear hx
   obtain ⟨iG, hfr, mD, nD, nA⟩ := hR
   rcases csome h with ⟨uA, h⟩ | ⟨uA, h⟩
   ·refine E_cond_true (Eq.trans (show ev _ _ = .bool (o7) from nA) (congrArg Value.bool uA)) ?_
    refine E_seq (E_region (EL_at (.int .i64 (5)) rfl rfl ?_))
    refine EL_nil (thn_n (E_ret (thn_r ?_)))
    obtain rfl := sinj h
    exact end1 rfl rfl (show _ = .int .i64 (5) from rfl) ⟨_, hfr, rfl⟩
   ·refine E_cond_false (Eq.trans (show ev _ _ = .bool (o7) from nA) (congrArg Value.bool uA)) ?_
    exact E_skip (thn_n (cG () _ _ ⟨iG, hfr, mD, nD⟩ h))
 ·rintro _ vI aJ ⟨jG, hfr, oD, sD⟩ h
  refine E_joinC h (fun (s : Unit) e w => ∃ (g : Gh) , Fr gI wI g w ∧ e 1 = p1 ∧ PT g.m w (x0 : PayList) p1) (fun X1419 cB lC h => ?_) ?_
  ·refine E_seq (E_region (EL_at (.int .i64 (0)) rfl rfl ?_))
   refine EL_nil (thn_n (E_block ?_))
   refine E_lp h (fun (s : Int) e w => ∃ (g : Gh) , Fr gI wI g w ∧ e 1 = p1 ∧ PT g.m w (x0 : PayList) p1 ∧ e 3 = .int .i64 (s)) ⟨jG, hfr, oD, sD, rfl⟩ (fun X1420 dB mC => ?_)
   rintro o0 kG zG ⟨y9, hfr, l8, c8, k9⟩ h
   refine E_joinC h (fun (s : Unit) e w => ∃ (g : Gh) , Fr gI wI g w ∧ e 1 = p1 ∧ PT g.m w (x0 : PayList) p1 ∧ e 3 = .int .i64 (o0)) (fun X1425 iB qC h => ?_) ?_
   ·refine E_seq (E_region (EL_mv k9 rfl ?_))
    refine EL_p (fPtr p1 0) (P_fieldAddr at_25_0 l8 (PT.ptr c8)) rfl ?_
    have tD := PT_field (part_PayList_0).1 c8
    refine EL_do .plain rfl (D_load (g := y9) Tryz.isAgg22 Tryz.sizeOf22 rfl tD fun aH uD => ?_)
    refine EL_p (.int .i64 (((x0).Rates).length : Int)) (P_len Tryz.underlying22 rfl uD) rfl ?_
    refine EL_p (.bool ((decide (o0 < (((x0).Rates).length : Int))))) (P_int rfl rfl rfl) rfl ?_
    refine EL_nil (thn_n ?_)
    rcases csome h with ⟨r8, h⟩ | ⟨r8, h⟩
    ·refine E_ct r8 rfl ?_
     exact E_skip (thn_n (qC () _ _ ⟨y9, hfr, l8, c8, k9⟩ h))
    ·refine E_cf r8 rfl ?_
     refine E_exit ?_
     refine thn_e ?_
     refine thn_e ?_
     refine blk_hit ?_
     exact thn_n (lC () _ _ ⟨y9, hfr, l8, c8⟩ h)
   ·rintro _ lG bH ⟨z9, hfr, i6, j1, z3⟩ h
    refine E_joinC h (fun (s : Unit) e w => ∃ (g : Gh) , Fr gI wI g w ∧ e 1 = p1 ∧ PT g.m w (x0 : PayList) p1 ∧ e 3 = .int .i64 (o0)) (fun X2119 eB rC h => ?_) ?_
    ·refine E_block ?_
     refine E_seq (E_region (EL_p (fPtr p1 0) (P_fieldAddr at_25_0 i6 (PT.ptr j1)) rfl ?_))
     have vD := PT_field (part_PayList_0).1 j1
     refine EL_do .plain rfl (D_load (g := z9) Tryz.isAgg22 Tryz.sizeOf22 rfl vD fun xD jB => ?_)
     refine EL_mv z3 rfl ?_
     obtain ⟨u0, oA, h⟩ := bsome h
     refine EL_p (ePtr xD o0 2) (P_indexAddr (α := PayRate) Tryz.underlying22 Tryz.sizeOf87 rfl jB rfl oA) rfl ?_
     have yD := PT_idx jB oA
     refine EL_do .plain rfl (D_load (g := z9) Tryz.isAgg87 Tryz.sizeOf87 rfl yD fun zD bA => ?_)
     refine EL_do .plain rfl (D_allocOc (g := z9) 2004 (⟨0, 0⟩ : PayRate) Tryz.zeroValue87 (fun m w => ⟨_, (rep_two rep_int rep_int), rfl⟩) fun aE cH i5 hs b2125 cb => ?_)
     have hfr := hfr.stp hs
     have j1 := j1.stp hs
     have bA := bA.stp hs
     clear cb
     refine EL_do .plain rfl (D_storeOc (g := aE) (v := zD) Tryz.sizeOf87 rfl b2125 rfl bA fun m7 dH hs b2126 cb => ?_)
     clear cb
     have hfr := hfr.stp hs
     have j1 := j1.stp hs
     refine EL_nil (thn_n ?_)
     obtain ⟨a7, hx, h⟩ := bsome h
     refine E_join (fun e w => ∃ (g : Gh) , Fr gI wI g w ∧ e 1 = p1 ∧ PT g.m w (x0 : PayList) p1 ∧ e 3 = .int .i64 (o0) ∧ e 62 = .bool (a7)) (fun Q' hQ => ?_) (fun mG gH hR => ?_)
     ·replace h := hx
      clear hx
      refine L_loadO (x := .tmp 28) part_PayRate_0.1 Tryz.isAgg3 Tryz.sizeOf3 b2126 fun iH bE b7 => ?_
      obtain rfl := RV_int.1 bE
      obtain ⟨o3, c7, h⟩ := bsome h
      rcases csome h with ⟨i3, h⟩ | ⟨i3, h⟩
      ·refine E_drawL (g := m7) (n := 35) [(2, (fun v g w => v = .bool (o3)))] [0, 1, 2, 3, 4, 5, 6, 7, 8, 9, 10, 11, 12, 13, 14, 15, 16, 17, 18, 19, 20, 21, 22, 23, 24, 25, 26, 27, 28, 29, 30, 31, 32, 33, 34] rfl mixed (by kernel_rfl) (⟨fun _ => up_eq _, trivial⟩) ?_
       refine L_p (fPtr i5 0) rfl rfl (P_fieldAddr at_87_0 rfl (OB.ptr b2126)) ?_
       refine L_ld (c := .int .i64 ((u0).From)) rfl rfl .plain (fun _ _ h => ⟨h.ch, fun b hb _ => h.below.block b hb⟩) b7 rfl ?_
       refine L_do (φ := fun v g w => v = .bool (o3)) rfl rfl .plain (fun g w hd => D_call (g := g) (vs := [.int .i64 ((u0).From), .int .i64 (0), .int .i64 (1000)]) en25 (.cons rfl (.cons rfl (.cons rfl .nil))) (wk25  c7) fun g' w' v hs hr => ⟨g', hs, hr⟩) (fun g8 hv => ?_)
       obtain ⟨_, _, _, rfl⟩ := hv
       refine L_p (.bool (!o3)) rfl rfl (P_not rfl) ?_
       refine L_p (.bool (!o3)) rfl rfl (P_move rfl) ?_
       iterate 4 refine L_s rfl rfl rfl i3 rfl ?_
       refine L_p (.bool true) rfl rfl (P_pick (b := (!o3)) rfl (pick_t i3 rfl)) ?_
       refine L_dead (fun _ => rfl) 25 rfl ?_
       refine L_nl fun cE jH hs => ?_
       have hfr := hfr.ext hs
       have j1 := j1.ext hs
       clear hs
       refine EL_nil ?_
       obtain rfl := sinj h
       exact hQ _ _ ⟨cE, hfr, i6, j1, z3, rfl⟩
      ·refine L_loadO (x := .tmp 33) part_PayRate_1.1 Tryz.isAgg3 Tryz.sizeOf3 b2126 fun kH dE d7 => ?_
       obtain rfl := RV_int.1 dE
       obtain ⟨j3, e7, h⟩ := bsome h
       rcases csome h with ⟨u3, h⟩ | ⟨u3, h⟩
       ·refine E_drawL (g := m7) (n := 35) [(2, (fun v g w => v = .bool (o3))), (7, (fun v g w => v = .bool (j3)))] [0, 1, 2, 3, 4, 5, 6, 7, 8, 9, 10, 11, 12, 13, 14, 15, 16, 17, 18, 19, 20, 21, 22, 23, 24, 25, 26, 27, 28, 29, 30, 31, 32, 33, 34] rfl mixed (by kernel_rfl) (⟨fun _ => up_eq _, fun _ => up_eq _, trivial⟩) ?_
        refine L_p (fPtr i5 0) rfl rfl (P_fieldAddr at_87_0 rfl (OB.ptr b2126)) ?_
        refine L_ld (c := .int .i64 ((u0).From)) rfl rfl .plain (fun _ _ h => ⟨h.ch, fun b hb _ => h.below.block b hb⟩) b7 rfl ?_
        refine L_do (φ := fun v g w => v = .bool (o3)) rfl rfl .plain (fun g w hd => D_call (g := g) (vs := [.int .i64 ((u0).From), .int .i64 (0), .int .i64 (1000)]) en25 (.cons rfl (.cons rfl (.cons rfl .nil))) (wk25  c7) fun g' w' v hs hr => ⟨g', hs, hr⟩) (fun g8 hv => ?_)
        obtain ⟨_, _, _, rfl⟩ := hv
        refine L_p (.bool (!o3)) rfl rfl (P_not rfl) ?_
        refine L_p (.bool (!o3)) rfl rfl (P_move rfl) ?_
        refine L_y (fPtr i5 1) rfl rfl rfl rfl i3 (P_fieldAddr at_87_1 rfl (OB.ptr b2126)) ?_
        refine L_ld (c := .int .i64 ((u0).Rate)) rfl rfl (.yes2 rfl rfl i3) (fun _ _ h => ⟨h.ch, fun b hb _ => h.below.block b hb⟩) d7 rfl ?_
        refine L_do (φ := fun v g w => v = .bool (j3)) rfl rfl (.yes2 rfl rfl i3) (fun g w hd => D_call (g := g) (vs := [.int .i64 ((u0).Rate), .int .i64 (0), .int .i64 (10000)]) en25 (.cons rfl (.cons rfl (.cons rfl .nil))) (wk25  e7) fun g' w' v hs hr => ⟨g', hs, hr⟩) (fun k8 hv => ?_)
        obtain ⟨_, _, _, rfl⟩ := hv
        refine L_y (.bool (!j3)) rfl rfl rfl rfl i3 (P_not rfl) ?_
        refine L_p (.bool (!j3)) rfl rfl (P_pick (b := (!o3)) rfl (pick_f i3 rfl)) ?_
        refine L_p (.bool (!j3)) rfl rfl (P_move rfl) ?_
        iterate 3 refine L_s rfl rfl rfl u3 rfl ?_
        refine L_dead (fun _ => rfl) 3 rfl ?_
        refine L_s rfl rfl rfl u3 rfl ?_
        refine L_p (.bool true) rfl rfl (P_pick (b := (!j3)) rfl (pick_t u3 rfl)) ?_
        refine L_dead (fun _ => rfl) 16 rfl ?_
        refine L_nl fun eE lH hs => ?_
        have hfr := hfr.ext hs
        have j1 := j1.ext hs
        clear hs
        refine EL_nil ?_
        obtain rfl := sinj h
        exact hQ _ _ ⟨eE, hfr, i6, j1, z3, rfl⟩
       ·rcases csome h with ⟨z4, h⟩ | ⟨z4, h⟩
        ·refine L_loadO (x := .tmp 42) part_PayRate_0.1 Tryz.isAgg3 Tryz.sizeOf3 b2126 fun mH gE t8 => ?_
         obtain rfl := RV_int.1 gE
         rcases csome h with ⟨l5, h⟩ | ⟨l5, h⟩
         ·refine E_drawL (g := m7) (n := 35) [(2, (fun v g w => v = .bool (o3))), (7, (fun v g w => v = .bool (j3)))] [0, 1, 2, 3, 4, 5, 6, 7, 8, 9, 10, 11, 12, 13, 14, 15, 16, 17, 18, 19, 20, 21, 22, 23, 24, 25, 26, 27, 28, 29, 30, 31, 32, 33, 34] rfl mixed (by kernel_rfl) (⟨fun _ => up_eq _, fun _ => up_eq _, trivial⟩) ?_
          refine L_p (fPtr i5 0) rfl rfl (P_fieldAddr at_87_0 rfl (OB.ptr b2126)) ?_
          refine L_ld (c := .int .i64 ((u0).From)) rfl rfl .plain (fun _ _ h => ⟨h.ch, fun b hb _ => h.below.block b hb⟩) b7 rfl ?_
          refine L_do (φ := fun v g w => v = .bool (o3)) rfl rfl .plain (fun g w hd => D_call (g := g) (vs := [.int .i64 ((u0).From), .int .i64 (0), .int .i64 (1000)]) en25 (.cons rfl (.cons rfl (.cons rfl .nil))) (wk25  c7) fun g' w' v hs hr => ⟨g', hs, hr⟩) (fun g8 hv => ?_)
          obtain ⟨_, _, _, rfl⟩ := hv
          refine L_p (.bool (!o3)) rfl rfl (P_not rfl) ?_
          refine L_p (.bool (!o3)) rfl rfl (P_move rfl) ?_
          refine L_y (fPtr i5 1) rfl rfl rfl rfl i3 (P_fieldAddr at_87_1 rfl (OB.ptr b2126)) ?_
          refine L_ld (c := .int .i64 ((u0).Rate)) rfl rfl (.yes2 rfl rfl i3) (fun _ _ h => ⟨h.ch, fun b hb _ => h.below.block b hb⟩) d7 rfl ?_
          refine L_do (φ := fun v g w => v = .bool (j3)) rfl rfl (.yes2 rfl rfl i3) (fun g w hd => D_call (g := g) (vs := [.int .i64 ((u0).Rate), .int .i64 (0), .int .i64 (10000)]) en25 (.cons rfl (.cons rfl (.cons rfl .nil))) (wk25  e7) fun g' w' v hs hr => ⟨g', hs, hr⟩) (fun k8 hv => ?_)
          obtain ⟨_, _, _, rfl⟩ := hv
          refine L_y (.bool (!j3)) rfl rfl rfl rfl i3 (P_not rfl) ?_
          refine L_p (.bool (!j3)) rfl rfl (P_pick (b := (!o3)) rfl (pick_f i3 rfl)) ?_
          refine L_p (.bool (!j3)) rfl rfl (P_move rfl) ?_
          refine L_y (.int .i64 (o0)) rfl rfl rfl rfl u3 (P_move z3) ?_
          refine L_y (.bool ((o0 == (0 : Int)))) rfl rfl rfl rfl u3 (P_int rfl rfl rfl) ?_
          refine L_y (.bool ((o0 == (0 : Int)))) rfl rfl rfl rfl u3 (P_move rfl) ?_
          refine L_y (fPtr i5 0) rfl rfl rfl rfl z4 (P_fieldAddr at_87_0 rfl (OB.ptr b2126)) ?_
          refine L_ld (c := .int .i64 ((u0).From)) rfl rfl (.yes2 rfl rfl z4) (fun _ _ h => ⟨h.ch, fun b hb _ => h.below.block b hb⟩) t8 rfl ?_
          refine L_y (.bool (((u0).From != (0 : Int)))) rfl rfl rfl rfl z4 (P_int rfl rfl rfl) ?_
          refine L_y (.bool (((u0).From != (0 : Int)))) rfl rfl rfl rfl u3 (P_pick (b := (o0 == (0 : Int))) rfl (pick_t z4 rfl)) ?_
          refine L_p (.bool (((u0).From != (0 : Int)))) rfl rfl (P_pick (b := (!j3)) rfl (pick_f u3 rfl)) ?_
          refine L_p (.bool (((u0).From != (0 : Int)))) rfl rfl (P_move rfl) ?_
          iterate 3 refine L_s rfl rfl rfl l5 rfl ?_
          refine L_dead (fun _ => rfl) 10 rfl ?_
          refine L_s rfl rfl rfl l5 rfl ?_
          refine L_p (.bool true) rfl rfl (P_pick (b := ((u0).From != (0 : Int))) rfl (pick_t l5 rfl)) ?_
          refine L_nl fun iE nH hs => ?_
          have hfr := hfr.ext hs
          have j1 := j1.ext hs
          clear hs
          refine EL_nil ?_
          obtain rfl := sinj h
          exact hQ _ _ ⟨iE, hfr, i6, j1, z3, rfl⟩
         ·rcases csome h with ⟨q5, h⟩ | ⟨q5, h⟩
          ·refine L_loadO (x := .tmp 51) part_PayRate_0.1 Tryz.isAgg3 Tryz.sizeOf3 b2126 fun oH jE tC => ?_
           obtain rfl := RV_int.1 jE
           have kE := PT_field (part_PayList_0).1 j1
           refine L_load (x := .tmp 53) Tryz.isAgg22 Tryz.sizeOf22 kE fun gA lB uC => ?_
           obtain ⟨u7, pA, h⟩ := bsome h
           have mB := PT_idx lB pA
           have lE := PT_field (part_PayRate_0).1 mB
           refine L_load (x := .tmp 58) Tryz.isAgg3 Tryz.sizeOf3 lE fun pH mE vC => ?_
           obtain rfl := RV_int.1 mE
           refine E_drawL (g := m7) (n := 35) [(2, (fun v g w => v = .bool (o3))), (7, (fun v g w => v = .bool (j3)))] [0, 1, 2, 3, 4, 5, 6, 7, 8, 9, 10, 11, 12, 13, 14, 15, 16, 17, 18, 19, 20, 21, 22, 23, 24, 25, 26, 27, 28, 29, 30, 31, 32, 33, 34] rfl mixed (by kernel_rfl) (⟨fun _ => up_eq _, fun _ => up_eq _, trivial⟩) ?_
           refine L_p (fPtr i5 0) rfl rfl (P_fieldAddr at_87_0 rfl (OB.ptr b2126)) ?_
           refine L_ld (c := .int .i64 ((u0).From)) rfl rfl .plain (fun _ _ h => ⟨h.ch, fun b hb _ => h.below.block b hb⟩) b7 rfl ?_
           refine L_do (φ := fun v g w => v = .bool (o3)) rfl rfl .plain (fun g w hd => D_call (g := g) (vs := [.int .i64 ((u0).From), .int .i64 (0), .int .i64 (1000)]) en25 (.cons rfl (.cons rfl (.cons rfl .nil))) (wk25  c7) fun g' w' v hs hr => ⟨g', hs, hr⟩) (fun g8 hv => ?_)
           obtain ⟨_, _, _, rfl⟩ := hv
           refine L_p (.bool (!o3)) rfl rfl (P_not rfl) ?_
           refine L_p (.bool (!o3)) rfl rfl (P_move rfl) ?_
           refine L_y (fPtr i5 1) rfl rfl rfl rfl i3 (P_fieldAddr at_87_1 rfl (OB.ptr b2126)) ?_
           refine L_ld (c := .int .i64 ((u0).Rate)) rfl rfl (.yes2 rfl rfl i3) (fun _ _ h => ⟨h.ch, fun b hb _ => h.below.block b hb⟩) d7 rfl ?_
           refine L_do (φ := fun v g w => v = .bool (j3)) rfl rfl (.yes2 rfl rfl i3) (fun g w hd => D_call (g := g) (vs := [.int .i64 ((u0).Rate), .int .i64 (0), .int .i64 (10000)]) en25 (.cons rfl (.cons rfl (.cons rfl .nil))) (wk25  e7) fun g' w' v hs hr => ⟨g', hs, hr⟩) (fun k8 hv => ?_)
           obtain ⟨_, _, _, rfl⟩ := hv
           refine L_y (.bool (!j3)) rfl rfl rfl rfl i3 (P_not rfl) ?_
           refine L_p (.bool (!j3)) rfl rfl (P_pick (b := (!o3)) rfl (pick_f i3 rfl)) ?_
           refine L_p (.bool (!j3)) rfl rfl (P_move rfl) ?_
           refine L_y (.int .i64 (o0)) rfl rfl rfl rfl u3 (P_move z3) ?_
           refine L_y (.bool ((o0 == (0 : Int)))) rfl rfl rfl rfl u3 (P_int rfl rfl rfl) ?_
           refine L_y (.bool ((o0 == (0 : Int)))) rfl rfl rfl rfl u3 (P_move rfl) ?_
           refine L_y (fPtr i5 0) rfl rfl rfl rfl z4 (P_fieldAddr at_87_0 rfl (OB.ptr b2126)) ?_
           refine L_ld (c := .int .i64 ((u0).From)) rfl rfl (.yes2 rfl rfl z4) (fun _ _ h => ⟨h.ch, fun b hb _ => h.below.block b hb⟩) t8 rfl ?_
           refine L_y (.bool (((u0).From != (0 : Int)))) rfl rfl rfl rfl z4 (P_int rfl rfl rfl) ?_
           refine L_y (.bool (((u0).From != (0 : Int)))) rfl rfl rfl rfl u3 (P_pick (b := (o0 == (0 : Int))) rfl (pick_t z4 rfl)) ?_
           refine L_p (.bool (((u0).From != (0 : Int)))) rfl rfl (P_pick (b := (!j3)) rfl (pick_f u3 rfl)) ?_
           refine L_p (.bool (((u0).From != (0 : Int)))) rfl rfl (P_move rfl) ?_
           refine L_y (.int .i64 (o0)) rfl rfl rfl rfl l5 (P_move z3) ?_
           refine L_y (.bool ((decide (o0 > (0 : Int))))) rfl rfl rfl rfl l5 (P_int rfl rfl rfl) ?_
           refine L_y (.bool ((decide (o0 > (0 : Int))))) rfl rfl rfl rfl l5 (P_move rfl) ?_
           refine L_y (fPtr i5 0) rfl rfl rfl rfl q5 (P_fieldAddr at_87_0 rfl (OB.ptr b2126)) ?_
           refine L_ld (c := .int .i64 ((u0).From)) rfl rfl (.yes2 rfl rfl q5) (fun _ _ h => ⟨h.ch, fun b hb _ => h.below.block b hb⟩) tC rfl ?_
           refine L_y (fPtr p1 0) rfl rfl rfl rfl q5 (P_fieldAddr at_25_0 i6 (PT.ptr j1)) ?_
           refine L_ld (c := gA) rfl rfl (.yes2 rfl rfl q5) (fun _ _ h => h.ch) uC rfl ?_
           refine L_y (.int .i64 (o0)) rfl rfl rfl rfl q5 (P_move z3) ?_
           refine L_y (.int .i64 ((w64 (o0 - (1 : Int))))) rfl rfl rfl rfl q5 (P_int rfl rfl rfl) ?_
           refine L_y (ePtr gA (w64 (o0 - (1 : Int))) 2) rfl rfl rfl rfl q5 (P_indexAddr (α := PayRate) Tryz.underlying22 Tryz.sizeOf87 rfl lB rfl pA) ?_
           refine L_y (fPtr (ePtr gA (w64 (o0 - (1 : Int))) 2) 0) rfl rfl rfl rfl q5 (P_fieldAddr at_87_0 rfl (PT.ptr mB)) ?_
           refine L_ld (c := .int .i64 ((u7).From)) rfl rfl (.yes2 rfl rfl q5) (fun _ _ h => h.ch) vC rfl ?_
           refine L_y (.bool ((decide ((u0).From ≤ (u7).From)))) rfl rfl rfl rfl q5 (P_int rfl rfl rfl) ?_
           refine L_y (.bool ((decide ((u0).From ≤ (u7).From)))) rfl rfl rfl rfl l5 (P_pick (b := (decide (o0 > (0 : Int)))) rfl (pick_t q5 rfl)) ?_
           refine L_p (.bool ((decide ((u0).From ≤ (u7).From)))) rfl rfl (P_pick (b := ((u0).From != (0 : Int))) rfl (pick_f l5 rfl)) ?_
           refine L_nl fun nE qH hs => ?_
           have hfr := hfr.ext hs
           have j1 := j1.ext hs
           clear hs
           refine EL_nil ?_
           obtain rfl := sinj h
           exact hQ _ _ ⟨nE, hfr, i6, j1, z3, rfl⟩
          ·refine E_drawL (g := m7) (n := 35) [(2, (fun v g w => v = .bool (o3))), (7, (fun v g w => v = .bool (j3)))] [0, 1, 2, 3, 4, 5, 6, 7, 8, 9, 10, 11, 12, 13, 14, 15, 16, 17, 18, 19, 20, 21, 22, 23, 24, 25, 26, 27, 28, 29, 30, 31, 32, 33, 34] rfl mixed (by kernel_rfl) (⟨fun _ => up_eq _, fun _ => up_eq _, trivial⟩) ?_
           refine L_p (fPtr i5 0) rfl rfl (P_fieldAddr at_87_0 rfl (OB.ptr b2126)) ?_
           refine L_ld (c := .int .i64 ((u0).From)) rfl rfl .plain (fun _ _ h => ⟨h.ch, fun b hb _ => h.below.block b hb⟩) b7 rfl ?_
           refine L_do (φ := fun v g w => v = .bool (o3)) rfl rfl .plain (fun g w hd => D_call (g := g) (vs := [.int .i64 ((u0).From), .int .i64 (0), .int .i64 (1000)]) en25 (.cons rfl (.cons rfl (.cons rfl .nil))) (wk25  c7) fun g' w' v hs hr => ⟨g', hs, hr⟩) (fun g8 hv => ?_)
           obtain ⟨_, _, _, rfl⟩ := hv
           refine L_p (.bool (!o3)) rfl rfl (P_not rfl) ?_
           refine L_p (.bool (!o3)) rfl rfl (P_move rfl) ?_
           refine L_y (fPtr i5 1) rfl rfl rfl rfl i3 (P_fieldAddr at_87_1 rfl (OB.ptr b2126)) ?_
           refine L_ld (c := .int .i64 ((u0).Rate)) rfl rfl (.yes2 rfl rfl i3) (fun _ _ h => ⟨h.ch, fun b hb _ => h.below.block b hb⟩) d7 rfl ?_
           refine L_do (φ := fun v g w => v = .bool (j3)) rfl rfl (.yes2 rfl rfl i3) (fun g w hd => D_call (g := g) (vs := [.int .i64 ((u0).Rate), .int .i64 (0), .int .i64 (10000)]) en25 (.cons rfl (.cons rfl (.cons rfl .nil))) (wk25  e7) fun g' w' v hs hr => ⟨g', hs, hr⟩) (fun k8 hv => ?_)
           obtain ⟨_, _, _, rfl⟩ := hv
           refine L_y (.bool (!j3)) rfl rfl rfl rfl i3 (P_not rfl) ?_
           refine L_p (.bool (!j3)) rfl rfl (P_pick (b := (!o3)) rfl (pick_f i3 rfl)) ?_
           refine L_p (.bool (!j3)) rfl rfl (P_move rfl) ?_
           refine L_y (.int .i64 (o0)) rfl rfl rfl rfl u3 (P_move z3) ?_
           refine L_y (.bool ((o0 == (0 : Int)))) rfl rfl rfl rfl u3 (P_int rfl rfl rfl) ?_
           refine L_y (.bool ((o0 == (0 : Int)))) rfl rfl rfl rfl u3 (P_move rfl) ?_
           refine L_y (fPtr i5 0) rfl rfl rfl rfl z4 (P_fieldAddr at_87_0 rfl (OB.ptr b2126)) ?_
           refine L_ld (c := .int .i64 ((u0).From)) rfl rfl (.yes2 rfl rfl z4) (fun _ _ h => ⟨h.ch, fun b hb _ => h.below.block b hb⟩) t8 rfl ?_
           refine L_y (.bool (((u0).From != (0 : Int)))) rfl rfl rfl rfl z4 (P_int rfl rfl rfl) ?_
           refine L_y (.bool (((u0).From != (0 : Int)))) rfl rfl rfl rfl u3 (P_pick (b := (o0 == (0 : Int))) rfl (pick_t z4 rfl)) ?_
           refine L_p (.bool (((u0).From != (0 : Int)))) rfl rfl (P_pick (b := (!j3)) rfl (pick_f u3 rfl)) ?_
           refine L_p (.bool (((u0).From != (0 : Int)))) rfl rfl (P_move rfl) ?_
           refine L_y (.int .i64 (o0)) rfl rfl rfl rfl l5 (P_move z3) ?_
           refine L_y (.bool ((decide (o0 > (0 : Int))))) rfl rfl rfl rfl l5 (P_int rfl rfl rfl) ?_
           refine L_y (.bool ((decide (o0 > (0 : Int))))) rfl rfl rfl rfl l5 (P_move rfl) ?_
           iterate 10 refine L_s rfl rfl rfl q5 rfl ?_
           refine L_y (.bool false) rfl rfl rfl rfl l5 (P_pick (b := (decide (o0 > (0 : Int)))) rfl (pick_f q5 rfl)) ?_
           refine L_p (.bool false) rfl rfl (P_pick (b := ((u0).From != (0 : Int))) rfl (pick_f l5 rfl)) ?_
           refine L_nl fun oE sH hs => ?_
           have hfr := hfr.ext hs
           have j1 := j1.ext hs
           clear hs
           refine EL_nil ?_
           obtain rfl := sinj h
           exact hQ _ _ ⟨oE, hfr, i6, j1, z3, rfl⟩
        ·rcases csome h with ⟨t5, h⟩ | ⟨t5, h⟩
         ·refine L_loadO (x := .tmp 51) part_PayRate_0.1 Tryz.isAgg3 Tryz.sizeOf3 b2126 fun tH rE xC => ?_
          obtain rfl := RV_int.1 rE
          have sE := PT_field (part_PayList_0).1 j1
          refine L_load (x := .tmp 53) Tryz.isAgg22 Tryz.sizeOf22 sE fun iA nB yC => ?_
          obtain ⟨v7, qA, h⟩ := bsome h
          have oB := PT_idx nB qA
          have tE := PT_field (part_PayRate_0).1 oB
          refine L_load (x := .tmp 58) Tryz.isAgg3 Tryz.sizeOf3 tE fun uH uE aD => ?_
          obtain rfl := RV_int.1 uE
          refine E_drawL (g := m7) (n := 35) [(2, (fun v g w => v = .bool (o3))), (7, (fun v g w => v = .bool (j3)))] [0, 1, 2, 3, 4, 5, 6, 7, 8, 9, 10, 11, 12, 13, 14, 15, 16, 17, 18, 19, 20, 21, 22, 23, 24, 25, 26, 27, 28, 29, 30, 31, 32, 33, 34] rfl mixed (by kernel_rfl) (⟨fun _ => up_eq _, fun _ => up_eq _, trivial⟩) ?_
          refine L_p (fPtr i5 0) rfl rfl (P_fieldAddr at_87_0 rfl (OB.ptr b2126)) ?_
          refine L_ld (c := .int .i64 ((u0).From)) rfl rfl .plain (fun _ _ h => ⟨h.ch, fun b hb _ => h.below.block b hb⟩) b7 rfl ?_
          refine L_do (φ := fun v g w => v = .bool (o3)) rfl rfl .plain (fun g w hd => D_call (g := g) (vs := [.int .i64 ((u0).From), .int .i64 (0), .int .i64 (1000)]) en25 (.cons rfl (.cons rfl (.cons rfl .nil))) (wk25  c7) fun g' w' v hs hr => ⟨g', hs, hr⟩) (fun g8 hv => ?_)
          obtain ⟨_, _, _, rfl⟩ := hv
          refine L_p (.bool (!o3)) rfl rfl (P_not rfl) ?_
          refine L_p (.bool (!o3)) rfl rfl (P_move rfl) ?_
          refine L_y (fPtr i5 1) rfl rfl rfl rfl i3 (P_fieldAddr at_87_1 rfl (OB.ptr b2126)) ?_
          refine L_ld (c := .int .i64 ((u0).Rate)) rfl rfl (.yes2 rfl rfl i3) (fun _ _ h => ⟨h.ch, fun b hb _ => h.below.block b hb⟩) d7 rfl ?_
          refine L_do (φ := fun v g w => v = .bool (j3)) rfl rfl (.yes2 rfl rfl i3) (fun g w hd => D_call (g := g) (vs := [.int .i64 ((u0).Rate), .int .i64 (0), .int .i64 (10000)]) en25 (.cons rfl (.cons rfl (.cons rfl .nil))) (wk25  e7) fun g' w' v hs hr => ⟨g', hs, hr⟩) (fun k8 hv => ?_)
          obtain ⟨_, _, _, rfl⟩ := hv
          refine L_y (.bool (!j3)) rfl rfl rfl rfl i3 (P_not rfl) ?_
          refine L_p (.bool (!j3)) rfl rfl (P_pick (b := (!o3)) rfl (pick_f i3 rfl)) ?_
          refine L_p (.bool (!j3)) rfl rfl (P_move rfl) ?_
          refine L_y (.int .i64 (o0)) rfl rfl rfl rfl u3 (P_move z3) ?_
          refine L_y (.bool ((o0 == (0 : Int)))) rfl rfl rfl rfl u3 (P_int rfl rfl rfl) ?_
          refine L_y (.bool ((o0 == (0 : Int)))) rfl rfl rfl rfl u3 (P_move rfl) ?_
          iterate 3 refine L_s rfl rfl rfl z4 rfl ?_
          refine L_y (.bool false) rfl rfl rfl rfl u3 (P_pick (b := (o0 == (0 : Int))) rfl (pick_f z4 rfl)) ?_
          refine L_p (.bool false) rfl rfl (P_pick (b := (!j3)) rfl (pick_f u3 rfl)) ?_
          refine L_p (.bool false) rfl rfl (P_move rfl) ?_
          refine L_y (.int .i64 (o0)) rfl rfl rfl rfl rfl (P_move z3) ?_
          refine L_y (.bool ((decide (o0 > (0 : Int))))) rfl rfl rfl rfl rfl (P_int rfl rfl rfl) ?_
          refine L_y (.bool ((decide (o0 > (0 : Int))))) rfl rfl rfl rfl rfl (P_move rfl) ?_
          refine L_y (fPtr i5 0) rfl rfl rfl rfl t5 (P_fieldAddr at_87_0 rfl (OB.ptr b2126)) ?_
          refine L_ld (c := .int .i64 ((u0).From)) rfl rfl (.yes2 rfl rfl t5) (fun _ _ h => ⟨h.ch, fun b hb _ => h.below.block b hb⟩) xC rfl ?_
          refine L_y (fPtr p1 0) rfl rfl rfl rfl t5 (P_fieldAddr at_25_0 i6 (PT.ptr j1)) ?_
          refine L_ld (c := iA) rfl rfl (.yes2 rfl rfl t5) (fun _ _ h => h.ch) yC rfl ?_
          refine L_y (.int .i64 (o0)) rfl rfl rfl rfl t5 (P_move z3) ?_
          refine L_y (.int .i64 ((w64 (o0 - (1 : Int))))) rfl rfl rfl rfl t5 (P_int rfl rfl rfl) ?_
          refine L_y (ePtr iA (w64 (o0 - (1 : Int))) 2) rfl rfl rfl rfl t5 (P_indexAddr (α := PayRate) Tryz.underlying22 Tryz.sizeOf87 rfl nB rfl qA) ?_
          refine L_y (fPtr (ePtr iA (w64 (o0 - (1 : Int))) 2) 0) rfl rfl rfl rfl t5 (P_fieldAddr at_87_0 rfl (PT.ptr oB)) ?_
          refine L_ld (c := .int .i64 ((v7).From)) rfl rfl (.yes2 rfl rfl t5) (fun _ _ h => h.ch) aD rfl ?_
          refine L_y (.bool ((decide ((u0).From ≤ (v7).From)))) rfl rfl rfl rfl t5 (P_int rfl rfl rfl) ?_
          refine L_y (.bool ((decide ((u0).From ≤ (v7).From)))) rfl rfl rfl rfl rfl (P_pick (b := (decide (o0 > (0 : Int)))) rfl (pick_t t5 rfl)) ?_
          refine L_p (.bool ((decide ((u0).From ≤ (v7).From)))) rfl rfl (P_pick (b := false) rfl (pick_f rfl rfl)) ?_
          refine L_nl fun vE vH hs => ?_
          have hfr := hfr.ext hs
          have j1 := j1.ext hs
          clear hs
          refine EL_nil ?_
          obtain rfl := sinj h
          exact hQ _ _ ⟨vE, hfr, i6, j1, z3, rfl⟩
         ·refine E_drawL (g := m7) (n := 35) [(2, (fun v g w => v = .bool (o3))), (7, (fun v g w => v = .bool (j3)))] [0, 1, 2, 3, 4, 5, 6, 7, 8, 9, 10, 11, 12, 13, 14, 15, 16, 17, 18, 19, 20, 21, 22, 23, 24, 25, 26, 27, 28, 29, 30, 31, 32, 33, 34] rfl mixed (by kernel_rfl) (⟨fun _ => up_eq _, fun _ => up_eq _, trivial⟩) ?_
          refine L_p (fPtr i5 0) rfl rfl (P_fieldAddr at_87_0 rfl (OB.ptr b2126)) ?_
          refine L_ld (c := .int .i64 ((u0).From)) rfl rfl .plain (fun _ _ h => ⟨h.ch, fun b hb _ => h.below.block b hb⟩) b7 rfl ?_
          refine L_do (φ := fun v g w => v = .bool (o3)) rfl rfl .plain (fun g w hd => D_call (g := g) (vs := [.int .i64 ((u0).From), .int .i64 (0), .int .i64 (1000)]) en25 (.cons rfl (.cons rfl (.cons rfl .nil))) (wk25  c7) fun g' w' v hs hr => ⟨g', hs, hr⟩) (fun g8 hv => ?_)
          obtain ⟨_, _, _, rfl⟩ := hv
          refine L_p (.bool (!o3)) rfl rfl (P_not rfl) ?_
          refine L_p (.bool (!o3)) rfl rfl (P_move rfl) ?_
          refine L_y (fPtr i5 1) rfl rfl rfl rfl i3 (P_fieldAddr at_87_1 rfl (OB.ptr b2126)) ?_
          refine L_ld (c := .int .i64 ((u0).Rate)) rfl rfl (.yes2 rfl rfl i3) (fun _ _ h => ⟨h.ch, fun b hb _ => h.below.block b hb⟩) d7 rfl ?_
          refine L_do (φ := fun v g w => v = .bool (j3)) rfl rfl (.yes2 rfl rfl i3) (fun g w hd => D_call (g := g) (vs := [.int .i64 ((u0).Rate), .int .i64 (0), .int .i64 (10000)]) en25 (.cons rfl (.cons rfl (.cons rfl .nil))) (wk25  e7) fun g' w' v hs hr => ⟨g', hs, hr⟩) (fun k8 hv => ?_)
          obtain ⟨_, _, _, rfl⟩ := hv
          refine L_y (.bool (!j3)) rfl rfl rfl rfl i3 (P_not rfl) ?_
          refine L_p (.bool (!j3)) rfl rfl (P_pick (b := (!o3)) rfl (pick_f i3 rfl)) ?_
          refine L_p (.bool (!j3)) rfl rfl (P_move rfl) ?_
          refine L_y (.int .i64 (o0)) rfl rfl rfl rfl u3 (P_move z3) ?_
          refine L_y (.bool ((o0 == (0 : Int)))) rfl rfl rfl rfl u3 (P_int rfl rfl rfl) ?_
          refine L_y (.bool ((o0 == (0 : Int)))) rfl rfl rfl rfl u3 (P_move rfl) ?_
          iterate 3 refine L_s rfl rfl rfl z4 rfl ?_
          refine L_y (.bool false) rfl rfl rfl rfl u3 (P_pick (b := (o0 == (0 : Int))) rfl (pick_f z4 rfl)) ?_
          refine L_p (.bool false) rfl rfl (P_pick (b := (!j3)) rfl (pick_f u3 rfl)) ?_
          refine L_p (.bool false) rfl rfl (P_move rfl) ?_
          refine L_y (.int .i64 (o0)) rfl rfl rfl rfl rfl (P_move z3) ?_
          refine L_y (.bool ((decide (o0 > (0 : Int))))) rfl rfl rfl rfl rfl (P_int rfl rfl rfl) ?_
          refine L_y (.bool ((decide (o0 > (0 : Int))))) rfl rfl rfl rfl rfl (P_move rfl) ?_
          iterate 10 refine L_s rfl rfl rfl t5 rfl ?_
          refine L_y (.bool false) rfl rfl rfl rfl rfl (P_pick (b := (decide (o0 > (0 : Int)))) rfl (pick_f t5 rfl)) ?_
          refine L_p (.bool false) rfl rfl (P_pick (b := false) rfl (pick_f rfl rfl)) ?_
          refine L_nl fun xE xH hs => ?_
          have hfr := hfr.ext hs
          have j1 := j1.ext hs
          clear hs
          refine EL_nil ?_
          obtain rfl := sinj h
          exact hQ _ _ ⟨xE, hfr, i6, j1, z3, rfl⟩
     ·clear hx
      obtain ⟨yE, hfr, vB, xB, yB, v8⟩ := hR
      rcases csome h with ⟨x8, h⟩ | ⟨x8, h⟩
      ·refine E_cond_true (Eq.trans (show ev _ _ = .bool (a7) from v8) (congrArg Value.bool x8)) ?_
       refine E_seq (E_region (EL_at (.int .i64 (2)) rfl rfl ?_))
       refine EL_nil (thn_n (E_ret (blk_r ?_)))
       refine thn_r ?_
       refine thn_r ?_
       refine blk_r ?_
       refine thn_r ?_
       obtain rfl := sinj h
       exact end1 rfl rfl (show _ = .int .i64 (2) from rfl) ⟨_, hfr, rfl⟩
      ·refine E_cond_false (Eq.trans (show ev _ _ = .bool (a7) from v8) (congrArg Value.bool x8)) ?_
       exact E_skip (blk_n (thn_n (rC () _ _ ⟨yE, hfr, vB, xB, yB⟩ h)))
    ·rintro _ nG yH ⟨zE, hfr, zB, aC, cC⟩ h
     refine E_region (EL_mv cC rfl ?_)
     refine EL_in (.int .i64 ((w64 (o0 + (1 : Int))))) rfl rfl rfl rfl ?_
     refine EL_at (.int .i64 ((w64 (o0 + (1 : Int))))) rfl rfl ?_
     exact EL_nil (thn_n (mC ((w64 (o0 + (1 : Int)))) _ _ ⟨zE, hfr, zB, aC, rfl⟩ h))
  ·rintro _ oG zH ⟨cF, hfr, dC, eC⟩ h
   refine E_joinC h (fun (s : Unit) e w => ∃ (g : Gh) , Fr gI wI g w ∧ e 1 = p1 ∧ PT g.m w (x0 : PayList) p1) (fun X2839 yA bD h => ?_) ?_
   ·refine E_seq (E_region (EL_at (.int .i64 (0)) rfl rfl ?_))
    refine EL_nil (thn_n (E_block ?_))
    refine E_lp h (fun (s : Int) e w => ∃ (g : Gh) , Fr gI wI g w ∧ e 1 = p1 ∧ PT g.m w (x0 : PayList) p1 ∧ e 5 = .int .i64 (s)) ⟨cF, hfr, dC, eC, rfl⟩ (fun X2840 zA cD => ?_)
    rintro x5 pG aI ⟨jA, hfr, m8, i8, l9⟩ h
    refine E_joinC h (fun (s : Unit) e w => ∃ (g : Gh) , Fr gI wI g w ∧ e 1 = p1 ∧ PT g.m w (x0 : PayList) p1 ∧ e 5 = .int .i64 (x5)) (fun X2845 bB eD h => ?_) ?_
    ·refine E_seq (E_region (EL_mv l9 rfl ?_))
     refine EL_p (fPtr p1 1) (P_fieldAddr at_25_1 m8 (PT.ptr i8)) rfl ?_
     have dF := PT_field (part_PayList_1).1 i8
     refine EL_do .plain rfl (D_load (g := jA) Tryz.isAgg23 Tryz.sizeOf23 rfl dF fun bI eF => ?_)
     refine EL_p (.int .i64 (((x0).Extras).length : Int)) (P_len Tryz.underlying23 rfl eF) rfl ?_
     refine EL_p (.bool ((decide (x5 < (((x0).Extras).length : Int))))) (P_int rfl rfl rfl) rfl ?_
     refine EL_nil (thn_n ?_)
     rcases csome h with ⟨y8, h⟩ | ⟨y8, h⟩
     ·refine E_ct y8 rfl ?_
      exact E_skip (thn_n (eD () _ _ ⟨jA, hfr, m8, i8, l9⟩ h))
     ·refine E_cf y8 rfl ?_
      refine E_exit ?_
      refine thn_e ?_
      refine thn_e ?_
      refine blk_hit ?_
      exact thn_n (bD () _ _ ⟨jA, hfr, m8, i8⟩ h)
    ·rintro _ qG cI ⟨lA, hfr, n9, g7, o9⟩ h
     refine E_joinC h (fun (s : Unit) e w => ∃ (g : Gh) , Fr gI wI g w ∧ e 1 = p1 ∧ PT g.m w (x0 : PayList) p1 ∧ e 5 = .int .i64 (x5)) (fun X2858 aB gD h => ?_) ?_
     ·refine E_block ?_
      refine E_seq (E_region (EL_p (fPtr p1 1) (P_fieldAddr at_25_1 n9 (PT.ptr g7)) rfl ?_))
      have iF := PT_field (part_PayList_1).1 g7
      refine EL_do .plain rfl (D_load (g := lA) Tryz.isAgg23 Tryz.sizeOf23 rfl iF fun nF tB => ?_)
      refine EL_mv o9 rfl ?_
      obtain ⟨t9, rA, h⟩ := bsome h
      refine EL_p (ePtr nF x5 1) (P_indexAddr (α := Int) Tryz.underlying23 Tryz.sizeOf3 rfl tB rfl rA) rfl ?_
      have oF := PT_idx tB rA
      refine EL_do .plain rfl (D_load (g := lA) Tryz.isAgg3 Tryz.sizeOf3 rfl oF fun dI pF => ?_)
      obtain rfl := RV_int.1 pF
      obtain ⟨u9, iD, h⟩ := bsome h
      refine EL_do .plain rfl (D_call (g := lA) (vs := [.int .i64 (t9), .int .i64 (0), .int .i64 (1000)]) en25 (.cons rfl (.cons rfl (.cons rfl .nil))) (wk25  iD) fun qF rG iI hs hr => ?_)
      have hfr := hfr.ext hs
      have g7 := g7.ext hs
      subst hr
      refine EL_p (.bool (!u9)) (P_not rfl) rfl ?_
      refine EL_nil (thn_n ?_)
      rcases csome h with ⟨a9, h⟩ | ⟨a9, h⟩
      ·refine E_ct a9 rfl ?_
       refine E_seq (E_region (EL_at (.int .i64 (2)) rfl rfl ?_))
       refine EL_nil (thn_n (E_ret (blk_r ?_)))
       refine thn_r ?_
       refine thn_r ?_
       refine blk_r ?_
       refine thn_r ?_
       obtain rfl := sinj h
       exact end1 rfl rfl (show _ = .int .i64 (2) from rfl) ⟨_, hfr, rfl⟩
      ·refine E_cf a9 rfl ?_
       exact E_skip (blk_n (thn_n (gD () _ _ ⟨qF, hfr, n9, g7, o9⟩ h)))
     ·rintro _ sG jI ⟨rF, hfr, iC, jC, kC⟩ h
      refine E_region (EL_mv kC rfl ?_)
      refine EL_in (.int .i64 ((w64 (x5 + (1 : Int))))) rfl rfl rfl rfl ?_
      refine EL_at (.int .i64 ((w64 (x5 + (1 : Int))))) rfl rfl ?_
      exact EL_nil (thn_n (cD ((w64 (x5 + (1 : Int)))) _ _ ⟨rF, hfr, iC, jC, rfl⟩ h))
   ·rintro _ tG kI ⟨q8, hfr, n8, j6⟩ h
    refine E_joinC h (fun (s : Unit) e w => ∃ (g : Gh) , Fr gI wI g w) (fun X2895 xA jD h => ?_) ?_
    ·obtain ⟨y6, hx, h⟩ := bsome h
     refine E_join (fun e w => ∃ (g : Gh) , Fr gI wI g w ∧ e 92 = .bool (y6)) (fun Q' hQ => ?_) (fun uG lI hR => ?_)
     ·replace h := hx
      clear hx
      refine E_region (EL_p (fPtr p1 0) (P_fieldAddr at_25_0 n8 (PT.ptr j6)) rfl ?_)
      have sF := PT_field (part_PayList_0).1 j6
      refine EL_do .plain rfl (D_load (g := q8) Tryz.isAgg22 Tryz.sizeOf22 rfl sF fun mI tF => ?_)
      refine EL_p (.int .i64 (((x0).Rates).length : Int)) (P_len Tryz.underlying22 rfl tF) rfl ?_
      refine EL_in (.bool (((((x0).Rates).length : Int) == (0 : Int)))) rfl rfl rfl rfl ?_
      refine EL_mw (.bool (((((x0).Rates).length : Int) == (0 : Int)))) rfl rfl ?_
      rcases csome h with ⟨v6, h⟩ | ⟨v6, h⟩
      ·refine EL_s rfl rfl v6 rfl rfl ?_
       iterate 3 refine EL_s rfl rfl v6 rfl rfl ?_
       refine EL_p (.bool true) (P_pick (b := ((((x0).Rates).length : Int) == (0 : Int))) rfl (pick_t v6 rfl)) rfl ?_
       refine EL_dead 6 rfl ?_
       refine EL_nil ?_
       obtain rfl := sinj h
       exact hQ _ _ ⟨q8, hfr, rfl⟩
      ·refine EL_y (fPtr p1 2) (P_fieldAddr at_25_2 n8 (PT.ptr j6)) rfl rfl v6 rfl ?_
       have uF := PT_field (part_PayList_2).1 j6
       refine EL_do (.yes2 rfl rfl v6) rfl (D_load (g := q8) Tryz.isAgg3 Tryz.sizeOf3 rfl uF fun nI vF => ?_)
       obtain rfl := RV_int.1 vF
       obtain ⟨i7, kD, h⟩ := bsome h
       refine EL_do (.yes2 rfl rfl v6) rfl (D_call (g := q8) (vs := [.int .i64 ((x0).Fine), .int .i64 (0), .int .i64 (1000)]) en25 (.cons rfl (.cons rfl (.cons rfl .nil))) (wk25  kD) fun mA vG pI hs hr => ?_)
       have hfr := hfr.ext hs
       have j6 := j6.ext hs
       subst hr
       refine EL_y (.bool (!i7)) (P_not rfl) rfl rfl v6 rfl ?_
       refine EL_p (.bool (!i7)) (P_pick (b := ((((x0).Rates).length : Int) == (0 : Int))) rfl (pick_f v6 rfl)) rfl ?_
       refine EL_mw (.bool (!i7)) rfl rfl ?_
       rcases csome h with ⟨x6, h⟩ | ⟨x6, h⟩
       ·refine EL_s rfl rfl x6 rfl rfl ?_
        iterate 3 refine EL_s rfl rfl x6 rfl rfl ?_
        refine EL_p (.bool true) (P_pick (b := (!i7)) rfl (pick_t x6 rfl)) rfl ?_
        refine EL_nil ?_
        obtain rfl := sinj h
        exact hQ _ _ ⟨mA, hfr, rfl⟩
       ·refine EL_y (fPtr p1 3) (P_fieldAddr at_25_3 n8 (PT.ptr j6)) rfl rfl x6 rfl ?_
        have xF := PT_field (part_PayList_3).1 j6
        refine EL_do (.yes2 rfl rfl x6) rfl (D_load (g := mA) Tryz.isAgg3 Tryz.sizeOf3 rfl xF fun qI yF => ?_)
        obtain rfl := RV_int.1 yF
        obtain ⟨o8, lD, h⟩ := bsome h
        refine EL_do (.yes2 rfl rfl x6) rfl (D_call (g := mA) (vs := [.int .i64 ((x0).Cap), .int .i64 (0), .int .i64 (1000)]) en25 (.cons rfl (.cons rfl (.cons rfl .nil))) (wk25  lD) fun zF xG rI hs hr => ?_)
        have hfr := hfr.ext hs
        subst hr
        refine EL_y (.bool (!o8)) (P_not rfl) rfl rfl x6 rfl ?_
        refine EL_p (.bool (!o8)) (P_pick (b := (!i7)) rfl (pick_f x6 rfl)) rfl ?_
        refine EL_nil ?_
        obtain rfl := sinj h
        exact hQ _ _ ⟨zF, hfr, rfl⟩
     ·clear hx
      obtain ⟨aG, hfr, d9⟩ := hR
      rcases csome h with ⟨i9, h⟩ | ⟨i9, h⟩
      ·refine E_cond_true (Eq.trans (show ev _ _ = .bool (y6) from d9) (congrArg Value.bool i9)) ?_
       refine E_seq (E_region (EL_at (.int .i64 (2)) rfl rfl ?_))
       refine EL_nil (thn_n (E_ret (thn_r ?_)))
       obtain rfl := sinj h
       exact end1 rfl rfl (show _ = .int .i64 (2) from rfl) ⟨_, hfr, rfl⟩
      ·refine E_cond_false (Eq.trans (show ev _ _ = .bool (y6) from d9) (congrArg Value.bool i9)) ?_
       exact E_skip (thn_n (jD () _ _ ⟨aG, hfr⟩ h))
    ·rintro _ yG sI ⟨tI, hfr⟩ h
     refine E_seq (E_region (EL_at (.int .i64 (0)) rfl rfl ?_))
     refine EL_nil (thn_n (E_ret ?_))
     obtain rfl := sinj h
     exact end1 rfl rfl (show _ = .int .i64 (0) from rfl) ⟨_, hfr, rfl⟩
def f19 (x0 : PayList) (x1 : PayList) : Option (Bool) :=
 jn (σ := Unit) (fun _ =>
  jn (σ := Unit) (fun _ =>
   some (true)
   ) fun g7 =>
  lp (σ := Int) (fun i7 o0 =>
   jn (σ := Unit) (fun _ =>
    jn (σ := Unit) (fun _ =>
     i7 ((w64 (o0 + (1 : Int))))
     ) fun j7 =>
    (idx ((x0).Rates) o0).bind fun x6 =>
    (idx ((x1).Rates) o0).bind fun y6 =>
    bif (!(decide (x6 = y6))) then
     some (false)
    else
     j7 ()
    ) fun m7 =>
   bif (decide (o0 < (((x0).Rates).length : Int))) then
    m7 ()
   else
    g7 ()
   ) big ((0 : Int))
  ) fun z9 =>
 Option.bind (α := Bool) (
  bif ((x0).Fine != (x1).Fine) then
   some (true)
  else
   bif ((x0).Cap != (x1).Cap) then
    some (true)
   else
    (f29 ((x0).Extras) ((x1).Extras)).bind fun z3 =>
    bif (!z3) then
     some (true)
    else
     some (((((x0).Rates).length : Int) != (((x1).Rates).length : Int)))
  ) fun j3 =>
 bif j3 then
  some (false)
 else
  z9 ()
theorem en19 : Enters Tryz.prog 19 := enters_of Tryz.func19 (by kernel_rfl) rfl
theorem wk19 {gI : Gh} {wI : World} {x0 : PayList} {x1 : PayList} {up0 : Value} (rp0 : RV gI.m wI x0 up0) {up1 : Value} (rp1 : RV gI.m wI x1 up1) {r : Bool} (h : f19 x0 x1 = some r) : Fn Tryz.prog 19 #[up0, up1] gI wI (fun _ _ v => v = .bool (r)) := by
 unfold f19 at h
 refine fn_of_E Tryz.func19 rfl (Nat.le_of_ble_eq_true rfl) fun g0 hm hfr => ?_
 have rp0 : RV g0.m wI x0 up0 := hm ▸ rp0
 have rp1 : RV g0.m wI x1 up1 := hm ▸ rp1
 show E _ 53 none _ _ _ _ _
 refine E_seq (E_region (EL_do .plain rfl (D_box (g := g0) rfl rp0 fun g1 w1 p1 hs q1 => ?_)))
 have hfr := hfr.ext hs
 have rp1 := rp1.ext hs
 refine EL_do .plain rfl (D_box (g := g1) rfl rp1 fun g2 w2 p2 hs q2 => ?_)
 have hfr := hfr.ext hs
 have q1 := q1.ext hs
 refine EL_at (.bool false) rfl rfl ?_
 refine EL_nil (thn_n (E_joinC h (fun (s : Unit) e w => ∃ (g : Gh) , Fr gI wI g w ∧ e 2 = p1 ∧ PT g.m w (x0 : PayList) p1 ∧ e 3 = p2 ∧ PT g.m w (x1 : PayList) p2) (fun X47 z9 bA h => ?_) ?_))
 ·obtain ⟨j3, hx, h⟩ := bsome h
  refine E_join (fun e w => ∃ (g : Gh) , Fr gI wI g w ∧ e 2 = p1 ∧ PT g.m w (x0 : PayList) p1 ∧ e 3 = p2 ∧ PT g.m w (x1 : PayList) p2 ∧ e 34 = .bool (j3)) (fun Q' hQ => ?_) (fun mC cD hR => ?_)
  ·replace h := hx
   clear hx
   refine E_region (EL_p (fPtr p1 2) (P_fieldAddr at_25_2 rfl (PT.ptr q1)) rfl ?_)
   have aB := PT_field (part_PayList_2).1 q1
   refine EL_do .plain rfl (D_load (g := g2) Tryz.isAgg3 Tryz.sizeOf3 rfl aB fun eD bB => ?_)
   obtain rfl := RV_int.1 bB
   refine EL_p (fPtr p2 2) (P_fieldAddr at_25_2 rfl (PT.ptr q2)) rfl ?_
   have cB := PT_field (part_PayList_2).1 q2
   refine EL_do .plain rfl (D_load (g := g2) Tryz.isAgg3 Tryz.sizeOf3 rfl cB fun gD dB => ?_)
   obtain rfl := RV_int.1 dB
   refine EL_in (.bool (((x0).Fine != (x1).Fine))) rfl rfl rfl rfl ?_
   refine EL_mw (.bool (((x0).Fine != (x1).Fine))) rfl rfl ?_
   rcases csome h with ⟨i3, h⟩ | ⟨i3, h⟩
   ·refine EL_s rfl rfl i3 rfl rfl ?_
    iterate 4 refine EL_s rfl rfl i3 rfl rfl ?_
    refine EL_p (.bool true) (P_pick (b := ((x0).Fine != (x1).Fine)) rfl (pick_t i3 rfl)) rfl ?_
    refine EL_dead 17 rfl ?_
    refine EL_nil ?_
    obtain rfl := sinj h
    exact hQ _ _ ⟨g2, hfr, rfl, q1, rfl, q2, rfl⟩
   ·refine EL_y (fPtr p1 3) (P_fieldAddr at_25_3 rfl (PT.ptr q1)) rfl rfl i3 rfl ?_
    have eB := PT_field (part_PayList_3).1 q1
    refine EL_do (.yes2 rfl rfl i3) rfl (D_load (g := g2) Tryz.isAgg3 Tryz.sizeOf3 rfl eB fun iD iB => ?_)
    obtain rfl := RV_int.1 iB
    refine EL_y (fPtr p2 3) (P_fieldAddr at_25_3 rfl (PT.ptr q2)) rfl rfl i3 rfl ?_
    have jB := PT_field (part_PayList_3).1 q2
    refine EL_do (.yes2 rfl rfl i3) rfl (D_load (g := g2) Tryz.isAgg3 Tryz.sizeOf3 rfl jB fun jD lB => ?_)
    obtain rfl := RV_int.1 lB
    refine EL_y (.bool (((x0).Cap != (x1).Cap))) (P_int rfl rfl rfl) rfl rfl i3 rfl ?_
    refine EL_p (.bool (((x0).Cap != (x1).Cap))) (P_pick (b := ((x0).Fine != (x1).Fine)) rfl (pick_f i3 rfl)) rfl ?_
    refine EL_mw (.bool (((x0).Cap != (x1).Cap))) rfl rfl ?_
    rcases csome h with ⟨j1, h⟩ | ⟨j1, h⟩
    ·refine EL_s rfl rfl j1 rfl rfl ?_
     iterate 5 refine EL_s rfl rfl j1 rfl rfl ?_
     refine EL_p (.bool true) (P_pick (b := ((x0).Cap != (x1).Cap)) rfl (pick_t j1 rfl)) rfl ?_
     refine EL_dead 9 rfl ?_
     refine EL_nil ?_
     obtain rfl := sinj h
     exact hQ _ _ ⟨g2, hfr, rfl, q1, rfl, q2, rfl⟩
    ·refine EL_y (fPtr p1 1) (P_fieldAddr at_25_1 rfl (PT.ptr q1)) rfl rfl j1 rfl ?_
     have mB := PT_field (part_PayList_1).1 q1
     refine EL_do (.yes2 rfl rfl j1) rfl (D_load (g := g2) Tryz.isAgg23 Tryz.sizeOf23 rfl mB fun nB oB => ?_)
     refine EL_y (fPtr p2 1) (P_fieldAddr at_25_1 rfl (PT.ptr q2)) rfl rfl j1 rfl ?_
     have tB := PT_field (part_PayList_1).1 q2
     refine EL_do (.yes2 rfl rfl j1) rfl (D_load (g := g2) Tryz.isAgg23 Tryz.sizeOf23 rfl tB fun vB xB => ?_)
     obtain ⟨z3, gA, h⟩ := bsome h
     refine EL_do (.yes2 rfl rfl j1) rfl (D_call (g := g2) (vs := [nB, vB]) en29 (.cons rfl (.cons rfl .nil)) (wk29 oB xB gA) fun c7 qC kD hs hr => ?_)
     have hfr := hfr.ext hs
     have q1 := q1.ext hs
     have q2 := q2.ext hs
     subst hr
     refine EL_y (.bool (!z3)) (P_not rfl) rfl rfl j1 rfl ?_
     refine EL_p (.bool (!z3)) (P_pick (b := ((x0).Cap != (x1).Cap)) rfl (pick_f j1 rfl)) rfl ?_
     refine EL_mw (.bool (!z3)) rfl rfl ?_
     rcases csome h with ⟨u0, h⟩ | ⟨u0, h⟩
     ·refine EL_s rfl rfl u0 rfl rfl ?_
      iterate 6 refine EL_s rfl rfl u0 rfl rfl ?_
      refine EL_p (.bool true) (P_pick (b := (!z3)) rfl (pick_t u0 rfl)) rfl ?_
      refine EL_nil ?_
      obtain rfl := sinj h
      exact hQ _ _ ⟨c7, hfr, rfl, q1, rfl, q2, rfl⟩
     ·refine EL_y (fPtr p1 0) (P_fieldAddr at_25_0 rfl (PT.ptr q1)) rfl rfl u0 rfl ?_
      have yB := PT_field (part_PayList_0).1 q1
      refine EL_do (.yes2 rfl rfl u0) rfl (D_load (g := c7) Tryz.isAgg22 Tryz.sizeOf22 rfl yB fun lD zB => ?_)
      refine EL_y (.int .i64 (((x0).Rates).length : Int)) (P_len Tryz.underlying22 rfl zB) rfl rfl u0 rfl ?_
      refine EL_y (fPtr p2 0) (P_fieldAddr at_25_0 rfl (PT.ptr q2)) rfl rfl u0 rfl ?_
      have aC := PT_field (part_PayList_0).1 q2
      refine EL_do (.yes2 rfl rfl u0) rfl (D_load (g := c7) Tryz.isAgg22 Tryz.sizeOf22 rfl aC fun mD cC => ?_)
      refine EL_y (.int .i64 (((x1).Rates).length : Int)) (P_len Tryz.underlying22 rfl cC) rfl rfl u0 rfl ?_
      refine EL_y (.bool (((((x0).Rates).length : Int) != (((x1).Rates).length : Int)))) (P_int rfl rfl rfl) rfl rfl u0 rfl ?_
      refine EL_p (.bool (((((x0).Rates).length : Int) != (((x1).Rates).length : Int)))) (P_pick (b := (!z3)) rfl (pick_f u0 rfl)) rfl ?_
      refine EL_nil ?_
      obtain rfl := sinj h
      exact hQ _ _ ⟨c7, hfr, rfl, q1, rfl, q2, rfl⟩
  ·clear hx
   obtain ⟨dC, hfr, q8, r8, t8, v8, t5⟩ := hR
   rcases csome h with ⟨a7, h⟩ | ⟨a7, h⟩
   ·refine E_cond_true (Eq.trans (show ev _ _ = .bool (j3) from t5) (congrArg Value.bool a7)) ?_
    refine E_seq (E_region (EL_at (.bool false) rfl rfl ?_))
    refine EL_nil (thn_n (E_ret (thn_r ?_)))
    obtain rfl := sinj h
    exact end1 rfl rfl (show _ = .bool false from rfl) ⟨_, hfr, rfl⟩
   ·refine E_cond_false (Eq.trans (show ev _ _ = .bool (j3) from t5) (congrArg Value.bool a7)) ?_
    exact E_skip (thn_n (bA () _ _ ⟨dC, hfr, q8, r8, t8, v8⟩ h))
 ·rintro _ rC nD ⟨eC, hfr, x8, y8, a9, d9⟩ h
  refine E_joinC h (fun (s : Unit) e w => ∃ (g : Gh) , Fr gI wI g w) (fun X158 g7 i9 h => ?_) ?_
  ·refine E_seq (E_region (EL_at (.int .i64 (0)) rfl rfl ?_))
   refine EL_nil (thn_n (E_block ?_))
   refine E_lp h (fun (s : Int) e w => ∃ (g : Gh) , Fr gI wI g w ∧ e 2 = p1 ∧ PT g.m w (x0 : PayList) p1 ∧ e 3 = p2 ∧ PT g.m w (x1 : PayList) p2 ∧ e 5 = .int .i64 (s)) ⟨eC, hfr, x8, y8, a9, d9, rfl⟩ (fun X159 i7 k9 => ?_)
   rintro o0 iC tC ⟨b7, hfr, x5, z4, o7, u7, i6⟩ h
   refine E_joinC h (fun (s : Unit) e w => ∃ (g : Gh) , Fr gI wI g w ∧ e 2 = p1 ∧ PT g.m w (x0 : PayList) p1 ∧ e 3 = p2 ∧ PT g.m w (x1 : PayList) p2 ∧ e 5 = .int .i64 (o0)) (fun X164 m7 l9 h => ?_) ?_
   ·refine E_seq (E_region (EL_mv i6 rfl ?_))
    refine EL_p (fPtr p1 0) (P_fieldAddr at_25_0 x5 (PT.ptr z4)) rfl ?_
    have iA := PT_field (part_PayList_0).1 z4
    refine EL_do .plain rfl (D_load (g := b7) Tryz.isAgg22 Tryz.sizeOf22 rfl iA fun uC jA => ?_)
    refine EL_p (.int .i64 (((x0).Rates).length : Int)) (P_len Tryz.underlying22 rfl jA) rfl ?_
    refine EL_p (.bool ((decide (o0 < (((x0).Rates).length : Int))))) (P_int rfl rfl rfl) rfl ?_
    refine EL_nil (thn_n ?_)
    rcases csome h with ⟨l5, h⟩ | ⟨l5, h⟩
    ·refine E_ct l5 rfl ?_
     exact E_skip (thn_n (l9 () _ _ ⟨b7, hfr, x5, z4, o7, u7, i6⟩ h))
    ·refine E_cf l5 rfl ?_
     refine E_exit ?_
     refine thn_e ?_
     refine thn_e ?_
     refine blk_hit ?_
     exact thn_n (i9 () _ _ ⟨b7, hfr⟩ h)
   ·rintro _ jC vC ⟨lA, hfr, j6, o3, v6, u3, i5⟩ h
    refine E_joinC h (fun (s : Unit) e w => ∃ (g : Gh) , Fr gI wI g w ∧ e 2 = p1 ∧ PT g.m w (x0 : PayList) p1 ∧ e 3 = p2 ∧ PT g.m w (x1 : PayList) p2 ∧ e 5 = .int .i64 (o0)) (fun X195 j7 n9 h => ?_) ?_
    ·refine E_block ?_
     refine E_seq ?_
     have mA := PT_field (part_PayList_0).1 o3
     refine L_load (x := .tmp 42) Tryz.isAgg22 Tryz.sizeOf22 mA fun v7 c8 o9 => ?_
     obtain ⟨x6, d7, h⟩ := bsome h
     have nA := PT_idx c8 d7
     refine L_load (x := .tmp 45) Tryz.isAgg87 Tryz.sizeOf87 nA fun oA pA t9 => ?_
     have qA := PT_field (part_PayList_0).1 u3
     refine L_load (x := .tmp 47) Tryz.isAgg22 Tryz.sizeOf22 qA fun g8 i8 u9 => ?_
     obtain ⟨y6, e7, h⟩ := bsome h
     have rA := PT_idx i8 e7
     refine L_load (x := .tmp 50) Tryz.isAgg87 Tryz.sizeOf87 rA fun uA xA y9 => ?_
     refine E_drawL (g := lA) (n := 11) [] [0, 1, 2, 3, 4, 5, 6, 7, 8, 9, 10] rfl mixed (by kernel_rfl) trivial ?_
     refine L_p (fPtr p1 0) rfl rfl (P_fieldAddr at_25_0 j6 (PT.ptr o3)) ?_
     refine L_ld (c := v7) rfl rfl .plain (fun _ _ h => h.ch) o9 rfl ?_
     refine L_p (.int .i64 (o0)) rfl rfl (P_move i5) ?_
     refine L_p (ePtr v7 o0 2) rfl rfl (P_indexAddr (α := PayRate) Tryz.underlying22 Tryz.sizeOf87 rfl c8 rfl d7) ?_
     refine L_ld (c := oA) rfl rfl .plain (fun _ _ h => h.ch) t9 rfl ?_
     refine L_p (fPtr p2 0) rfl rfl (P_fieldAddr at_25_0 v6 (PT.ptr u3)) ?_
     refine L_ld (c := g8) rfl rfl .plain (fun _ _ h => h.ch) u9 rfl ?_
     refine L_p (.int .i64 (o0)) rfl rfl (P_move i5) ?_
     refine L_p (ePtr g8 o0 2) rfl rfl (P_indexAddr (α := PayRate) Tryz.underlying22 Tryz.sizeOf87 rfl i8 rfl e7) ?_
     refine L_ld (c := uA) rfl rfl .plain (fun _ _ h => h.ch) y9 rfl ?_
     refine L_p (.bool ((!(decide (x6 = y6))))) rfl rfl (P_sne seq_87 rfl eg_87 rfl rfl pA xA) ?_
     refine L_nl fun yA xC hs => ?_
     have hfr := hfr.ext hs
     have o3 := o3.ext hs
     have u3 := u3.ext hs
     clear hs
     refine EL_nil (thn_n ?_)
     rcases csome h with ⟨q5, h⟩ | ⟨q5, h⟩
     ·refine E_ct q5 rfl ?_
      refine E_seq (E_region (EL_at (.bool false) rfl rfl ?_))
      refine EL_nil (thn_n (E_ret (blk_r ?_)))
      refine thn_r ?_
      refine thn_r ?_
      refine blk_r ?_
      refine thn_r ?_
      obtain rfl := sinj h
      exact end1 rfl rfl (show _ = .bool false from rfl) ⟨_, hfr, rfl⟩
     ·refine E_cf q5 rfl ?_
      exact E_skip (blk_n (thn_n (n9 () _ _ ⟨yA, hfr, j6, o3, v6, u3, i5⟩ h)))
    ·rintro _ kC yC ⟨zA, hfr, k8, l8, m8, n8, o8⟩ h
     refine E_region (EL_mv o8 rfl ?_)
     refine EL_in (.int .i64 ((w64 (o0 + (1 : Int))))) rfl rfl rfl rfl ?_
     refine EL_at (.int .i64 ((w64 (o0 + (1 : Int))))) rfl rfl ?_
     exact EL_nil (thn_n (k9 ((w64 (o0 + (1 : Int)))) _ _ ⟨zA, hfr, k8, l8, m8, n8, rfl⟩ h))
  ·rintro _ lC aD ⟨bD, hfr⟩ h
   refine E_seq (E_region (EL_at (.bool true) rfl rfl ?_))
   refine EL_nil (thn_n (E_ret ?_))
   obtain rfl := sinj h
   exact end1 rfl rfl (show _ = .bool true from rfl) ⟨_, hfr, rfl⟩
def f20 (x0 : List PayPiece) (x1 : List PayPiece) : Option (Bool) :=
 jn (σ := Unit) (fun _ =>
  jn (σ := Unit) (fun _ =>
   some (true)
   ) fun m7 =>
  lp (σ := Int) (fun o7 j1 =>
   jn (σ := Unit) (fun _ =>
    jn (σ := Unit) (fun _ =>
     o7 ((w64 (j1 + (1 : Int))))
     ) fun u7 =>
    (idx x0 j1).bind fun o0 =>
    (idx x1 j1).bind fun u0 =>
    Option.bind (α := Bool) (
     bif ((o0).Weaver != (u0).Weaver) then
      some (true)
     else
      bif ((o0).Dense != (u0).Dense) then
       some (true)
      else
       bif ((o0).Picks != (u0).Picks) then
        some (true)
       else
        bif ((o0).Faults != (u0).Faults) then
         some (true)
        else
         (f29 ((o0).Extras) ((u0).Extras)).bind fun y6 =>
         some ((!y6))
     ) fun q5 =>
    bif q5 then
     some (false)
    else
     u7 ()
    ) fun v7 =>
   bif (decide (j1 < ((x0).length : Int))) then
    v7 ()
   else
    m7 ()
   ) big ((0 : Int))
  ) fun k2 =>
 bif (((x0).length : Int) != ((x1).length : Int)) then
  some (false)
 else
  k2 ()
theorem en20 : Enters Tryz.prog 20 := enters_of Tryz.func20 (by kernel_rfl) rfl
theorem wk20 {gI : Gh} {wI : World} {x0 : List PayPiece} {x1 : List PayPiece} {up0 : Value} (rp0 : RV gI.m wI x0 up0) {up1 : Value} (rp1 : RV gI.m wI x1 up1) {r : Bool} (h : f20 x0 x1 = some r) : Fn Tryz.prog 20 #[up0, up1] gI wI (fun _ _ v => v = .bool (r)) := by
 unfold f20 at h
 refine fn_of_E Tryz.func20 rfl (Nat.le_of_ble_eq_true rfl) fun g0 hm hfr => ?_
 have rp0 : RV g0.m wI x0 up0 := hm ▸ rp0
 have rp1 : RV g0.m wI x1 up1 := hm ▸ rp1
 show E _ 61 none _ _ _ _ _
 refine E_seq (E_region (EL_at (.bool false) rfl rfl ?_))
 refine EL_nil (thn_n (E_joinC h (fun (s : Unit) e w => ∃ (g : Gh) , Fr gI wI g w ∧ e 0 = up0 ∧ RV g.m w (x0 : List PayPiece) up0 ∧ e 1 = up1 ∧ RV g.m w (x1 : List PayPiece) up1) (fun X2 k2 hk2 h => ?_) ?_))
 ·refine E_seq (E_region (EL_mw up0 rfl rfl ?_))
  refine EL_p (.int .i64 ((x0).length : Int)) (P_len Tryz.underlying33 rfl rp0) rfl ?_
  refine EL_mw up1 rfl rfl ?_
  refine EL_p (.int .i64 ((x1).length : Int)) (P_len Tryz.underlying33 rfl rp1) rfl ?_
  refine EL_in (.bool ((((x0).length : Int) != ((x1).length : Int)))) rfl rfl rfl rfl ?_
  refine EL_nil (thn_n ?_)
  rcases csome h with ⟨hc3, h⟩ | ⟨hc3, h⟩
  ·refine E_ct hc3 rfl ?_
   refine E_seq (E_region (EL_at (.bool false) rfl rfl ?_))
   refine EL_nil (thn_n (E_ret (thn_r ?_)))
   obtain rfl := sinj h
   exact end1 rfl rfl (show _ = .bool false from rfl) ⟨_, hfr, rfl⟩
  ·refine E_cf hc3 rfl ?_
   exact E_skip (thn_n (hk2 () _ _ ⟨g0, hfr, rfl, rp0, rfl, rp1⟩ h))
 ·rintro _ xC w4 ⟨g4, hfr, z9, bA, gA, iA⟩ h
  refine E_joinC h (fun (s : Unit) e w => ∃ (g : Gh) , Fr gI wI g w) (fun X170 m7 k9 h => ?_) ?_
  ·refine E_seq (E_region (EL_at (.int .i64 (0)) rfl rfl ?_))
   refine EL_nil (thn_n (E_block ?_))
   refine E_lp h (fun (s : Int) e w => ∃ (g : Gh) , Fr gI wI g w ∧ e 0 = up0 ∧ RV g.m w (x0 : List PayPiece) up0 ∧ e 1 = up1 ∧ RV g.m w (x1 : List PayPiece) up1 ∧ e 5 = .int .i64 (s)) ⟨g4, hfr, z9, bA, gA, iA, rfl⟩ (fun X171 o7 l9 => ?_)
   rintro j1 mB yB ⟨c8, hfr, c7, d7, g8, i8, e7⟩ h
   refine E_joinC h (fun (s : Unit) e w => ∃ (g : Gh) , Fr gI wI g w ∧ e 0 = up0 ∧ RV g.m w (x0 : List PayPiece) up0 ∧ e 1 = up1 ∧ RV g.m w (x1 : List PayPiece) up1 ∧ e 5 = .int .i64 (j1)) (fun X174 v7 n9 h => ?_) ?_
   ·refine E_seq (E_region (EL_mv e7 rfl ?_))
    refine EL_mv c7 rfl ?_
    refine EL_p (.int .i64 ((x0).length : Int)) (P_len Tryz.underlying33 rfl d7) rfl ?_
    refine EL_in (.bool ((decide (j1 < ((x0).length : Int))))) rfl rfl rfl rfl ?_
    refine EL_nil (thn_n ?_)
    rcases csome h with ⟨a7, h⟩ | ⟨a7, h⟩
    ·refine E_ct a7 rfl ?_
     exact E_skip (thn_n (n9 () _ _ ⟨c8, hfr, c7, d7, g8, i8, e7⟩ h))
    ·refine E_cf a7 rfl ?_
     refine E_exit ?_
     refine thn_e ?_
     refine thn_e ?_
     refine blk_hit ?_
     exact thn_n (k9 () _ _ ⟨c8, hfr⟩ h)
   ·rintro _ nB jA ⟨k8, hfr, t5, i3, x5, j3, l5⟩ h
    refine E_joinC h (fun (s : Unit) e w => ∃ (g : Gh) , Fr gI wI g w ∧ e 0 = up0 ∧ RV g.m w (x0 : List PayPiece) up0 ∧ e 1 = up1 ∧ RV g.m w (x1 : List PayPiece) up1 ∧ e 5 = .int .i64 (j1)) (fun X255 u7 o9 h => ?_) ?_
    ·refine E_block ?_
     refine E_seq ?_
     obtain ⟨o0, i7, h⟩ := bsome h
     have lA := PT_idx i3 i7
     refine L_load (x := .tmp 21) Tryz.isAgg27 Tryz.sizeOf27 lA fun l8 g7 t9 => ?_
     obtain ⟨u0, j7, h⟩ := bsome h
     have mA := PT_idx j3 j7
     refine L_load (x := .tmp 25) Tryz.isAgg27 Tryz.sizeOf27 mA fun m8 v6 u9 => ?_
     refine E_drawTL (g := k8) (n := 10) [4, 5, 6, 7] [(8, (fun v g w => OB 2006 g w 27 (⟨0, 0, 0, [], 0⟩ : PayPiece) v)), (9, (fun v g w => OB 2007 g w 27 (⟨0, 0, 0, [], 0⟩ : PayPiece) v))] [0, 1, 2, 3, 4, 5, 6, 7, 8, 9] rfl mixed (by kernel_rfl) (⟨fun _ => up_ob, fun _ => up_ob, trivial⟩) rfl ?_
     refine L_p up0 rfl rfl (P_move t5) ?_
     refine L_p (.int .i64 (j1)) rfl rfl (P_move l5) ?_
     refine L_p (ePtr up0 j1 5) rfl rfl (P_indexAddr (α := PayPiece) Tryz.underlying33 Tryz.sizeOf27 rfl i3 rfl i7) ?_
     refine L_ld (c := l8) rfl rfl .plain (fun _ _ h => h.ch) t9 rfl ?_
     refine L_purL (c := up1) rfl rfl .plain (P_move x5) ?_
     refine L_purL (c := .int .i64 (j1)) rfl rfl .plain (P_move l5) ?_
     refine L_purL (c := ePtr up1 j1 5) rfl rfl .plain (P_indexAddr (α := PayPiece) Tryz.underlying33 Tryz.sizeOf27 rfl j3 rfl j7) ?_
     refine L_ldL (c := m8) rfl rfl .plain (fun _ _ h => h.ch) rfl u9 rfl ?_
     refine L_do (φ := fun v g w => OB 2006 g w 27 (⟨0, 0, 0, [], 0⟩ : PayPiece) v) rfl rfl .plain (fun g w hd => D_allocX (g := g) 2006 (⟨0, 0, 0, [], 0⟩ : PayPiece) Tryz.zeroValue27 (fun m w => ⟨_, (rep_two rep_int (rep_two rep_int (rep_two rep_int (rep_two rep_nil rep_int)))), rfl⟩) fun g' w' v hs b => ⟨g', hs, b⟩) (fun i6 hv => ?_)
     clear hv
     refine L_do (φ := fun v g w => OB 2007 g w 27 (⟨0, 0, 0, [], 0⟩ : PayPiece) v) rfl rfl .plain (fun g w hd => D_allocX (g := g) 2007 (⟨0, 0, 0, [], 0⟩ : PayPiece) Tryz.zeroValue27 (fun m w => ⟨_, (rep_two rep_int (rep_two rep_int (rep_two rep_int (rep_two rep_nil rep_int)))), rfl⟩) fun g' w' v hs b => ⟨g', hs, b⟩) (fun j6 hv => ?_)
     clear hv
     refine L_nil fun n8 nA hall => ?_
     have hs := hall.1
     have hlt : Lt k8.m jA n8 nA := hs.ch
     have hfr := hfr.ext hs
     have i3 := i3.ext hs
     have j3 := j3.ext hs
     have g7 := g7.ext hs
     have v6 := v6.ext hs
     have b276 := (word_all (A := fun g w => OB 2006 g w 27 (⟨0, 0, 0, [], 0⟩ : PayPiece) i6) 8 rfl hall)
     have b277 := (word_all (A := fun g w => OB 2007 g w 27 (⟨0, 0, 0, [], 0⟩ : PayPiece) j6) 9 rfl hall)
     clear hs hall
     refine TL_do hlt.w .plain rfl (D_storeOc (g := n8) (v := l8) Tryz.sizeOf27 rfl b276 rfl g7 fun oA zB hs b278 cb => ?_)
     clear cb
     have hfr := hfr.stp hs
     have hlt := hlt.stp hs
     have i3 := i3.stp hs
     have j3 := j3.stp hs
     have v6 := v6.stp hs
     have b277 := b277.stp hs rfl
     refine TL_do hlt.w .plain rfl (D_storeOc (g := oA) (v := m8) Tryz.sizeOf27 rfl b277 rfl v6 fun o3 aC hs b279 cb => ?_)
     clear cb
     have hfr := hfr.stp hs
     have hlt := hlt.stp hs
     have i3 := i3.stp hs
     have j3 := j3.stp hs
     have b278 := b278.stp hs rfl
     refine TL_nil hlt.w ?_
     clear hlt
     refine thn_n ?_
     obtain ⟨q5, hx, h⟩ := bsome h
     refine E_join (fun e w => ∃ (g : Gh) , Fr gI wI g w ∧ e 0 = up0 ∧ RV g.m w (x0 : List PayPiece) up0 ∧ e 1 = up1 ∧ RV g.m w (x1 : List PayPiece) up1 ∧ e 5 = .int .i64 (j1) ∧ e 60 = .bool (q5)) (fun Q' hQ => ?_) (fun oB cC hR => ?_)
     ·replace h := hx
      clear hx
      refine E_region (EL_p (fPtr i6 0) (P_fieldAddr at_27_0 rfl (OB.ptr b278)) rfl ?_)
      refine EL_do .plain rfl (D_loadF (g := o3) part_PayPiece_0.1 Tryz.isAgg3 Tryz.sizeOf3 rfl b278 fun dC pA => ?_)
      obtain rfl := RV_int.1 pA
      refine EL_p (fPtr j6 0) (P_fieldAddr at_27_0 rfl (OB.ptr b279)) rfl ?_
      refine EL_do .plain rfl (D_loadF (g := o3) part_PayPiece_0.1 Tryz.isAgg3 Tryz.sizeOf3 rfl b279 fun eC qA => ?_)
      obtain rfl := RV_int.1 qA
      refine EL_in (.bool (((o0).Weaver != (u0).Weaver))) rfl rfl rfl rfl ?_
      refine EL_mw (.bool (((o0).Weaver != (u0).Weaver))) rfl rfl ?_
      rcases csome h with ⟨z3, h⟩ | ⟨z3, h⟩
      ·refine EL_s rfl rfl z3 rfl rfl ?_
       iterate 4 refine EL_s rfl rfl z3 rfl rfl ?_
       refine EL_p (.bool true) (P_pick (b := ((o0).Weaver != (u0).Weaver)) rfl (pick_t z3 rfl)) rfl ?_
       refine EL_dead 22 rfl ?_
       refine EL_nil ?_
       obtain rfl := sinj h
       exact hQ _ _ ⟨o3, hfr, t5, i3, x5, j3, l5, rfl⟩
      ·refine EL_y (fPtr i6 1) (P_fieldAddr at_27_1 rfl (OB.ptr b278)) rfl rfl z3 rfl ?_
       refine EL_do (.yes2 rfl rfl z3) rfl (D_loadF (g := o3) part_PayPiece_1.1 Tryz.isAgg3 Tryz.sizeOf3 rfl b278 fun iC rA => ?_)
       obtain rfl := RV_int.1 rA
       refine EL_y (fPtr j6 1) (P_fieldAddr at_27_1 rfl (OB.ptr b279)) rfl rfl z3 rfl ?_
       refine EL_do (.yes2 rfl rfl z3) rfl (D_loadF (g := o3) part_PayPiece_1.1 Tryz.isAgg3 Tryz.sizeOf3 rfl b279 fun jC uA => ?_)
       obtain rfl := RV_int.1 uA
       refine EL_y (.bool (((o0).Dense != (u0).Dense))) (P_int rfl rfl rfl) rfl rfl z3 rfl ?_
       refine EL_p (.bool (((o0).Dense != (u0).Dense))) (P_pick (b := ((o0).Weaver != (u0).Weaver)) rfl (pick_f z3 rfl)) rfl ?_
       refine EL_mw (.bool (((o0).Dense != (u0).Dense))) rfl rfl ?_
       rcases csome h with ⟨z4, h⟩ | ⟨z4, h⟩
       ·refine EL_s rfl rfl z4 rfl rfl ?_
        iterate 4 refine EL_s rfl rfl z4 rfl rfl ?_
        refine EL_p (.bool true) (P_pick (b := ((o0).Dense != (u0).Dense)) rfl (pick_t z4 rfl)) rfl ?_
        refine EL_dead 15 rfl ?_
        refine EL_nil ?_
        obtain rfl := sinj h
        exact hQ _ _ ⟨o3, hfr, t5, i3, x5, j3, l5, rfl⟩
       ·refine EL_y (fPtr i6 2) (P_fieldAddr at_27_2 rfl (OB.ptr b278)) rfl rfl z4 rfl ?_
        refine EL_do (.yes2 rfl rfl z4) rfl (D_loadF (g := o3) part_PayPiece_2.1 Tryz.isAgg3 Tryz.sizeOf3 rfl b278 fun kC xA => ?_)
        obtain rfl := RV_int.1 xA
        refine EL_y (fPtr j6 2) (P_fieldAddr at_27_2 rfl (OB.ptr b279)) rfl rfl z4 rfl ?_
        refine EL_do (.yes2 rfl rfl z4) rfl (D_loadF (g := o3) part_PayPiece_2.1 Tryz.isAgg3 Tryz.sizeOf3 rfl b279 fun lC yA => ?_)
        obtain rfl := RV_int.1 yA
        refine EL_y (.bool (((o0).Picks != (u0).Picks))) (P_int rfl rfl rfl) rfl rfl z4 rfl ?_
        refine EL_p (.bool (((o0).Picks != (u0).Picks))) (P_pick (b := ((o0).Dense != (u0).Dense)) rfl (pick_f z4 rfl)) rfl ?_
        refine EL_mw (.bool (((o0).Picks != (u0).Picks))) rfl rfl ?_
        rcases csome h with ⟨i5, h⟩ | ⟨i5, h⟩
        ·refine EL_s rfl rfl i5 rfl rfl ?_
         iterate 4 refine EL_s rfl rfl i5 rfl rfl ?_
         refine EL_p (.bool true) (P_pick (b := ((o0).Picks != (u0).Picks)) rfl (pick_t i5 rfl)) rfl ?_
         refine EL_dead 8 rfl ?_
         refine EL_nil ?_
         obtain rfl := sinj h
         exact hQ _ _ ⟨o3, hfr, t5, i3, x5, j3, l5, rfl⟩
        ·refine EL_y (fPtr i6 4) (P_fieldAddr at_27_4 rfl (OB.ptr b278)) rfl rfl i5 rfl ?_
         refine EL_do (.yes2 rfl rfl i5) rfl (D_loadF (g := o3) part_PayPiece_4.1 Tryz.isAgg3 Tryz.sizeOf3 rfl b278 fun mC zA => ?_)
         obtain rfl := RV_int.1 zA
         refine EL_y (fPtr j6 4) (P_fieldAddr at_27_4 rfl (OB.ptr b279)) rfl rfl i5 rfl ?_
         refine EL_do (.yes2 rfl rfl i5) rfl (D_loadF (g := o3) part_PayPiece_4.1 Tryz.isAgg3 Tryz.sizeOf3 rfl b279 fun qC aB => ?_)
         obtain rfl := RV_int.1 aB
         refine EL_y (.bool (((o0).Faults != (u0).Faults))) (P_int rfl rfl rfl) rfl rfl i5 rfl ?_
         refine EL_p (.bool (((o0).Faults != (u0).Faults))) (P_pick (b := ((o0).Picks != (u0).Picks)) rfl (pick_f i5 rfl)) rfl ?_
         refine EL_mw (.bool (((o0).Faults != (u0).Faults))) rfl rfl ?_
         rcases csome h with ⟨u3, h⟩ | ⟨u3, h⟩
         ·refine EL_s rfl rfl u3 rfl rfl ?_
          iterate 5 refine EL_s rfl rfl u3 rfl rfl ?_
          refine EL_p (.bool true) (P_pick (b := ((o0).Faults != (u0).Faults)) rfl (pick_t u3 rfl)) rfl ?_
          refine EL_nil ?_
          obtain rfl := sinj h
          exact hQ _ _ ⟨o3, hfr, t5, i3, x5, j3, l5, rfl⟩
         ·refine EL_y (fPtr i6 3) (P_fieldAddr at_27_3 rfl (OB.ptr b278)) rfl rfl u3 rfl ?_
          refine EL_do (.yes2 rfl rfl u3) rfl (D_loadF (g := o3) part_PayPiece_3.1 Tryz.isAgg23 Tryz.sizeOf23 rfl b278 fun bB cB => ?_)
          refine EL_y (fPtr j6 3) (P_fieldAddr at_27_3 rfl (OB.ptr b279)) rfl rfl u3 rfl ?_
          refine EL_do (.yes2 rfl rfl u3) rfl (D_loadF (g := o3) part_PayPiece_3.1 Tryz.isAgg23 Tryz.sizeOf23 rfl b279 fun dB eB => ?_)
          obtain ⟨y6, y9, h⟩ := bsome h
          refine EL_do (.yes2 rfl rfl u3) rfl (D_call (g := o3) (vs := [bB, dB]) en29 (.cons rfl (.cons rfl .nil)) (wk29 cB eB y9) fun iB tB rC hs hr => ?_)
          have hfr := hfr.ext hs
          have i3 := i3.ext hs
          have j3 := j3.ext hs
          subst hr
          refine EL_y (.bool (!y6)) (P_not rfl) rfl rfl u3 rfl ?_
          refine EL_p (.bool (!y6)) (P_pick (b := ((o0).Faults != (u0).Faults)) rfl (pick_f u3 rfl)) rfl ?_
          refine EL_nil ?_
          obtain rfl := sinj h
          exact hQ _ _ ⟨iB, hfr, t5, i3, x5, j3, l5, rfl⟩
     ·clear hx
      obtain ⟨jB, hfr, o8, q8, r8, t8, v8, x6⟩ := hR
      rcases csome h with ⟨b7, h⟩ | ⟨b7, h⟩
      ·refine E_cond_true (Eq.trans (show ev _ _ = .bool (q5) from x6) (congrArg Value.bool b7)) ?_
       refine E_seq (E_region (EL_at (.bool false) rfl rfl ?_))
       refine EL_nil (thn_n (E_ret (blk_r ?_)))
       refine thn_r ?_
       refine thn_r ?_
       refine blk_r ?_
       refine thn_r ?_
       obtain rfl := sinj h
       exact end1 rfl rfl (show _ = .bool false from rfl) ⟨_, hfr, rfl⟩
      ·refine E_cond_false (Eq.trans (show ev _ _ = .bool (q5) from x6) (congrArg Value.bool b7)) ?_
       exact E_skip (blk_n (thn_n (o9 () _ _ ⟨jB, hfr, o8, q8, r8, t8, v8⟩ h)))
    ·rintro _ vB tC ⟨lB, hfr, x8, y8, a9, d9, i9⟩ h
     refine E_region (EL_mv i9 rfl ?_)
     refine EL_in (.int .i64 ((w64 (j1 + (1 : Int))))) rfl rfl rfl rfl ?_
     refine EL_at (.int .i64 ((w64 (j1 + (1 : Int))))) rfl rfl ?_
     exact EL_nil (thn_n (l9 ((w64 (j1 + (1 : Int)))) _ _ ⟨lB, hfr, x8, y8, a9, d9, rfl⟩ h))
  ·rintro _ xB uC ⟨vC, hfr⟩ h
   refine E_seq (E_region (EL_at (.bool true) rfl rfl ?_))
   refine EL_nil (thn_n (E_ret ?_))
   obtain rfl := sinj h
   exact end1 rfl rfl (show _ = .bool true from rfl) ⟨_, hfr, rfl⟩
end Go.Proofs.YtkmbkaoolacofaaGreat
