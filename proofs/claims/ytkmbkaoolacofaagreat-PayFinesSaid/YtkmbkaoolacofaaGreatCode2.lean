import Derived.Test.YtkmbkaoolacofaaGreatCode1
set_option maxRecDepth 8000
set_option maxHeartbeats 4000000
namespace Go.Proofs.YtkmbkaoolacofaaGreat
open Go.RowKit
def f78 (x0 : Int) (z0 : Int) (z1 : Int) : Option (Bool) :=
 Option.bind (α := Bool) (
  bif (decide (x0 < z0)) then
   some (true)
  else
   some ((decide (x0 > z1)))
  ) fun o0 =>
 some (o0)
theorem en78 : Enters Tryz.prog 78 := enters_of Tryz.func78 (by kernel_rfl) rfl
theorem wk78 {gI : Gh} {wI : World} {x0 : Int} {z0 : Int} {z1 : Int} {pf0 : Value} (qf0 : PT gI.m wI z0 pf0) {pf1 : Value} (qf1 : PT gI.m wI z1 pf1) {r : Bool} (h : f78 x0 z0 z1 = some r) : Fn Tryz.prog 78 #[.int .i64 (x0), pf0, pf1] gI wI (fun _ _ v => v = .bool (r)) := by
 unfold f78 at h
 refine fn_of_E Tryz.func78 rfl (Nat.le_of_ble_eq_true rfl) fun g0 hm hfr => ?_
 have qf0 : PT g0.m wI z0 pf0 := hm ▸ qf0
 have qf1 : PT g0.m wI z1 pf1 := hm ▸ qf1
 show E _ 13 none _ _ _ _ _
 refine E_seq (E_region (EL_at (.bool false) rfl rfl ?_))
 refine EL_nil (thn_n ?_)
 obtain ⟨o0, hx, h⟩ := bsome h
 refine E_join (fun e w => ∃ (g : Gh) , Fr gI wI g w ∧ e 4 = .bool (o0)) (fun Q' hQ => ?_) (fun j1 w7 hR => ?_)
 ·replace h := hx
  clear hx
  refine E_region (EL_mw (.int .i64 (x0)) rfl rfl ?_)
  refine EL_do .plain rfl (D_load (g := g0) Tryz.isAgg3 Tryz.sizeOf3 rfl qf0 fun v4 r4 => ?_)
  obtain rfl := RV_int.1 r4
  refine EL_in (.bool ((decide (x0 < z0)))) rfl rfl rfl rfl ?_
  refine EL_mw (.bool ((decide (x0 < z0)))) rfl rfl ?_
  rcases csome h with ⟨hc5, h⟩ | ⟨hc5, h⟩
  ·refine EL_s rfl rfl hc5 rfl rfl ?_
   refine EL_s rfl rfl hc5 rfl rfl ?_
   refine EL_s rfl rfl hc5 rfl rfl ?_
   refine EL_p (.bool true) (P_pick (b := (decide (x0 < z0))) rfl (pick_t hc5 rfl)) rfl ?_
   refine EL_at (.bool true) rfl rfl ?_
   refine EL_nil ?_
   obtain rfl := sinj h
   exact hQ _ _ ⟨g0, hfr, rfl⟩
  ·refine EL_y (.int .i64 (x0)) (P_move rfl) rfl rfl hc5 rfl ?_
   refine EL_do (.yes2 rfl rfl hc5) rfl (D_load (g := g0) Tryz.isAgg3 Tryz.sizeOf3 rfl qf1 fun v6 r6 => ?_)
   obtain rfl := RV_int.1 r6
   refine EL_y (.bool ((decide (x0 > z1)))) (P_int rfl rfl rfl) rfl rfl hc5 rfl ?_
   refine EL_p (.bool ((decide (x0 > z1)))) (P_pick (b := (decide (x0 < z0))) rfl (pick_f hc5 rfl)) rfl ?_
   refine EL_at (.bool ((decide (x0 > z1)))) rfl rfl ?_
   refine EL_nil ?_
   obtain rfl := sinj h
   exact hQ _ _ ⟨g0, hfr, rfl⟩
 ·clear hx
  obtain ⟨g7, hfr, u0⟩ := hR
  refine E_ret ?_
  obtain rfl := sinj h
  exact end1 rfl rfl (show _ = .bool (o0) from u0) ⟨_, hfr, rfl⟩
def f87 (x0 : PaySheet) : Option ((List PayPlace)) :=
 Option.bind (α := (List PayPlace)) (
  lp (σ := (List PayPlace) × Int) (fun uA (a7, o0) =>
   bif (decide (o0 < ((((x0).PayTable).Rows).length : Int))) then
    Option.bind (α := (List PayPlace)) (
     (idx (((x0).PayTable).Rows) o0).bind fun z3 =>
     lp (σ := (List PayPlace) × Int) (fun xA (x5, u0) =>
      bif (decide (u0 < ((z3).length : Int))) then
       Option.bind (α := (List PayPlace)) (
        (idx z3 u0).bind fun i7 =>
        bif (i7 == (-1 : Int)) then
         (apnd 16 x5 (([(⟨o0, u0⟩ : PayPlace)] : List PayPlace))).bind fun y8 =>
         some (y8)
        else
         some (x5)
        ) fun j3 =>
       xA (j3, (w64 (u0 + (1 : Int))))
      else
       some (x5)
      ) big (a7, (0 : Int))
     ) fun o3 =>
    uA (o3, (w64 (o0 + (1 : Int))))
   else
    some (a7)
   ) big ([], (0 : Int))
  ) fun z4 =>
 some (z4)
def f89 (x0 : List Int) : Option (Int) :=
 Option.bind (α := Int) (
  lp (σ := Int × Int) (fun a7 (u0, o0) =>
   bif (decide (o0 < ((x0).length : Int))) then
    Option.bind (α := Int) (
     (idx x0 o0).bind fun j3 =>
     some ((w64 (u0 + j3)))
     ) fun i3 =>
    a7 (i3, (w64 (o0 + (1 : Int))))
   else
    some (u0)
   ) big ((0 : Int), (0 : Int))
  ) fun j1 =>
 some (j1)
def f91 (x0 : PayEnd) (z0 : List Int) : Option (Bool) :=
 Option.bind (α := Bool) (
  bif (x0).isDown then
   (idx z0 (x0).at_).bind fun j1 =>
   some ((decide (j1 > (0 : Int))))
  else
   some (false)
  ) fun u0 =>
 some (u0)
def f94 (x0 : Int) : Option (Bool) :=
 some ((decide (x0 > (0 : Int))))
def f95 (x0 : PayFilling) (x1 : PayStep) : Option (Int) :=
 jn (σ := Unit) (fun _ =>
  (idx ((x0).amounts) (x1).blot).bind fun o0 =>
  some ((w64 ((1000000 : Int) - o0)))
  ) fun k28 =>
 bif (x1).less then
  (idx ((x0).amounts) (x1).blot).bind fun j1 =>
  some (j1)
 else
  k28 ()
def f96 (x0 : PayEnd) (z0 : PayEnd) : Option (Bool) :=
 some ((decide (x0 = z0)))
def f97 (x0 : PaySheet) (x1 : Int) : Option ((List Int)) :=
 Option.bind (α := (List Int)) (
  lp (σ := (List Int) × Int) (fun c8 (z3, o0) =>
   bif (decide (o0 < ((((x0).PayTable).Rows).length : Int))) then
    Option.bind (α := (List Int)) (
     (idx (((x0).PayTable).Rows) o0).bind fun g8 =>
     (idx g8 x1).bind fun q5 =>
     (apnd 8 z3 (([q5] : List Int))).bind fun i8 =>
     some (i8)
     ) fun j1 =>
    c8 (j1, (w64 (o0 + (1 : Int))))
   else
    some (z3)
   ) big ([], (0 : Int))
  ) fun i3 =>
 some (i3)
def f98 (x0 : List Int) (x1 : Int → Option Bool) : Option (Int) :=
 jn (σ := Unit) (fun _ =>
  some ((-1 : Int))
  ) fun k18 =>
 lp (σ := Int) (fun k19 o0 =>
  bif (decide (o0 < ((x0).length : Int))) then
   jn (σ := Unit) (fun _ =>
    k19 ((w64 (o0 + (1 : Int))))
    ) fun k28 =>
   (idx x0 o0).bind fun z4 =>
   (x1 z4).bind fun v6 =>
   bif v6 then
    some (o0)
   else
    k28 ()
  else
   k18 ()
  ) big ((0 : Int))
theorem en98 : Enters Tryz.prog 98 := enters_of Tryz.func98 (by kernel_rfl) rfl
theorem wk98 {gI : Gh} {wI : World} {x0 : List Int} {x1 : Int → Option Bool} {up0 : Value} (rp0 : RV gI.m wI x0 up0) {up1 : Value} (rp1 : FnV1 Tryz.prog x1 up1 gI wI) {r : Int} (h : f98 x0 x1 = some r) : Fn Tryz.prog 98 #[up0, up1] gI wI (fun _ _ v => v = .int .i64 (r)) := by
 unfold f98 at h
 refine fn_of_E Tryz.func98 rfl (Nat.le_of_ble_eq_true rfl) fun g0 hm hfr => ?_
 have rp0 : RV g0.m wI x0 up0 := hm ▸ rp0
 obtain ⟨ff1, fa1, fc1, rfl, fen1, fcl1⟩ := rp1
 show E _ 19 none _ _ _ _ _
 refine E_seq (E_region (EL_at (.int .i64 (0)) rfl rfl ?_))
 refine EL_nil (thn_n (E_joinC h (fun (s : Unit) e w => ∃ (g : Gh) , Fr gI wI g w) (fun X18 k18 x6 h => ?_) ?_))
 ·refine E_seq (E_region (EL_mw up0 rfl rfl ?_))
  refine EL_p (.int .i64 ((x0).length : Int)) (P_len Tryz.underlying23 rfl rp0) rfl ?_
  refine EL_mw (.int .i64 (0)) rfl rfl ?_
  refine EL_nil (thn_n (E_block ?_))
  refine E_lp h (fun (s : Int) e w => ∃ (g : Gh) , Fr gI wI g w ∧ e 0 = up0 ∧ RV g.m w (x0 : List Int) up0 ∧ e 1 = (.func (.func ff1) fa1 fc1) ∧ e 7 = .int .i64 (((x0).length : Int)) ∧ e 8 = .int .i64 (s)) ⟨g0, hfr, rfl, rp0, rfl, rfl, rfl⟩ (fun X19 k19 y6 => ?_)
  rintro o0 i7 n7 ⟨i5, hfr, o3, u0, u3, z3, j1⟩ h
  refine E_seq (E_region (EL_in (.bool ((decide (o0 < ((x0).length : Int))))) j1 z3 rfl rfl ?_))
  refine EL_nil (thn_n (E_seq ?_))
  rcases csome h with ⟨i3, h⟩ | ⟨i3, h⟩
  ·refine E_ct i3 rfl ?_
   refine E_skip (thn_n (E_joinC h (fun (s : Unit) e w => ∃ (g : Gh) , Fr gI wI g w ∧ e 0 = up0 ∧ RV g.m w (x0 : List Int) up0 ∧ e 1 = (.func (.func ff1) fa1 fc1) ∧ e 7 = .int .i64 (((x0).length : Int)) ∧ e 8 = .int .i64 (o0)) (fun X28 k28 a7 h => ?_) ?_))
   ·refine E_block ?_
    refine E_seq (E_region (EL_mv j1 rfl ?_))
    refine EL_at (.int .i64 (o0)) rfl rfl ?_
    refine EL_nil (thn_n (E_seq (E_region (EL_mv u3 rfl ?_))))
    refine EL_mv o3 rfl ?_
    refine EL_mw (.int .i64 (o0)) rfl rfl ?_
    obtain ⟨z4, l5, h⟩ := bsome h
    refine EL_p (ePtr up0 o0 1) (P_indexAddr (α := Int) Tryz.underlying23 Tryz.sizeOf3 rfl u0 rfl l5) rfl ?_
    have c7 := PT_idx u0 l5
    refine EL_do .plain rfl (D_load (g := i5) Tryz.isAgg3 Tryz.sizeOf3 rfl c7 fun o7 d7 => ?_)
    obtain rfl := RV_int.1 d7
    obtain ⟨v6, b7, h⟩ := bsome h
    refine EL_do .plain rfl (D_callv (g := i5) (vs := [.int .i64 (z4)]) rfl fen1 (.cons rfl .nil) (fcl1 _ _ hfr.ch _ _ _  (RV_int.2 rfl) b7) fun e7 u7 v7 hs hr => ?_)
    have hfr := hfr.ext hs
    have u0 := u0.ext hs
    obtain rfl := RV_bool.1 hr
    refine EL_nil (thn_n ?_)
    rcases csome h with ⟨j3, h⟩ | ⟨j3, h⟩
    ·refine E_ct j3 rfl ?_
     refine E_seq (E_region (EL_mw (.int .i64 (o0)) rfl rfl ?_))
     refine EL_at (.int .i64 (o0)) rfl rfl ?_
     refine EL_nil (thn_n (E_ret (blk_r ?_)))
     refine thn_r ?_
     refine thn_r ?_
     refine blk_r ?_
     refine thn_r ?_
     obtain rfl := sinj h
     exact end1 rfl rfl (show _ = .int .i64 (o0) from rfl) ⟨_, hfr, rfl⟩
    ·refine E_cf j3 rfl ?_
     exact E_skip (blk_n (thn_n (a7 () _ _ ⟨e7, hfr, o3, u0, u3, z3, j1⟩ h)))
   ·rintro _ j7 c8 ⟨g7, hfr, q5, t5, x5, i6, j6⟩ h
    refine E_region (EL_in (.int .i64 ((w64 (o0 + (1 : Int))))) j6 rfl rfl rfl ?_)
    refine EL_mw (.int .i64 ((w64 (o0 + (1 : Int))))) rfl rfl ?_
    exact EL_nil (thn_n (y6 ((w64 (o0 + (1 : Int)))) _ _ ⟨g7, hfr, q5, t5, x5, i6, rfl⟩ h))
  ·refine E_cf i3 rfl ?_
   refine E_exit ?_
   refine thn_e ?_
   refine thn_e ?_
   refine blk_hit ?_
   exact thn_n (x6 () _ _ ⟨i5, hfr⟩ h)
 ·rintro _ m7 g8 ⟨i8, hfr⟩ h
  refine E_seq (E_region (EL_at (.int .i64 (-1)) rfl rfl ?_))
  refine EL_nil (thn_n (E_ret ?_))
  obtain rfl := sinj h
  exact end1 rfl rfl (show _ = .int .i64 (-1) from rfl) ⟨_, hfr, rfl⟩
def f99 (x1 : Int) : Option ((List Int)) :=
 Option.bind (α := Unit) (
  bif (decide (x1 < (0 : Int))) then
   none
  else
   some ()
  ) fun (_ : Unit) =>
 Option.bind (α := (List Int)) (
  bif (decide ((w64 (x1 - (w64 (((0 : Nat) : Int) - ((([] : List Int)).length : Int))))) > (0 : Int))) then
   (grwz 8 ((w64 (x1 - (w64 (((0 : Nat) : Int) - ((([] : List Int)).length : Int))))))).bind fun _ =>
   some (([] : List Int))
  else
   some (([] : List Int))
  ) fun j1 =>
 some (j1)
def f101 (x0 : Int) : Option (Bool) :=
 some ((x0 != x0))
theorem en101 : Enters Tryz.prog 101 := enters_of Tryz.func101 (by kernel_rfl) rfl
theorem wk101 {gI : Gh} {wI : World} {x0 : Int}  {r : Bool} (h : f101 x0 = some r) : Fn Tryz.prog 101 #[.int .i64 (x0)] gI wI (fun _ _ v => v = .bool (r)) := by
 unfold f101 at h
 refine fn_of_E Tryz.func101 rfl (Nat.le_of_ble_eq_true rfl) fun g0 hm hfr => ?_
 show E _ 6 none _ _ _ _ _
 refine E_seq (E_region (EL_at (.bool false) rfl rfl ?_))
 refine EL_nil (thn_n (E_seq (E_region (EL_mw (.int .i64 (x0)) rfl rfl ?_))))
 refine EL_mw (.int .i64 (x0)) rfl rfl ?_
 refine EL_in (.bool ((x0 != x0))) rfl rfl rfl rfl ?_
 refine EL_at (.bool ((x0 != x0))) rfl rfl ?_
 refine EL_nil (thn_n (E_ret ?_))
 obtain rfl := sinj h
 exact end1 rfl rfl (show _ = .bool ((x0 != x0)) from rfl) ⟨_, hfr, rfl⟩
def f103 (x0 : List PayRate) (x1 : Int) (x2 : PayRate → Int → Option Int) : Option (Int × Bool) :=
 Option.bind (α := Int) (
  lp (σ := Int × Int) (fun j7 (i3, u0) =>
   jn (σ := Unit) (fun _ =>
    (shr64 (wu64 (w64 (i3 + u0))) (1 : Int)).bind fun j3 =>
    (idx x0 (w64 j3)).bind fun n8 =>
    (x2 n8 x1).bind fun m7 =>
    bif (decide (m7 < (0 : Int))) then
     j7 ((w64 ((w64 j3) + (1 : Int))), u0)
    else
     j7 (i3, (w64 j3))
    ) fun o8 =>
   bif (decide (i3 < u0)) then
    o8 ()
   else
    some (i3)
   ) big ((0 : Int), ((x0).length : Int))
  ) fun o0 =>
 Option.bind (α := Int × Bool) (
  bif (decide (o0 < ((x0).length : Int))) then
   (idx x0 o0).bind fun q8 =>
   (x2 q8 x1).bind fun x5 =>
   some (o0, (x5 == (0 : Int)))
  else
   some (o0, false)
  ) fun (u3, z3) =>
 some (u3, z3)
theorem en103 : Enters Tryz.prog 103 := enters_of Tryz.func103 (by kernel_rfl) rfl
theorem wk103 {gI : Gh} {wI : World} {x0 : List PayRate} {x1 : Int} {x2 : PayRate → Int → Option Int} {up0 : Value} (rp0 : RV gI.m wI x0 up0) {up2 : Value} (rp2 : FnV2 Tryz.prog x2 up2 gI wI) {r : Int × Bool} (h : f103 x0 x1 x2 = some r) : Fn Tryz.prog 103 #[up0, .int .i64 (x1), up2] gI wI (fun m w v => ∃ y0 y1, v = .tuple #[y0, y1] ∧ y0 = .int .i64 (r.1) ∧ y1 = .bool (r.2)) := by
 unfold f103 at h
 refine fn_of_E Tryz.func103 rfl (Nat.le_of_ble_eq_true rfl) fun g0 hm hfr => ?_
 have rp0 : RV g0.m wI x0 up0 := hm ▸ rp0
 obtain ⟨ff2, fa2, fc2, rfl, fen2, fcl2⟩ := rp2
 show E _ 49 none _ _ _ _ _
 refine E_seq (E_region (EL_at (.int .i64 (0)) rfl rfl ?_))
 refine EL_at (.bool false) rfl rfl ?_
 refine EL_nil (thn_n (E_seq (E_region (EL_mw up0 rfl rfl ?_))))
 refine EL_p (.int .i64 ((x0).length : Int)) (P_len Tryz.underlying22 rfl rp0) rfl ?_
 refine EL_at (.int .i64 ((x0).length : Int)) rfl rfl ?_
 refine EL_nil (thn_n (E_seq (E_region (EL_mw (.int .i64 ((x0).length : Int)) rfl rfl ?_))))
 refine EL_at (.int .i64 (0)) rfl rfl ?_
 refine EL_at (.int .i64 ((x0).length : Int)) rfl rfl ?_
 refine EL_nil (thn_n ?_)
 obtain ⟨o0, hx, h⟩ := bsome h
 refine E_join (fun e w => ∃ (g : Gh) , Fr gI wI g w ∧ e 0 = up0 ∧ RV g.m w (x0 : List PayRate) up0 ∧ e 1 = .int .i64 (x1) ∧ e 2 = (.func (.func ff2) fa2 fc2) ∧ e 8 = .int .i64 (((x0).length : Int)) ∧ e 9 = .int .i64 (o0)) (fun Q' hQ => ?_) (fun u9 gA hR => ?_)
 ·replace h := hx
  clear hx
  refine E_block ?_
  refine E_lp h (fun (s : Int × Int) e w => ∃ (g : Gh) , Fr gI wI g w ∧ e 0 = up0 ∧ RV g.m w (x0 : List PayRate) up0 ∧ e 1 = .int .i64 (x1) ∧ e 2 = (.func (.func ff2) fa2 fc2) ∧ e 8 = .int .i64 (((x0).length : Int)) ∧ e 9 = .int .i64 (s.1) ∧ e 10 = .int .i64 (s.2)) ⟨g0, hfr, rfl, rp0, rfl, rfl, rfl, rfl, rfl⟩ (fun X14 j7 n7 => ?_)
  rintro ⟨i3, u0⟩ y9 w15 ⟨r8, hfr, y6, a7, b7, c7, d7, z4, i6⟩ h
  refine E_joinC h (fun (s : Unit) e w => ∃ (g : Gh) , Fr gI wI g w ∧ e 0 = up0 ∧ RV g.m w (x0 : List PayRate) up0 ∧ e 1 = .int .i64 (x1) ∧ e 2 = (.func (.func ff2) fa2 fc2) ∧ e 8 = .int .i64 (((x0).length : Int)) ∧ e 9 = .int .i64 (i3) ∧ e 10 = .int .i64 (u0)) (fun X17 o8 x8 h => ?_) ?_
  ·refine E_seq (E_region (EL_mv z4 rfl ?_))
   refine EL_mv i6 rfl ?_
   refine EL_in (.bool ((decide (i3 < u0)))) rfl rfl rfl rfl ?_
   refine EL_nil (thn_n ?_)
   rcases csome h with ⟨v6, h⟩ | ⟨v6, h⟩
   ·refine E_ct v6 rfl ?_
    exact E_skip (thn_n (x8 () _ _ ⟨r8, hfr, y6, a7, b7, c7, d7, z4, i6⟩ h))
   ·refine E_cf v6 rfl ?_
    refine E_exit ?_
    refine thn_e ?_
    refine thn_e ?_
    refine blk_hit ?_
    obtain rfl := sinj h
    exact hQ _ _ ⟨r8, hfr, y6, a7, b7, c7, d7, z4⟩
  ·rintro _ z9 iA ⟨t8, hfr, i5, o3, l5, q5, e7, g7, j6⟩ h
   refine E_block ?_
   refine E_seq (E_region (EL_mv g7 rfl ?_))
   refine EL_mv j6 rfl ?_
   refine EL_in (.int .i64 ((w64 (i3 + u0)))) rfl rfl rfl rfl ?_
   refine EL_p (.int .u64 (wu64 (w64 (i3 + u0)))) (P_intu64 Tryz.underlying3 Tryz.underlying85 rfl) rfl ?_
   obtain ⟨j3, y8, h⟩ := bsome h
   refine EL_p (.int .u64 (j3)) (P_shrU rfl rfl y8) rfl ?_
   refine EL_p (.int .i64 ((w64 j3))) (P_u64int Tryz.underlying85 Tryz.underlying3 rfl) rfl ?_
   refine EL_at (.int .i64 ((w64 j3))) rfl rfl ?_
   refine EL_nil (thn_n (E_seq (E_region (EL_mv q5 rfl ?_))))
   refine EL_mv i5 rfl ?_
   refine EL_mw (.int .i64 ((w64 j3))) rfl rfl ?_
   obtain ⟨n8, o7, h⟩ := bsome h
   refine EL_p (ePtr up0 (w64 j3) 2) (P_indexAddr (α := PayRate) Tryz.underlying22 Tryz.sizeOf87 rfl o3 rfl o7) rfl ?_
   have e9 := PT_idx o3 o7
   refine EL_do .plain rfl (D_load (g := t8) Tryz.isAgg87 Tryz.sizeOf87 rfl e9 fun i9 k9 => ?_)
   refine EL_mv l5 rfl ?_
   obtain ⟨m7, a9, h⟩ := bsome h
   refine EL_do .plain rfl (D_callv (g := t8) (vs := [i9, .int .i64 (x1)]) rfl fen2 (.cons rfl (.cons rfl .nil)) (fcl2 _ _ hfr.ch _ _ _ _ _  k9 (RV_int.2 rfl) a9) fun v8 jA lA hs hr => ?_)
   have hfr := hfr.ext hs
   have o3 := o3.ext hs
   obtain rfl := RV_int.1 hr
   refine EL_in (.bool ((decide (m7 < (0 : Int))))) rfl rfl rfl rfl ?_
   refine EL_nil (thn_n ?_)
   rcases csome h with ⟨x6, h⟩ | ⟨x6, h⟩
   ·refine E_ct x6 rfl ?_
    refine E_region (EL_mw (.int .i64 ((w64 j3))) rfl rfl ?_)
    refine EL_in (.int .i64 ((w64 ((w64 j3) + (1 : Int))))) rfl rfl rfl rfl ?_
    refine EL_at (.int .i64 ((w64 ((w64 j3) + (1 : Int))))) rfl rfl ?_
    exact EL_nil (blk_n (thn_n (n7 ((w64 ((w64 j3) + (1 : Int))), u0) _ _ ⟨v8, hfr, i5, o3, l5, q5, e7, rfl, j6⟩ h)))
   ·refine E_cf x6 rfl ?_
    refine E_region (EL_mw (.int .i64 ((w64 j3))) rfl rfl ?_)
    refine EL_at (.int .i64 ((w64 j3))) rfl rfl ?_
    exact EL_nil (blk_n (thn_n (n7 (i3, (w64 j3)) _ _ ⟨v8, hfr, i5, o3, l5, q5, e7, g7, rfl⟩ h)))
 ·clear hx
  obtain ⟨u7, hfr, c8, i7, g8, i8, k8, t5⟩ := hR
  obtain ⟨⟨u3, z3⟩, hx, h⟩ := bsome h
  refine E_join (fun e w => ∃ (g : Gh) , Fr gI wI g w ∧ e 6 = .int .i64 (u3) ∧ e 7 = .bool (z3)) (fun Q' hQ => ?_) (fun bA mA hR => ?_)
  ·replace h := hx
   clear hx
   refine E_region (EL_mv t5 rfl ?_)
   refine EL_mv t5 rfl ?_
   refine EL_mv k8 rfl ?_
   refine EL_in (.bool ((decide (o0 < ((x0).length : Int))))) rfl rfl rfl rfl ?_
   refine EL_mw (.bool ((decide (o0 < ((x0).length : Int))))) rfl rfl ?_
   rcases csome h with ⟨j1, h⟩ | ⟨j1, h⟩
   ·refine EL_y ((.func (.func ff2) fa2 fc2)) (P_move i8) rfl rfl j1 rfl ?_
    refine EL_y up0 (P_move c8) rfl rfl j1 rfl ?_
    refine EL_y (.int .i64 (o0)) (P_move t5) rfl rfl j1 rfl ?_
    obtain ⟨q8, v7, h⟩ := bsome h
    refine EL_y (ePtr up0 o0 2) (P_indexAddr (α := PayRate) Tryz.underlying22 Tryz.sizeOf87 rfl i7 rfl v7) rfl rfl j1 rfl ?_
    have l9 := PT_idx i7 v7
    refine EL_do (.yes2 rfl rfl j1) rfl (D_load (g := u7) Tryz.isAgg87 Tryz.sizeOf87 rfl l9 fun n9 o9 => ?_)
    refine EL_y (.int .i64 (x1)) (P_move g8) rfl rfl j1 rfl ?_
    obtain ⟨x5, d9, h⟩ := bsome h
    refine EL_do (.yes2 rfl rfl j1) rfl (D_callv (g := u7) (vs := [n9, .int .i64 (x1)]) rfl fen2 (.cons rfl (.cons rfl .nil)) (fcl2 _ _ hfr.ch _ _ _ _ _  o9 (RV_int.2 rfl) d9) fun t9 nA oA hs hr => ?_)
    have hfr := hfr.ext hs
    obtain rfl := RV_int.1 hr
    refine EL_y (.bool ((x5 == (0 : Int)))) (P_int rfl rfl rfl) rfl rfl j1 rfl ?_
    refine EL_p (.bool ((x5 == (0 : Int)))) (P_pick (b := (decide (o0 < ((x0).length : Int)))) rfl (pick_t j1 rfl)) rfl ?_
    refine EL_at (.int .i64 (o0)) rfl rfl ?_
    refine EL_at (.bool ((x5 == (0 : Int)))) rfl rfl ?_
    refine EL_nil ?_
    obtain ⟨rfl, rfl⟩ := pairs2 h
    exact hQ _ _ ⟨t9, hfr, rfl, rfl⟩
   ·refine EL_s rfl rfl j1 rfl rfl ?_
    iterate 7 refine EL_s rfl rfl j1 rfl rfl ?_
    refine EL_p (.bool false) (P_pick (b := (decide (o0 < ((x0).length : Int)))) rfl (pick_f j1 rfl)) rfl ?_
    refine EL_at (.int .i64 (o0)) rfl rfl ?_
    refine EL_at (.bool false) rfl rfl ?_
    refine EL_nil ?_
    obtain ⟨rfl, rfl⟩ := pairs2 h
    exact hQ _ _ ⟨u7, hfr, rfl, rfl⟩
  ·clear hx
   obtain ⟨pA, hfr, l8, m8⟩ := hR
   refine E_ret ?_
   obtain rfl := sinj h
   exact end2 rfl rfl (show _ = .int .i64 (u3) from l8) (show _ = .bool (z3) from m8) ⟨_, hfr, _, _, rfl, rfl, rfl⟩
def f105 (x1 : It Int) : Option ((List Int)) :=
 Option.bind (α := (List Int)) (
  (x1 ((List Int)) (fun o3 i3 =>
   (apnd 8 o3 (([i3] : List Int))).bind fun i5 =>
   some (true, (i5))
   ) ((([] : List Int) : List Int))).bind fun u3 =>
  some (u3)
  ) fun j3 =>
 some (j3)
def f109 (x0 : List Int) : Option (Bool) :=
 some ((decide (((x0).length : Int) > (6 : Int))))
def f110 (x0 : List Int) (z0 : PaySheet) : Option (Bool) :=
 some ((((x0).length : Int) != ((((z0).PayTable).Down).length : Int)))
def f114 (x0 : List Int) (x1 : Int) (x2 : Int) (x3 : Int → Int → Option Int) : Option ((List Int)) :=
 lp (σ := (List Int) × Int) (fun k1 (y6, j3) =>
  jn (σ := Unit) (fun _ =>
   Option.bind (α := (List Int)) (
    lp (σ := (List Int) × Int) (fun m8 (j1, o0) =>
     jn (σ := Unit) (fun _ =>
      Option.bind (α := (List Int)) (
       (idx j1 (w64 (o0 - (1 : Int)))).bind fun j6 =>
       (idx j1 o0).bind fun a7 =>
       (idx j1 o0).bind fun aB =>
       (idx ((List.set j1 (Int.toNat o0) j6)) (w64 (o0 - (1 : Int)))).bind fun bB =>
       some ((List.set ((List.set j1 (Int.toNat o0) j6)) (Int.toNat (w64 (o0 - (1 : Int)))) a7))
       ) fun l5 =>
      m8 (l5, (w64 (o0 - (1 : Int))))
      ) fun n8 =>
     Option.bind (α := Bool) (
      bif (decide (o0 > x1)) then
       (idx j1 o0).bind fun b7 =>
       (idx j1 (w64 (o0 - (1 : Int)))).bind fun c7 =>
       (x3 b7 c7).bind fun i6 =>
       some ((decide (i6 < (0 : Int))))
      else
       some (false)
      ) fun u3 =>
     bif u3 then
      n8 ()
     else
      some (j1)
     ) big (y6, j3)
    ) fun q5 =>
   k1 (q5, (w64 (j3 + (1 : Int))))
   ) fun k4 =>
  bif (decide (j3 < x2)) then
   k4 ()
  else
   some (y6)
  ) big (x0, (w64 (x1 + (1 : Int))))
def f117 (x0 : List Int) : Option ((List Int)) :=
 jn (σ := Unit) (fun _ =>
  jn (σ := Unit) (fun _ =>
   some (x0)
   ) fun k53 =>
  lp (σ := Int) (fun k54 o0 =>
   jn (σ := Unit) (fun _ =>
    jn (σ := Int) (fun j1 =>
     k54 ((w64 (j1 + (1 : Int))))
     ) fun a7 =>
    (idx x0 o0).bind fun i5 =>
    (idx x0 (w64 (o0 - (1 : Int)))).bind fun l5 =>
    bif (i5 == l5) then
     none
    else
     a7 (o0)
    ) fun k57 =>
   bif (decide (o0 < ((x0).length : Int))) then
    k57 ()
   else
    k53 ()
   ) big ((1 : Int))
  ) fun k2 =>
 bif (decide (((x0).length : Int) < (2 : Int))) then
  some (x0)
 else
  k2 ()
theorem en117 : Enters Tryz.prog 117 := enters_of Tryz.func117 (by kernel_rfl) rfl
theorem wk117 {gI : Gh} {wI : World} {x0 : List Int} {up0 : Value} (rp0 : RV gI.m wI x0 up0) {r : (List Int)} (h : f117 x0 = some r) : Fn Tryz.prog 117 #[up0] gI wI (fun m w v => RV m w (r) v) := by
 unfold f117 at h
 refine fn_of_E Tryz.func117 rfl (Nat.le_of_ble_eq_true rfl) fun g0 hm hfr => ?_
 have rp0 : RV g0.m wI x0 up0 := hm ▸ rp0
 show E _ 61 none _ _ _ _ _
 refine E_seq (E_region (EL_at (.slice none 0 0) rfl rfl ?_))
 refine EL_nil (thn_n (E_joinC h (fun (s : Unit) e w => ∃ (g : Gh) , Fr gI wI g w ∧ e 0 = up0 ∧ RV g.m w (x0 : List Int) up0) (fun X2 k2 hk2 h => ?_) ?_))
 ·refine E_seq (E_region (EL_mw up0 rfl rfl ?_))
  refine EL_p (.int .i64 ((x0).length : Int)) (P_len Tryz.underlying23 rfl rp0) rfl ?_
  refine EL_in (.bool ((decide (((x0).length : Int) < (2 : Int))))) rfl rfl rfl rfl ?_
  refine EL_nil (thn_n ?_)
  rcases csome h with ⟨hc3, h⟩ | ⟨hc3, h⟩
  ·refine E_ct hc3 rfl ?_
   refine E_seq (E_region (EL_mw up0 rfl rfl ?_))
   refine EL_at up0 rfl rfl ?_
   refine EL_nil (thn_n (E_ret (thn_r ?_)))
   obtain rfl := sinj h
   exact end1 rfl rfl (show _ = up0 from rfl) ⟨_, hfr, rp0⟩
  ·refine E_cf hc3 rfl ?_
   exact E_skip (thn_n (hk2 () _ _ ⟨g0, hfr, rfl, rp0⟩ h))
 ·rintro _ v8 w4 ⟨g4, hfr, c7, d7⟩ h
  refine E_joinC h (fun (s : Unit) e w => ∃ (g : Gh) , Fr gI wI g w ∧ e 0 = up0 ∧ RV g.m w (x0 : List Int) up0) (fun X53 k53 e7 h => ?_) ?_
  ·refine E_seq (E_region (EL_at (.int .i64 (1)) rfl rfl ?_))
   refine EL_nil (thn_n (E_block ?_))
   refine E_lp h (fun (s : Int) e w => ∃ (g : Gh) , Fr gI wI g w ∧ e 0 = up0 ∧ RV g.m w (x0 : List Int) up0 ∧ e 3 = .int .i64 (s)) ⟨g4, hfr, c7, d7, rfl⟩ (fun X54 k54 g7 => ?_)
   rintro o0 n8 x8 ⟨b7, hfr, o3, u3, q5⟩ h
   refine E_joinC h (fun (s : Unit) e w => ∃ (g : Gh) , Fr gI wI g w ∧ e 0 = up0 ∧ RV g.m w (x0 : List Int) up0 ∧ e 3 = .int .i64 (o0)) (fun X57 k57 i7 h => ?_) ?_
   ·refine E_seq (E_region (EL_mv q5 rfl ?_))
    refine EL_mv o3 rfl ?_
    refine EL_p (.int .i64 ((x0).length : Int)) (P_len Tryz.underlying23 rfl u3) rfl ?_
    refine EL_in (.bool ((decide (o0 < ((x0).length : Int))))) rfl rfl rfl rfl ?_
    refine EL_nil (thn_n ?_)
    rcases csome h with ⟨z4, h⟩ | ⟨z4, h⟩
    ·refine E_ct z4 rfl ?_
     exact E_skip (thn_n (i7 () _ _ ⟨b7, hfr, o3, u3, q5⟩ h))
    ·refine E_cf z4 rfl ?_
     refine E_exit ?_
     refine thn_e ?_
     refine thn_e ?_
     refine blk_hit ?_
     exact thn_n (e7 () _ _ ⟨b7, hfr, o3, u3⟩ h)
   ·rintro _ o8 y8 ⟨u7, hfr, i3, u0, j3⟩ h
    refine E_joinC h (fun (s : Int) e w => ∃ (g : Gh) , Fr gI wI g w ∧ e 0 = up0 ∧ RV g.m w (x0 : List Int) up0 ∧ e 3 = .int .i64 (s)) (fun X81 a7 j7 h => ?_) ?_
    ·refine E_block ?_
     refine E_seq ?_
     obtain ⟨i5, t5, h⟩ := bsome h
     have v7 := PT_idx u0 t5
     refine L_load (x := .tmp 18) Tryz.isAgg3 Tryz.sizeOf3 v7 fun a9 c8 m7 => ?_
     obtain rfl := RV_int.1 c8
     obtain ⟨l5, x5, h⟩ := bsome h
     have g8 := PT_idx u0 x5
     refine L_load (x := .tmp 23) Tryz.isAgg3 Tryz.sizeOf3 g8 fun d9 i8 n7 => ?_
     obtain rfl := RV_int.1 i8
     refine E_drawL (g := u7) (n := 10) [] [0, 1, 2, 3, 4, 5, 6, 7, 8, 9] rfl mixed (by kernel_rfl) trivial ?_
     refine L_p up0 rfl rfl (P_move i3) ?_
     refine L_p (.int .i64 (o0)) rfl rfl (P_move j3) ?_
     refine L_p (ePtr up0 o0 1) rfl rfl (P_indexAddr (α := Int) Tryz.underlying23 Tryz.sizeOf3 rfl u0 rfl t5) ?_
     refine L_ld (c := .int .i64 (i5)) rfl rfl .plain (fun _ _ h => h.ch) m7 rfl ?_
     refine L_p up0 rfl rfl (P_move i3) ?_
     refine L_p (.int .i64 (o0)) rfl rfl (P_move j3) ?_
     refine L_p (.int .i64 ((w64 (o0 - (1 : Int))))) rfl rfl (P_int rfl rfl rfl) ?_
     refine L_p (ePtr up0 (w64 (o0 - (1 : Int))) 1) rfl rfl (P_indexAddr (α := Int) Tryz.underlying23 Tryz.sizeOf3 rfl u0 rfl x5) ?_
     refine L_ld (c := .int .i64 (l5)) rfl rfl .plain (fun _ _ h => h.ch) n7 rfl ?_
     refine L_p (.bool ((i5 == l5))) rfl rfl (P_int rfl rfl rfl) ?_
     refine L_nl fun k8 e9 hs => ?_
     have hfr := hfr.ext hs
     have u0 := u0.ext hs
     clear hs
     refine EL_nil (thn_n ?_)
     rcases csome h with ⟨z3, h⟩ | ⟨z3, h⟩
     ·refine E_ct z3 rfl ?_
      refine E_seq (E_region (EL_mv i3 rfl ?_))
      refine EL_mv j3 rfl ?_
      cases h
     ·refine E_cf z3 rfl ?_
      exact E_skip (blk_n (thn_n (j7 (o0) _ _ ⟨k8, hfr, i3, u0, j3⟩ h)))
    ·rintro j1 l8 q8 ⟨o7, hfr, i6, j6, v6⟩ h
     refine E_region (EL_mv v6 rfl ?_)
     refine EL_in (.int .i64 ((w64 (j1 + (1 : Int))))) rfl rfl rfl rfl ?_
     refine EL_at (.int .i64 ((w64 (j1 + (1 : Int))))) rfl rfl ?_
     exact EL_nil (thn_n (g7 ((w64 (j1 + (1 : Int)))) _ _ ⟨o7, hfr, i6, j6, rfl⟩ h))
  ·rintro _ m8 r8 ⟨t8, hfr, x6, y6⟩ h
   refine E_seq (E_region (EL_mv x6 rfl ?_))
   refine EL_at up0 rfl rfl ?_
   refine EL_nil (thn_n (E_ret ?_))
   obtain rfl := sinj h
   exact end1 rfl rfl (show _ = up0 from rfl) ⟨_, hfr, y6⟩
def f122 (x0 : List Int) (x1 : Int) (x2 : Int) : Option ((List Int)) :=
 lp (σ := (List Int) × Int × Int) (fun k1 (j1, o0, u0) =>
  jn (σ := Unit) (fun _ =>
   (idx j1 u0).bind fun y7 =>
   (idx j1 o0).bind fun y9 =>
   (idx j1 o0).bind fun y11 =>
   (idx ((List.set j1 (Int.toNat o0) y7)) u0).bind fun y6 =>
   k1 ((List.set ((List.set j1 (Int.toNat o0) y7)) (Int.toNat u0) y9), (w64 (o0 + (1 : Int))), (w64 (u0 - (1 : Int))))
   ) fun k4 =>
  bif (decide (o0 < u0)) then
   k4 ()
  else
   some (j1)
  ) big (x0, x1, (w64 (x2 - (1 : Int))))
def f124 (x0 : Int) (x1 : Int) : Option (Bool) :=
 Option.bind (α := Bool) (
  (f101 x0).bind fun y8 =>
  bif y8 then
   (f101 x1).bind fun y11 =>
   bif (!y11) then
    some (true)
   else
    some ((decide (x0 < x1)))
  else
   some ((decide (x0 < x1)))
  ) fun j1 =>
 some (j1)
theorem en124 : Enters Tryz.prog 124 := enters_of Tryz.func124 (by kernel_rfl) rfl
theorem wk124 {gI : Gh} {wI : World} {x0 : Int} {x1 : Int}  {r : Bool} (h : f124 x0 x1 = some r) : Fn Tryz.prog 124 #[.int .i64 (x0), .int .i64 (x1)] gI wI (fun _ _ v => v = .bool (r)) := by
 unfold f124 at h
 refine fn_of_E Tryz.func124 rfl (Nat.le_of_ble_eq_true rfl) fun g0 hm hfr => ?_
 show E _ 17 none _ _ _ _ _
 refine E_seq (E_region (EL_at (.bool false) rfl rfl ?_))
 refine EL_nil (thn_n ?_)
 obtain ⟨j1, hx, h⟩ := bsome h
 refine E_join (fun e w => ∃ (g : Gh) , Fr gI wI g w ∧ e 4 = .bool (j1)) (fun Q' hQ => ?_) (fun z3 i5 hR => ?_)
 ·replace h := hx
  clear hx
  refine E_region (EL_mw (.int .i64 (x0)) rfl rfl ?_)
  obtain ⟨y8, u3, h⟩ := bsome h
  refine EL_do .plain rfl (D_call (g := g0) (vs := [.int .i64 (x0)]) en101 (.cons rfl .nil) (wk101  u3) fun g7 w7_ v7 hs hr => ?_)
  have hfr := hfr.ext hs
  subst hr
  refine EL_mw (.bool (y8)) rfl rfl ?_
  rcases csome h with ⟨u0, h⟩ | ⟨u0, h⟩
  ·refine EL_y (.int .i64 (x1)) (P_move rfl) rfl rfl u0 rfl ?_
   obtain ⟨y11, o3, h⟩ := bsome h
   refine EL_do (.yes2 rfl rfl u0) rfl (D_call (g := g7) (vs := [.int .i64 (x1)]) en101 (.cons rfl .nil) (wk101  o3) fun j3 z4 l5 hs hr => ?_)
   have hfr := hfr.ext hs
   subst hr
   refine EL_y (.bool (!y11)) (P_not rfl) rfl rfl u0 rfl ?_
   refine EL_p (.bool (!y11)) (P_pick (b := y8) rfl (pick_t u0 rfl)) rfl ?_
   refine EL_mw (.bool (!y11)) rfl rfl ?_
   rcases csome h with ⟨o0, h⟩ | ⟨o0, h⟩
   ·refine EL_s rfl rfl o0 rfl rfl ?_
    refine EL_s rfl rfl o0 rfl rfl ?_
    refine EL_s rfl rfl o0 rfl rfl ?_
    refine EL_p (.bool true) (P_pick (b := (!y11)) rfl (pick_t o0 rfl)) rfl ?_
    refine EL_at (.bool true) rfl rfl ?_
    refine EL_nil ?_
    obtain rfl := sinj h
    exact hQ _ _ ⟨j3, hfr, rfl⟩
   ·refine EL_y (.int .i64 (x0)) (P_move rfl) rfl rfl o0 rfl ?_
    refine EL_y (.int .i64 (x1)) (P_move rfl) rfl rfl o0 rfl ?_
    refine EL_y (.bool ((decide (x0 < x1)))) (P_int rfl rfl rfl) rfl rfl o0 rfl ?_
    refine EL_p (.bool ((decide (x0 < x1)))) (P_pick (b := (!y11)) rfl (pick_f o0 rfl)) rfl ?_
    refine EL_at (.bool ((decide (x0 < x1)))) rfl rfl ?_
    refine EL_nil ?_
    obtain rfl := sinj h
    exact hQ _ _ ⟨j3, hfr, rfl⟩
  ·refine EL_s rfl rfl u0 rfl rfl ?_
   refine EL_s rfl rfl u0 rfl rfl ?_
   refine EL_s rfl rfl u0 rfl rfl ?_
   refine EL_p (.bool false) (P_pick (b := y8) rfl (pick_f u0 rfl)) rfl ?_
   refine EL_mw (.bool false) rfl rfl ?_
   refine EL_y (.int .i64 (x0)) (P_move rfl) rfl rfl rfl rfl ?_
   refine EL_y (.int .i64 (x1)) (P_move rfl) rfl rfl rfl rfl ?_
   refine EL_y (.bool ((decide (x0 < x1)))) (P_int rfl rfl rfl) rfl rfl rfl rfl ?_
   refine EL_p (.bool ((decide (x0 < x1)))) (P_pick (b := false) rfl (pick_f rfl rfl)) rfl ?_
   refine EL_at (.bool ((decide (x0 < x1)))) rfl rfl ?_
   refine EL_nil ?_
   obtain rfl := sinj h
   exact hQ _ _ ⟨g7, hfr, rfl⟩
 ·clear hx
  obtain ⟨q5, hfr, i3⟩ := hR
  refine E_ret ?_
  obtain rfl := sinj h
  exact end1 rfl rfl (show _ = .bool (j1) from i3) ⟨_, hfr, rfl⟩
def f125 (x0 : List Int) (x1 : Int) (x2 : Int) (x3 : Int) : Option (Int × (List Int)) :=
 (idx x0 x3).bind fun y1 =>
 (idx x0 x1).bind fun y3 =>
 (idx x0 x1).bind fun y5 =>
 (idx ((List.set x0 (Int.toNat x1) y1)) x3).bind fun oE =>
 Option.bind (α := (List Int) × Int) (
  lp (σ := (List Int) × Int × Int) (fun jC (j3, o9, o3) =>
   Option.bind (α := Int) (
    lp (σ := Int) (fun oA j1 =>
     jn (σ := Unit) (fun _ =>
      oA ((w64 (j1 + (1 : Int))))
      ) fun pA =>
     Option.bind (α := Bool) (
      bif (decide (j1 ≤ o3)) then
       (idx j3 x1).bind fun v7 =>
       (idx j3 j1).bind fun c8 =>
       (f124 v7 c8).bind fun y6 =>
       some ((!y6))
      else
       some (false)
      ) fun q5 =>
     bif q5 then
      pA ()
     else
      some (j1)
     ) big (o9)
    ) fun o0 =>
   Option.bind (α := Int) (
    lp (σ := Int) (fun qA u0 =>
     jn (σ := Unit) (fun _ =>
      qA ((w64 (u0 - (1 : Int))))
      ) fun rA =>
     Option.bind (α := Bool) (
      bif (decide (o0 ≤ u0)) then
       (idx j3 x1).bind fun g8 =>
       (idx j3 u0).bind fun i8 =>
       (f124 g8 i8).bind fun g7 =>
       some (g7)
      else
       some (false)
      ) fun t5 =>
     bif t5 then
      rA ()
     else
      some (u0)
     ) big (o3)
    ) fun i3 =>
   jn (σ := Unit) (fun _ =>
    (idx j3 i3).bind fun a7 =>
    (idx j3 o0).bind fun i7 =>
    (idx j3 o0).bind fun lD =>
    (idx ((List.set j3 (Int.toNat o0) a7)) i3).bind fun mD =>
    jC ((List.set ((List.set j3 (Int.toNat o0) a7)) (Int.toNat i3) i7), (w64 (o0 + (1 : Int))), (w64 (i3 - (1 : Int))))
    ) fun uA =>
   bif (decide (o0 > i3)) then
    some (j3, o0)
   else
    uA ()
   ) big ((List.set ((List.set x0 (Int.toNat x1) y1)) (Int.toNat x3) y3), (w64 (x1 + (1 : Int))), (w64 (x2 - (1 : Int))))
  ) fun (j7, i6) =>
 some (i6, j7)
def f126 (x0 : List Int) (x1 : Int) (x2 : Int) (x3 : Int) : Option (Int × Bool × (List Int)) :=
 (idx x0 x3).bind fun y1 =>
 (idx x0 x1).bind fun y3 =>
 (idx x0 x1).bind fun y5 =>
 (idx ((List.set x0 (Int.toNat x1) y1)) x3).bind fun cM =>
 Option.bind (α := Int) (
  lp (σ := Int) (fun xG z3 =>
   jn (σ := Unit) (fun _ =>
    xG ((w64 (z3 + (1 : Int))))
    ) fun yG =>
   Option.bind (α := Bool) (
    bif (decide (z3 ≤ (w64 (x2 - (1 : Int))))) then
     (idx ((List.set ((List.set x0 (Int.toNat x1) y1)) (Int.toNat x3) y3)) z3).bind fun rC =>
     (idx ((List.set ((List.set x0 (Int.toNat x1) y1)) (Int.toNat x3) y3)) x1).bind fun tC =>
     (f124 rC tC).bind fun qA =>
     some (qA)
    else
     some (false)
    ) fun n7 =>
   bif n7 then
    yG ()
   else
    some (z3)
   ) big ((w64 (x1 + (1 : Int))))
  ) fun u0 =>
 Option.bind (α := Int) (
  lp (σ := Int) (fun zG z4 =>
   jn (σ := Unit) (fun _ =>
    zG ((w64 (z4 - (1 : Int))))
    ) fun aH =>
   Option.bind (α := Bool) (
    bif (decide (u0 ≤ z4)) then
     (idx ((List.set ((List.set x0 (Int.toNat x1) y1)) (Int.toNat x3) y3)) z4).bind fun uC =>
     (idx ((List.set ((List.set x0 (Int.toNat x1) y1)) (Int.toNat x3) y3)) x1).bind fun vC =>
     (f124 uC vC).bind fun u9 =>
     some ((!u9))
    else
     some (false)
    ) fun o7 =>
   bif o7 then
    aH ()
   else
    some (z4)
   ) big ((w64 (x2 - (1 : Int))))
  ) fun j1 =>
 jn (σ := (List Int)) (fun u7 =>
  (idx u7 j1).bind fun rA =>
  (idx u7 u0).bind fun xC =>
  (idx u7 u0).bind fun xK =>
  (idx ((List.set u7 (Int.toNat u0) rA)) j1).bind fun yK =>
  Option.bind (α := (List Int) × Int) (
   lp (σ := (List Int) × Int × Int) (fun nE (o3, uA, i5) =>
    Option.bind (α := Int) (
     lp (σ := Int) (fun oE i3 =>
      jn (σ := Unit) (fun _ =>
       oE ((w64 (i3 + (1 : Int))))
       ) fun rE =>
      Option.bind (α := Bool) (
       bif (decide (i3 ≤ i5)) then
        (idx o3 i3).bind fun lA =>
        (idx o3 x1).bind fun mA =>
        (f124 lA mA).bind fun k9 =>
        some (k9)
       else
        some (false)
       ) fun e7 =>
      bif e7 then
       rE ()
      else
       some (i3)
      ) big (uA)
     ) fun o0 =>
    Option.bind (α := Int) (
     lp (σ := Int) (fun sE j3 =>
      jn (σ := Unit) (fun _ =>
       sE ((w64 (j3 - (1 : Int))))
       ) fun tE =>
      Option.bind (α := Bool) (
       bif (decide (o0 ≤ j3)) then
        (idx o3 j3).bind fun nA =>
        (idx o3 x1).bind fun oA =>
        (f124 nA oA).bind fun o8 =>
        some ((!o8))
       else
        some (false)
       ) fun g7 =>
      bif g7 then
       tE ()
      else
       some (j3)
      ) big (i5)
     ) fun u3 =>
    jn (σ := Unit) (fun _ =>
     (idx o3 u3).bind fun q8 =>
     (idx o3 o0).bind fun l9 =>
     (idx o3 o0).bind fun vI =>
     (idx ((List.set o3 (Int.toNat o0) q8)) u3).bind fun xI =>
     nE ((List.set ((List.set o3 (Int.toNat o0) q8)) (Int.toNat u3) l9), (w64 (o0 + (1 : Int))), (w64 (u3 - (1 : Int))))
     ) fun uE =>
    bif (decide (o0 > u3)) then
     some (o3, u3)
    else
     uE ()
    ) big ((List.set ((List.set u7 (Int.toNat u0) rA)) (Int.toNat j1) xC), (w64 (u0 + (1 : Int))), (w64 (j1 - (1 : Int))))
   ) fun (d7, l5) =>
  (idx d7 x1).bind fun n9 =>
  (idx d7 l5).bind fun pA =>
  (idx d7 l5).bind fun yI =>
  (idx ((List.set d7 (Int.toNat l5) n9)) x1).bind fun zI =>
  some (l5, false, (List.set ((List.set d7 (Int.toNat l5) n9)) (Int.toNat x1) pA))
  ) fun bH =>
 bif (decide (u0 > j1)) then
  (idx ((List.set ((List.set x0 (Int.toNat x1) y1)) (Int.toNat x3) y3)) x1).bind fun xA =>
  (idx ((List.set ((List.set x0 (Int.toNat x1) y1)) (Int.toNat x3) y3)) j1).bind fun yC =>
  (idx ((List.set ((List.set x0 (Int.toNat x1) y1)) (Int.toNat x3) y3)) j1).bind fun zK =>
  (idx ((List.set ((List.set ((List.set x0 (Int.toNat x1) y1)) (Int.toNat x3) y3)) (Int.toNat j1) xA)) x1).bind fun aL =>
  some (j1, true, (List.set ((List.set ((List.set ((List.set x0 (Int.toNat x1) y1)) (Int.toNat x3) y3)) (Int.toNat j1) xA)) (Int.toNat x1) yC))
 else
  bH ((List.set ((List.set x0 (Int.toNat x1) y1)) (Int.toNat x3) y3))
def f129 (x0 : List (List Int)) (x1 : (List Int) → Option Bool) : Option (Int) :=
 jn (σ := Unit) (fun _ =>
  some ((-1 : Int))
  ) fun k18 =>
 lp (σ := Int) (fun k19 o0 =>
  bif (decide (o0 < ((x0).length : Int))) then
   jn (σ := Unit) (fun _ =>
    k19 ((w64 (o0 + (1 : Int))))
    ) fun k28 =>
   (idx x0 o0).bind fun j6 =>
   (x1 j6).bind fun v6 =>
   bif v6 then
    some (o0)
   else
    k28 ()
  else
   k18 ()
  ) big ((0 : Int))
def f132 (x0 : List Int) (x1 : Int) (x2 : Int) (x3 : Int) : Option ((List Int)) :=
 lp (σ := (List Int) × Int) (fun k1 (i3, o0) =>
  jn (σ := Unit) (fun _ =>
   Option.bind (α := Int) (
    Option.bind (α := Bool) (
     bif (decide ((w64 ((w64 ((w64 ((2 : Int) * o0)) + (1 : Int))) + (1 : Int))) < x2)) then
      (idx i3 (w64 (x3 + (w64 ((w64 ((2 : Int) * o0)) + (1 : Int)))))).bind fun a7 =>
      (idx i3 (w64 ((w64 (x3 + (w64 ((w64 ((2 : Int) * o0)) + (1 : Int))))) + (1 : Int)))).bind fun b7 =>
      (f124 a7 b7).bind fun t5 =>
      some (t5)
     else
      some (false)
     ) fun z3 =>
    bif z3 then
     some ((w64 ((w64 ((w64 ((2 : Int) * o0)) + (1 : Int))) + (1 : Int))))
    else
     some ((w64 ((w64 ((2 : Int) * o0)) + (1 : Int))))
    ) fun u0 =>
   jn (σ := Unit) (fun _ =>
    (idx i3 (w64 (x3 + u0))).bind fun l5 =>
    (idx i3 (w64 (x3 + o0))).bind fun x5 =>
    (idx i3 (w64 (x3 + o0))).bind fun oA =>
    (idx ((List.set i3 (Int.toNat (w64 (x3 + o0))) l5)) (w64 (x3 + u0))).bind fun pA =>
    k1 ((List.set ((List.set i3 (Int.toNat (w64 (x3 + o0))) l5)) (Int.toNat (w64 (x3 + u0))) x5), u0)
    ) fun a9 =>
   (idx i3 (w64 (x3 + o0))).bind fun c7 =>
   (idx i3 (w64 (x3 + u0))).bind fun d7 =>
   (f124 c7 d7).bind fun i6 =>
   bif (!i6) then
    some (i3)
   else
    a9 ()
   ) fun k4 =>
  bif (decide ((w64 ((w64 ((2 : Int) * o0)) + (1 : Int))) ≥ x2)) then
   some (i3)
  else
   k4 ()
  ) big (x0, x1)
def f137 (x0 : List Int) (x1 : Int) (x2 : Int) (x3 : Int) (x4 : Int → Int → Option Int) : Option ((List Int)) :=
 lp (σ := (List Int) × Int) (fun k1 (u0, o0) =>
  jn (σ := Unit) (fun _ =>
   Option.bind (α := (List Int)) (
    (idx u0 (w64 (x2 + o0))).bind fun u3 =>
    (idx u0 (w64 (x1 + o0))).bind fun y44 =>
    (idx u0 (w64 (x1 + o0))).bind fun u7 =>
    (idx ((List.set u0 (Int.toNat (w64 (x1 + o0))) u3)) (w64 (x2 + o0))).bind fun v7 =>
    some ((List.set ((List.set u0 (Int.toNat (w64 (x1 + o0))) u3)) (Int.toNat (w64 (x2 + o0))) y44))
    ) fun j3 =>
   k1 (j3, (w64 (o0 + (1 : Int))))
   ) fun k4 =>
  bif (decide (o0 < x3)) then
   k4 ()
  else
   some (u0)
  ) big (x0, (0 : Int))
end Go.Proofs.YtkmbkaoolacofaaGreat
