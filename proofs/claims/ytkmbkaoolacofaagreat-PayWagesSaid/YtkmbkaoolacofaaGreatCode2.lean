import Derived.Test.YtkmbkaoolacofaaGreatCode1
set_option maxRecDepth 8000
set_option maxHeartbeats 4000000
namespace Go.Proofs.YtkmbkaoolacofaaGreat
open Go.RowKit
def f78 (x0 : Int) (z0 : Int) (z1 : Int) : Option (Bool) :=
 Option.bind (α := Bool) (
  bif (decide (x0 < z0)) then
   some (true)
  else
   some ((decide (x0 > z1)))
  ) fun o0 =>
 some (o0)
theorem en78 : Enters Tryz.prog 78 := enters_of Tryz.func78 (by kernel_rfl) rfl
theorem wk78 {gI : Gh} {wI : World} {x0 : Int} {z0 : Int} {z1 : Int} {pf0 : Value} (qf0 : PT gI.m wI z0 pf0) {pf1 : Value} (qf1 : PT gI.m wI z1 pf1) {r : Bool} (h : f78 x0 z0 z1 = some r) : Fn Tryz.prog 78 #[.int .i64 (x0), pf0, pf1] gI wI (fun _ _ v => v = .bool (r)) := by
 unfold f78 at h
 refine fn_of_E Tryz.func78 rfl (Nat.le_of_ble_eq_true rfl) fun g0 hm hfr => ?_
 have qf0 : PT g0.m wI z0 pf0 := hm ▸ qf0
 have qf1 : PT g0.m wI z1 pf1 := hm ▸ qf1
 show E _ 13 none _ _ _ _ _
 refine E_seq (E_region (EL_at (.bool false) rfl rfl ?_))
 refine EL_nil (thn_n ?_)
 obtain ⟨o0, hx, h⟩ := bsome h
 refine E_join (fun e w => ∃ (g : Gh) , Fr gI wI g w ∧ e 4 = .bool (o0)) (fun Q' hQ => ?_) (fun j1 w7 hR => ?_)
 ·replace h := hx
  clear hx
  refine E_region (EL_mw (.int .i64 (x0)) rfl rfl ?_)
  refine EL_do .plain rfl (D_load (g := g0) Tryz.isAgg3 Tryz.sizeOf3 rfl qf0 fun v4 r4 => ?_)
  obtain rfl := RV_int.1 r4
  refine EL_in (.bool ((decide (x0 < z0)))) rfl rfl rfl rfl ?_
  refine EL_mw (.bool ((decide (x0 < z0)))) rfl rfl ?_
  rcases csome h with ⟨hc5, h⟩ | ⟨hc5, h⟩
  ·refine EL_s rfl rfl hc5 rfl rfl ?_
   refine EL_s rfl rfl hc5 rfl rfl ?_
   refine EL_s rfl rfl hc5 rfl rfl ?_
   refine EL_p (.bool true) (P_pick (b := (decide (x0 < z0))) rfl (pick_t hc5 rfl)) rfl ?_
   refine EL_at (.bool true) rfl rfl ?_
   refine EL_nil ?_
   obtain rfl := sinj h
   exact hQ _ _ ⟨g0, hfr, rfl⟩
  ·refine EL_y (.int .i64 (x0)) (P_move rfl) rfl rfl hc5 rfl ?_
   refine EL_do (.yes2 rfl rfl hc5) rfl (D_load (g := g0) Tryz.isAgg3 Tryz.sizeOf3 rfl qf1 fun v6 r6 => ?_)
   obtain rfl := RV_int.1 r6
   refine EL_y (.bool ((decide (x0 > z1)))) (P_int rfl rfl rfl) rfl rfl hc5 rfl ?_
   refine EL_p (.bool ((decide (x0 > z1)))) (P_pick (b := (decide (x0 < z0))) rfl (pick_f hc5 rfl)) rfl ?_
   refine EL_at (.bool ((decide (x0 > z1)))) rfl rfl ?_
   refine EL_nil ?_
   obtain rfl := sinj h
   exact hQ _ _ ⟨g0, hfr, rfl⟩
 ·clear hx
  obtain ⟨g7, hfr, u0⟩ := hR
  refine E_ret ?_
  obtain rfl := sinj h
  exact end1 rfl rfl (show _ = .bool (o0) from u0) ⟨_, hfr, rfl⟩
def f87 (x0 : PaySheet) : Option ((List PayPlace)) :=
 Option.bind (α := (List PayPlace)) (
  lp (σ := (List PayPlace) × Int) (fun uA (a7, o0) =>
   bif (decide (o0 < ((((x0).PayTable).Rows).length : Int))) then
    Option.bind (α := (List PayPlace)) (
     (idx (((x0).PayTable).Rows) o0).bind fun z3 =>
     lp (σ := (List PayPlace) × Int) (fun xA (x5, u0) =>
      bif (decide (u0 < ((z3).length : Int))) then
       Option.bind (α := (List PayPlace)) (
        (idx z3 u0).bind fun i7 =>
        bif (i7 == (-1 : Int)) then
         (apnd 16 x5 (([(⟨o0, u0⟩ : PayPlace)] : List PayPlace))).bind fun y8 =>
         some (y8)
        else
         some (x5)
        ) fun j3 =>
       xA (j3, (w64 (u0 + (1 : Int))))
      else
       some (x5)
      ) big (a7, (0 : Int))
     ) fun o3 =>
    uA (o3, (w64 (o0 + (1 : Int))))
   else
    some (a7)
   ) big ([], (0 : Int))
  ) fun z4 =>
 some (z4)
def f89 (x0 : List Int) : Option (Int) :=
 Option.bind (α := Int) (
  lp (σ := Int × Int) (fun a7 (u0, o0) =>
   bif (decide (o0 < ((x0).length : Int))) then
    Option.bind (α := Int) (
     (idx x0 o0).bind fun j3 =>
     some ((w64 (u0 + j3)))
     ) fun i3 =>
    a7 (i3, (w64 (o0 + (1 : Int))))
   else
    some (u0)
   ) big ((0 : Int), (0 : Int))
  ) fun j1 =>
 some (j1)
def f91 (x0 : PayEnd) (z0 : List Int) : Option (Bool) :=
 Option.bind (α := Bool) (
  bif (x0).isDown then
   (idx z0 (x0).at_).bind fun j1 =>
   some ((decide (j1 > (0 : Int))))
  else
   some (false)
  ) fun u0 =>
 some (u0)
def f94 (x0 : Int) : Option (Bool) :=
 some ((decide (x0 > (0 : Int))))
def f95 (x0 : PayFilling) (x1 : PayStep) : Option (Int) :=
 jn (σ := Unit) (fun _ =>
  (idx ((x0).amounts) (x1).blot).bind fun o0 =>
  some ((w64 ((1000000 : Int) - o0)))
  ) fun k28 =>
 bif (x1).less then
  (idx ((x0).amounts) (x1).blot).bind fun j1 =>
  some (j1)
 else
  k28 ()
def f96 (x0 : PayEnd) (z0 : PayEnd) : Option (Bool) :=
 some ((decide (x0 = z0)))
def f97 (x0 : PaySheet) (x1 : Int) : Option ((List Int)) :=
 Option.bind (α := (List Int)) (
  lp (σ := (List Int) × Int) (fun c8 (z3, o0) =>
   bif (decide (o0 < ((((x0).PayTable).Rows).length : Int))) then
    Option.bind (α := (List Int)) (
     (idx (((x0).PayTable).Rows) o0).bind fun g8 =>
     (idx g8 x1).bind fun q5 =>
     (apnd 8 z3 (([q5] : List Int))).bind fun i8 =>
     some (i8)
     ) fun j1 =>
    c8 (j1, (w64 (o0 + (1 : Int))))
   else
    some (z3)
   ) big ([], (0 : Int))
  ) fun i3 =>
 some (i3)
def f98 (x0 : List Int) (x1 : Int → Option Bool) : Option (Int) :=
 jn (σ := Unit) (fun _ =>
  some ((-1 : Int))
  ) fun k18 =>
 lp (σ := Int) (fun k19 o0 =>
  bif (decide (o0 < ((x0).length : Int))) then
   jn (σ := Unit) (fun _ =>
    k19 ((w64 (o0 + (1 : Int))))
    ) fun k28 =>
   (idx x0 o0).bind fun z4 =>
   (x1 z4).bind fun v6 =>
   bif v6 then
    some (o0)
   else
    k28 ()
  else
   k18 ()
  ) big ((0 : Int))
theorem en98 : Enters Tryz.prog 98 := enters_of Tryz.func98 (by kernel_rfl) rfl
theorem wk98 {gI : Gh} {wI : World} {x0 : List Int} {x1 : Int → Option Bool} {up0 : Value} (rp0 : RV gI.m wI x0 up0) {up1 : Value} (rp1 : FnV1 Tryz.prog x1 up1 gI wI) {r : Int} (h : f98 x0 x1 = some r) : Fn Tryz.prog 98 #[up0, up1] gI wI (fun _ _ v => v = .int .i64 (r)) := by
 unfold f98 at h
 refine fn_of_E Tryz.func98 rfl (Nat.le_of_ble_eq_true rfl) fun g0 hm hfr => ?_
 have rp0 : RV g0.m wI x0 up0 := hm ▸ rp0
 obtain ⟨ff1, fa1, fc1, rfl, fen1, fcl1⟩ := rp1
 show E _ 19 none _ _ _ _ _
 refine E_seq (E_region (EL_at (.int .i64 (0)) rfl rfl ?_))
 refine EL_nil (thn_n (E_joinC h (fun (s : Unit) e w => ∃ (g : Gh) , Fr gI wI g w) (fun X18 k18 x6 h => ?_) ?_))
 ·refine E_seq (E_region (EL_mw up0 rfl rfl ?_))
  refine EL_p (.int .i64 ((x0).length : Int)) (P_len Tryz.underlying23 rfl rp0) rfl ?_
  refine EL_mw (.int .i64 (0)) rfl rfl ?_
  refine EL_nil (thn_n (E_block ?_))
  refine E_lp h (fun (s : Int) e w => ∃ (g : Gh) , Fr gI wI g w ∧ e 0 = up0 ∧ RV g.m w (x0 : List Int) up0 ∧ e 1 = (.func (.func ff1) fa1 fc1) ∧ e 7 = .int .i64 (((x0).length : Int)) ∧ e 8 = .int .i64 (s)) ⟨g0, hfr, rfl, rp0, rfl, rfl, rfl⟩ (fun X19 k19 y6 => ?_)
  rintro o0 i7 n7 ⟨i5, hfr, o3, u0, u3, z3, j1⟩ h
  refine E_seq (E_region (EL_in (.bool ((decide (o0 < ((x0).length : Int))))) j1 z3 rfl rfl ?_))
  refine EL_nil (thn_n (E_seq ?_))
  rcases csome h with ⟨i3, h⟩ | ⟨i3, h⟩
  ·refine E_ct i3 rfl ?_
   refine E_skip (thn_n (E_joinC h (fun (s : Unit) e w => ∃ (g : Gh) , Fr gI wI g w ∧ e 0 = up0 ∧ RV g.m w (x0 : List Int) up0 ∧ e 1 = (.func (.func ff1) fa1 fc1) ∧ e 7 = .int .i64 (((x0).length : Int)) ∧ e 8 = .int .i64 (o0)) (fun X28 k28 a7 h => ?_) ?_))
   ·refine E_block ?_
    refine E_seq (E_region (EL_mv j1 rfl ?_))
    refine EL_at (.int .i64 (o0)) rfl rfl ?_
    refine EL_nil (thn_n (E_seq (E_region (EL_mv u3 rfl ?_))))
    refine EL_mv o3 rfl ?_
    refine EL_mw (.int .i64 (o0)) rfl rfl ?_
    obtain ⟨z4, l5, h⟩ := bsome h
    refine EL_p (ePtr up0 o0 1) (P_indexAddr (α := Int) Tryz.underlying23 Tryz.sizeOf3 rfl u0 rfl l5) rfl ?_
    have c7 := PT_idx u0 l5
    refine EL_do .plain rfl (D_load (g := i5) Tryz.isAgg3 Tryz.sizeOf3 rfl c7 fun o7 d7 => ?_)
    obtain rfl := RV_int.1 d7
    obtain ⟨v6, b7, h⟩ := bsome h
    refine EL_do .plain rfl (D_callv (g := i5) (vs := [.int .i64 (z4)]) rfl fen1 (.cons rfl .nil) (fcl1 _ _ hfr.ch _ _ _  (RV_int.2 rfl) b7) fun e7 u7 v7 hs hr => ?_)
    have hfr := hfr.ext hs
    have u0 := u0.ext hs
    obtain rfl := RV_bool.1 hr
    refine EL_nil (thn_n ?_)
    rcases csome h with ⟨j3, h⟩ | ⟨j3, h⟩
    ·refine E_ct j3 rfl ?_
     refine E_seq (E_region (EL_mw (.int .i64 (o0)) rfl rfl ?_))
     refine EL_at (.int .i64 (o0)) rfl rfl ?_
     refine EL_nil (thn_n (E_ret (blk_r ?_)))
     refine thn_r ?_
     refine thn_r ?_
     refine blk_r ?_
     refine thn_r ?_
     obtain rfl := sinj h
     exact end1 rfl rfl (show _ = .int .i64 (o0) from rfl) ⟨_, hfr, rfl⟩
    ·refine E_cf j3 rfl ?_
     exact E_skip (blk_n (thn_n (a7 () _ _ ⟨e7, hfr, o3, u0, u3, z3, j1⟩ h)))
   ·rintro _ j7 c8 ⟨g7, hfr, q5, t5, x5, i6, j6⟩ h
    refine E_region (EL_in (.int .i64 ((w64 (o0 + (1 : Int))))) j6 rfl rfl rfl ?_)
    refine EL_mw (.int .i64 ((w64 (o0 + (1 : Int))))) rfl rfl ?_
    exact EL_nil (thn_n (y6 ((w64 (o0 + (1 : Int)))) _ _ ⟨g7, hfr, q5, t5, x5, i6, rfl⟩ h))
  ·refine E_cf i3 rfl ?_
   refine E_exit ?_
   refine thn_e ?_
   refine thn_e ?_
   refine blk_hit ?_
   exact thn_n (x6 () _ _ ⟨i5, hfr⟩ h)
 ·rintro _ m7 g8 ⟨i8, hfr⟩ h
  refine E_seq (E_region (EL_at (.int .i64 (-1)) rfl rfl ?_))
  refine EL_nil (thn_n (E_ret ?_))
  obtain rfl := sinj h
  exact end1 rfl rfl (show _ = .int .i64 (-1) from rfl) ⟨_, hfr, rfl⟩
def f99 (x1 : Int) : Option ((List Int)) :=
 Option.bind (α := Unit) (
  bif (decide (x1 < (0 : Int))) then
   none
  else
   some ()
  ) fun (_ : Unit) =>
 Option.bind (α := (List Int)) (
  bif (decide ((w64 (x1 - (w64 (((0 : Nat) : Int) - ((([] : List Int)).length : Int))))) > (0 : Int))) then
   (grwz 8 ((w64 (x1 - (w64 (((0 : Nat) : Int) - ((([] : List Int)).length : Int))))))).bind fun _ =>
   some (([] : List Int))
  else
   some (([] : List Int))
  ) fun j1 =>
 some (j1)
def f101 (x0 : Int) : Option (Bool) :=
 some ((x0 != x0))
theorem en101 : Enters Tryz.prog 101 := enters_of Tryz.func101 (by kernel_rfl) rfl
theorem wk101 {gI : Gh} {wI : World} {x0 : Int}  {r : Bool} (h : f101 x0 = some r) : Fn Tryz.prog 101 #[.int .i64 (x0)] gI wI (fun _ _ v => v = .bool (r)) := by
 unfold f101 at h
 refine fn_of_E Tryz.func101 rfl (Nat.le_of_ble_eq_true rfl) fun g0 hm hfr => ?_
 show E _ 6 none _ _ _ _ _
 refine E_seq (E_region (EL_at (.bool false) rfl rfl ?_))
 refine EL_nil (thn_n (E_seq (E_region (EL_mw (.int .i64 (x0)) rfl rfl ?_))))
 refine EL_mw (.int .i64 (x0)) rfl rfl ?_
 refine EL_in (.bool ((x0 != x0))) rfl rfl rfl rfl ?_
 refine EL_at (.bool ((x0 != x0))) rfl rfl ?_
 refine EL_nil (thn_n (E_ret ?_))
 obtain rfl := sinj h
 exact end1 rfl rfl (show _ = .bool ((x0 != x0)) from rfl) ⟨_, hfr, rfl⟩
def f103 (x0 : List PayRate) (x1 : Int) (x2 : PayRate → Int → Option Int) : Option (Int × Bool) :=
 Option.bind (α := Int) (
  lp (σ := Int × Int) (fun j7 (i3, u0) =>
   jn (σ := Unit) (fun _ =>
    (shr64 (wu64 (w64 (i3 + u0))) (1 : Int)).bind fun j3 =>
    (idx x0 (w64 j3)).bind fun n8 =>
    (x2 n8 x1).bind fun m7 =>
    bif (decide (m7 < (0 : Int))) then
     j7 ((w64 ((w64 j3) + (1 : Int))), u0)
    else
     j7 (i3, (w64 j3))
    ) fun o8 =>
   bif (decide (i3 < u0)) then
    o8 ()
   else
    some (i3)
   ) big ((0 : Int), ((x0).length : Int))
  ) fun o0 =>
 Option.bind (α := Int × Bool) (
  bif (decide (o0 < ((x0).length : Int))) then
   (idx x0 o0).bind fun q8 =>
   (x2 q8 x1).bind fun x5 =>
   some (o0, (x5 == (0 : Int)))
  else
   some (o0, false)
  ) fun (u3, z3) =>
 some (u3, z3)
theorem en103 : Enters Tryz.prog 103 := enters_of Tryz.func103 (by kernel_rfl) rfl
theorem wk103 {gI : Gh} {wI : World} {x0 : List PayRate} {x1 : Int} {x2 : PayRate → Int → Option Int} {up0 : Value} (rp0 : RV gI.m wI x0 up0) {up2 : Value} (rp2 : FnV2 Tryz.prog x2 up2 gI wI) {r : Int × Bool} (h : f103 x0 x1 x2 = some r) : Fn Tryz.prog 103 #[up0, .int .i64 (x1), up2] gI wI (fun m w v => ∃ y0 y1, v = .tuple #[y0, y1] ∧ y0 = .int .i64 (r.1) ∧ y1 = .bool (r.2)) := by
 unfold f103 at h
 refine fn_of_E Tryz.func103 rfl (Nat.le_of_ble_eq_true rfl) fun g0 hm hfr => ?_
 have rp0 : RV g0.m wI x0 up0 := hm ▸ rp0
 obtain ⟨ff2, fa2, fc2, rfl, fen2, fcl2⟩ := rp2
 show E _ 49 none _ _ _ _ _
 refine E_seq (E_region (EL_at (.int .i64 (0)) rfl rfl ?_))
 refine EL_at (.bool false) rfl rfl ?_
 refine EL_nil (thn_n (E_seq (E_region (EL_mw up0 rfl rfl ?_))))
 refine EL_p (.int .i64 ((x0).length : Int)) (P_len Tryz.underlying22 rfl rp0) rfl ?_
 refine EL_at (.int .i64 ((x0).length : Int)) rfl rfl ?_
 refine EL_nil (thn_n (E_seq (E_region (EL_mw (.int .i64 ((x0).length : Int)) rfl rfl ?_))))
 refine EL_at (.int .i64 (0)) rfl rfl ?_
 refine EL_at (.int .i64 ((x0).length : Int)) rfl rfl ?_
 refine EL_nil (thn_n ?_)
 obtain ⟨o0, hx, h⟩ := bsome h
 refine E_join (fun e w => ∃ (g : Gh) , Fr gI wI g w ∧ e 0 = up0 ∧ RV g.m w (x0 : List PayRate) up0 ∧ e 1 = .int .i64 (x1) ∧ e 2 = (.func (.func ff2) fa2 fc2) ∧ e 8 = .int .i64 (((x0).length : Int)) ∧ e 9 = .int .i64 (o0)) (fun Q' hQ => ?_) (fun u9 gA hR => ?_)
 ·replace h := hx
  clear hx
  refine E_block ?_
  refine E_lp h (fun (s : Int × Int) e w => ∃ (g : Gh) , Fr gI wI g w ∧ e 0 = up0 ∧ RV g.m w (x0 : List PayRate) up0 ∧ e 1 = .int .i64 (x1) ∧ e 2 = (.func (.func ff2) fa2 fc2) ∧ e 8 = .int .i64 (((x0).length : Int)) ∧ e 9 = .int .i64 (s.1) ∧ e 10 = .int .i64 (s.2)) ⟨g0, hfr, rfl, rp0, rfl, rfl, rfl, rfl, rfl⟩ (fun X14 j7 n7 => ?_)
  rintro ⟨i3, u0⟩ y9 w15 ⟨r8, hfr, y6, a7, b7, c7, d7, z4, i6⟩ h
  refine E_joinC h (fun (s : Unit) e w => ∃ (g : Gh) , Fr gI wI g w ∧ e 0 = up0 ∧ RV g.m w (x0 : List PayRate) up0 ∧ e 1 = .int .i64 (x1) ∧ e 2 = (.func (.func ff2) fa2 fc2) ∧ e 8 = .int .i64 (((x0).length : Int)) ∧ e 9 = .int .i64 (i3) ∧ e 10 = .int .i64 (u0)) (fun X17 o8 x8 h => ?_) ?_
  ·refine E_seq (E_region (EL_mv z4 rfl ?_))
   refine EL_mv i6 rfl ?_
   refine EL_in (.bool ((decide (i3 < u0)))) rfl rfl rfl rfl ?_
   refine EL_nil (thn_n ?_)
   rcases csome h with ⟨v6, h⟩ | ⟨v6, h⟩
   ·refine E_ct v6 rfl ?_
    exact E_skip (thn_n (x8 () _ _ ⟨r8, hfr, y6, a7, b7, c7, d7, z4, i6⟩ h))
   ·refine E_cf v6 rfl ?_
    refine E_exit ?_
    refine thn_e ?_
    refine thn_e ?_
    refine blk_hit ?_
    obtain rfl := sinj h
    exact hQ _ _ ⟨r8, hfr, y6, a7, b7, c7, d7, z4⟩
  ·rintro _ z9 iA ⟨t8, hfr, i5, o3, l5, q5, e7, g7, j6⟩ h
   refine E_block ?_
   refine E_seq (E_region (EL_mv g7 rfl ?_))
   refine EL_mv j6 rfl ?_
   refine EL_in (.int .i64 ((w64 (i3 + u0)))) rfl rfl rfl rfl ?_
   refine EL_p (.int .u64 (wu64 (w64 (i3 + u0)))) (P_intu64 Tryz.underlying3 Tryz.underlying85 rfl) rfl ?_
   obtain ⟨j3, y8, h⟩ := bsome h
   refine EL_p (.int .u64 (j3)) (P_shrU rfl rfl y8) rfl ?_
   refine EL_p (.int .i64 ((w64 j3))) (P_u64int Tryz.underlying85 Tryz.underlying3 rfl) rfl ?_
   refine EL_at (.int .i64 ((w64 j3))) rfl rfl ?_
   refine EL_nil (thn_n (E_seq (E_region (EL_mv q5 rfl ?_))))
   refine EL_mv i5 rfl ?_
   refine EL_mw (.int .i64 ((w64 j3))) rfl rfl ?_
   obtain ⟨n8, o7, h⟩ := bsome h
   refine EL_p (ePtr up0 (w64 j3) 2) (P_indexAddr (α := PayRate) Tryz.underlying22 Tryz.sizeOf87 rfl o3 rfl o7) rfl ?_
   have e9 := PT_idx o3 o7
   refine EL_do .plain rfl (D_load (g := t8) Tryz.isAgg87 Tryz.sizeOf87 rfl e9 fun i9 k9 => ?_)
   refine EL_mv l5 rfl ?_
   obtain ⟨m7, a9, h⟩ := bsome h
   refine EL_do .plain rfl (D_callv (g := t8) (vs := [i9, .int .i64 (x1)]) rfl fen2 (.cons rfl (.cons rfl .nil)) (fcl2 _ _ hfr.ch _ _ _ _ _  k9 (RV_int.2 rfl) a9) fun v8 jA lA hs hr => ?_)
   have hfr := hfr.ext hs
   have o3 := o3.ext hs
   obtain rfl := RV_int.1 hr
   refine EL_in (.bool ((decide (m7 < (0 : Int))))) rfl rfl rfl rfl ?_
   refine EL_nil (thn_n ?_)
   rcases csome h with ⟨x6, h⟩ | ⟨x6, h⟩
   ·refine E_ct x6 rfl ?_
    refine E_region (EL_mw (.int .i64 ((w64 j3))) rfl rfl ?_)
    refine EL_in (.int .i64 ((w64 ((w64 j3) + (1 : Int))))) rfl rfl rfl rfl ?_
    refine EL_at (.int .i64 ((w64 ((w64 j3) + (1 : Int))))) rfl rfl ?_
    exact EL_nil (blk_n (thn_n (n7 ((w64 ((w64 j3) + (1 : Int))), u0) _ _ ⟨v8, hfr, i5, o3, l5, q5, e7, rfl, j6⟩ h)))
   ·refine E_cf x6 rfl ?_
    refine E_region (EL_mw (.int .i64 ((w64 j3))) rfl rfl ?_)
    refine EL_at (.int .i64 ((w64 j3))) rfl rfl ?_
    exact EL_nil (blk_n (thn_n (n7 (i3, (w64 j3)) _ _ ⟨v8, hfr, i5, o3, l5, q5, e7, g7, rfl⟩ h)))
 ·clear hx
  obtain ⟨u7, hfr, c8, i7, g8, i8, k8, t5⟩ := hR
  obtain ⟨⟨u3, z3⟩, hx, h⟩ := bsome h
  refine E_join (fun e w => ∃ (g : Gh) , Fr gI wI g w ∧ e 6 = .int .i64 (u3) ∧ e 7 = .bool (z3)) (fun Q' hQ => ?_) (fun bA mA hR => ?_)
  ·replace h := hx
   clear hx
   refine E_region (EL_mv t5 rfl ?_)
   refine EL_mv t5 rfl ?_
   refine EL_mv k8 rfl ?_
   refine EL_in (.bool ((decide (o0 < ((x0).length : Int))))) rfl rfl rfl rfl ?_
   refine EL_mw (.bool ((decide (o0 < ((x0).length : Int))))) rfl rfl ?_
   rcases csome h with ⟨j1, h⟩ | ⟨j1, h⟩
   ·refine EL_y ((.func (.func ff2) fa2 fc2)) (P_move i8) rfl rfl j1 rfl ?_
    refine EL_y up0 (P_move c8) rfl rfl j1 rfl ?_
    refine EL_y (.int .i64 (o0)) (P_move t5) rfl rfl j1 rfl ?_
    obtain ⟨q8, v7, h⟩ := bsome h
    refine EL_y (ePtr up0 o0 2) (P_indexAddr (α := PayRate) Tryz.underlying22 Tryz.sizeOf87 rfl i7 rfl v7) rfl rfl j1 rfl ?_
    have l9 := PT_idx i7 v7
    refine EL_do (.yes2 rfl rfl j1) rfl (D_load (g := u7) Tryz.isAgg87 Tryz.sizeOf87 rfl l9 fun n9 o9 => ?_)
    refine EL_y (.int .i64 (x1)) (P_move g8) rfl rfl j1 rfl ?_
    obtain ⟨x5, d9, h⟩ := bsome h
    refine EL_do (.yes2 rfl rfl j1) rfl (D_callv (g := u7) (vs := [n9, .int .i64 (x1)]) rfl fen2 (.cons rfl (.cons rfl .nil)) (fcl2 _ _ hfr.ch _ _ _ _ _  o9 (RV_int.2 rfl) d9) fun t9 nA oA hs hr => ?_)
    have hfr := hfr.ext hs
    obtain rfl := RV_int.1 hr
    refine EL_y (.bool ((x5 == (0 : Int)))) (P_int rfl rfl rfl) rfl rfl j1 rfl ?_
    refine EL_p (.bool ((x5 == (0 : Int)))) (P_pick (b := (decide (o0 < ((x0).length : Int)))) rfl (pick_t j1 rfl)) rfl ?_
    refine EL_at (.int .i64 (o0)) rfl rfl ?_
    refine EL_at (.bool ((x5 == (0 : Int)))) rfl rfl ?_
    refine EL_nil ?_
    obtain ⟨rfl, rfl⟩ := pairs2 h
    exact hQ _ _ ⟨t9, hfr, rfl, rfl⟩
   ·refine EL_s rfl rfl j1 rfl rfl ?_
    iterate 7 refine EL_s rfl rfl j1 rfl rfl ?_
    refine EL_p (.bool false) (P_pick (b := (decide (o0 < ((x0).length : Int)))) rfl (pick_f j1 rfl)) rfl ?_
    refine EL_at (.int .i64 (o0)) rfl rfl ?_
    refine EL_at (.bool false) rfl rfl ?_
    refine EL_nil ?_
    obtain ⟨rfl, rfl⟩ := pairs2 h
    exact hQ _ _ ⟨u7, hfr, rfl, rfl⟩
  ·clear hx
   obtain ⟨pA, hfr, l8, m8⟩ := hR
   refine E_ret ?_
   obtain rfl := sinj h
   exact end2 rfl rfl (show _ = .int .i64 (u3) from l8) (show _ = .bool (z3) from m8) ⟨_, hfr, _, _, rfl, rfl, rfl⟩
def f105 (x1 : It Int) : Option ((List Int)) :=
 Option.bind (α := (List Int)) (
  (x1 ((List Int)) (fun o3 i3 =>
   (apnd 8 o3 (([i3] : List Int))).bind fun i5 =>
   some (true, (i5))
   ) ((([] : List Int) : List Int))).bind fun u3 =>
  some (u3)
  ) fun j3 =>
 some (j3)
def f109 (x0 : List Int) : Option (Bool) :=
 some ((decide (((x0).length : Int) > (6 : Int))))
def f110 (x0 : List Int) (z0 : PaySheet) : Option (Bool) :=
 some ((((x0).length : Int) != ((((z0).PayTable).Down).length : Int)))
def f114 (x0 : List Int) (x1 : Int) (x2 : Int) (x3 : Int → Int → Option Int) : Option ((List Int)) :=
 lp (σ := (List Int) × Int) (fun k1 (y6, j3) =>
  jn (σ := Unit) (fun _ =>
   Option.bind (α := (List Int)) (
    lp (σ := (List Int) × Int) (fun m8 (j1, o0) =>
     jn (σ := Unit) (fun _ =>
      Option.bind (α := (List Int)) (
       (idx j1 (w64 (o0 - (1 : Int)))).bind fun j6 =>
       (idx j1 o0).bind fun a7 =>
       (idx j1 o0).bind fun aB =>
       (idx ((List.set j1 (Int.toNat o0) j6)) (w64 (o0 - (1 : Int)))).bind fun bB =>
       some ((List.set ((List.set j1 (Int.toNat o0) j6)) (Int.toNat (w64 (o0 - (1 : Int)))) a7))
       ) fun l5 =>
      m8 (l5, (w64 (o0 - (1 : Int))))
      ) fun n8 =>
     Option.bind (α := Bool) (
      bif (decide (o0 > x1)) then
       (idx j1 o0).bind fun b7 =>
       (idx j1 (w64 (o0 - (1 : Int)))).bind fun c7 =>
       (x3 b7 c7).bind fun i6 =>
       some ((decide (i6 < (0 : Int))))
      else
       some (false)
      ) fun u3 =>
     bif u3 then
      n8 ()
     else
      some (j1)
     ) big (y6, j3)
    ) fun q5 =>
   k1 (q5, (w64 (j3 + (1 : Int))))
   ) fun k4 =>
  bif (decide (j3 < x2)) then
   k4 ()
  else
   some (y6)
  ) big (x0, (w64 (x1 + (1 : Int))))
def f122 (x0 : List Int) (x1 : Int) (x2 : Int) : Option ((List Int)) :=
 lp (σ := (List Int) × Int × Int) (fun k1 (j1, o0, u0) =>
  jn (σ := Unit) (fun _ =>
   (idx j1 u0).bind fun y7 =>
   (idx j1 o0).bind fun y9 =>
   (idx j1 o0).bind fun y11 =>
   (idx ((List.set j1 (Int.toNat o0) y7)) u0).bind fun y6 =>
   k1 ((List.set ((List.set j1 (Int.toNat o0) y7)) (Int.toNat u0) y9), (w64 (o0 + (1 : Int))), (w64 (u0 - (1 : Int))))
   ) fun k4 =>
  bif (decide (o0 < u0)) then
   k4 ()
  else
   some (j1)
  ) big (x0, x1, (w64 (x2 - (1 : Int))))
def f124 (x0 : Int) (x1 : Int) : Option (Bool) :=
 Option.bind (α := Bool) (
  (f101 x0).bind fun y8 =>
  bif y8 then
   (f101 x1).bind fun y11 =>
   bif (!y11) then
    some (true)
   else
    some ((decide (x0 < x1)))
  else
   some ((decide (x0 < x1)))
  ) fun j1 =>
 some (j1)
theorem en124 : Enters Tryz.prog 124 := enters_of Tryz.func124 (by kernel_rfl) rfl
theorem wk124 {gI : Gh} {wI : World} {x0 : Int} {x1 : Int}  {r : Bool} (h : f124 x0 x1 = some r) : Fn Tryz.prog 124 #[.int .i64 (x0), .int .i64 (x1)] gI wI (fun _ _ v => v = .bool (r)) := by
 unfold f124 at h
 refine fn_of_E Tryz.func124 rfl (Nat.le_of_ble_eq_true rfl) fun g0 hm hfr => ?_
 show E _ 17 none _ _ _ _ _
 refine E_seq (E_region (EL_at (.bool false) rfl rfl ?_))
 refine EL_nil (thn_n ?_)
 obtain ⟨j1, hx, h⟩ := bsome h
 refine E_join (fun e w => ∃ (g : Gh) , Fr gI wI g w ∧ e 4 = .bool (j1)) (fun Q' hQ => ?_) (fun z3 i5 hR => ?_)
 ·replace h := hx
  clear hx
  refine E_region (EL_mw (.int .i64 (x0)) rfl rfl ?_)
  obtain ⟨y8, u3, h⟩ := bsome h
  refine EL_do .plain rfl (D_call (g := g0) (vs := [.int .i64 (x0)]) en101 (.cons rfl .nil) (wk101  u3) fun g7 w7_ v7 hs hr => ?_)
  have hfr := hfr.ext hs
  subst hr
  refine EL_mw (.bool (y8)) rfl rfl ?_
  rcases csome h with ⟨u0, h⟩ | ⟨u0, h⟩
  ·refine EL_y (.int .i64 (x1)) (P_move rfl) rfl rfl u0 rfl ?_
   obtain ⟨y11, o3, h⟩ := bsome h
   refine EL_do (.yes2 rfl rfl u0) rfl (D_call (g := g7) (vs := [.int .i64 (x1)]) en101 (.cons rfl .nil) (wk101  o3) fun j3 z4 l5 hs hr => ?_)
   have hfr := hfr.ext hs
   subst hr
   refine EL_y (.bool (!y11)) (P_not rfl) rfl rfl u0 rfl ?_
   refine EL_p (.bool (!y11)) (P_pick (b := y8) rfl (pick_t u0 rfl)) rfl ?_
   refine EL_mw (.bool (!y11)) rfl rfl ?_
   rcases csome h with ⟨o0, h⟩ | ⟨o0, h⟩
   ·refine EL_s rfl rfl o0 rfl rfl ?_
    refine EL_s rfl rfl o0 rfl rfl ?_
    refine EL_s rfl rfl o0 rfl rfl ?_
    refine EL_p (.bool true) (P_pick (b := (!y11)) rfl (pick_t o0 rfl)) rfl ?_
    refine EL_at (.bool true) rfl rfl ?_
    refine EL_nil ?_
    obtain rfl := sinj h
    exact hQ _ _ ⟨j3, hfr, rfl⟩
   ·refine EL_y (.int .i64 (x0)) (P_move rfl) rfl rfl o0 rfl ?_
    refine EL_y (.int .i64 (x1)) (P_move rfl) rfl rfl o0 rfl ?_
    refine EL_y (.bool ((decide (x0 < x1)))) (P_int rfl rfl rfl) rfl rfl o0 rfl ?_
    refine EL_p (.bool ((decide (x0 < x1)))) (P_pick (b := (!y11)) rfl (pick_f o0 rfl)) rfl ?_
    refine EL_at (.bool ((decide (x0 < x1)))) rfl rfl ?_
    refine EL_nil ?_
    obtain rfl := sinj h
    exact hQ _ _ ⟨j3, hfr, rfl⟩
  ·refine EL_s rfl rfl u0 rfl rfl ?_
   refine EL_s rfl rfl u0 rfl rfl ?_
   refine EL_s rfl rfl u0 rfl rfl ?_
   refine EL_p (.bool false) (P_pick (b := y8) rfl (pick_f u0 rfl)) rfl ?_
   refine EL_mw (.bool false) rfl rfl ?_
   refine EL_y (.int .i64 (x0)) (P_move rfl) rfl rfl rfl rfl ?_
   refine EL_y (.int .i64 (x1)) (P_move rfl) rfl rfl rfl rfl ?_
   refine EL_y (.bool ((decide (x0 < x1)))) (P_int rfl rfl rfl) rfl rfl rfl rfl ?_
   refine EL_p (.bool ((decide (x0 < x1)))) (P_pick (b := false) rfl (pick_f rfl rfl)) rfl ?_
   refine EL_at (.bool ((decide (x0 < x1)))) rfl rfl ?_
   refine EL_nil ?_
   obtain rfl := sinj h
   exact hQ _ _ ⟨g7, hfr, rfl⟩
 ·clear hx
  obtain ⟨q5, hfr, i3⟩ := hR
  refine E_ret ?_
  obtain rfl := sinj h
  exact end1 rfl rfl (show _ = .bool (j1) from i3) ⟨_, hfr, rfl⟩
def f125 (x0 : List Int) (x1 : Int) (x2 : Int) (x3 : Int) : Option (Int × (List Int)) :=
 (idx x0 x3).bind fun y1 =>
 (idx x0 x1).bind fun y3 =>
 (idx x0 x1).bind fun y5 =>
 (idx ((List.set x0 (Int.toNat x1) y1)) x3).bind fun oE =>
 Option.bind (α := (List Int) × Int) (
  lp (σ := (List Int) × Int × Int) (fun jC (j3, o9, o3) =>
   Option.bind (α := Int) (
    lp (σ := Int) (fun oA j1 =>
     jn (σ := Unit) (fun _ =>
      oA ((w64 (j1 + (1 : Int))))
      ) fun pA =>
     Option.bind (α := Bool) (
      bif (decide (j1 ≤ o3)) then
       (idx j3 x1).bind fun v7 =>
       (idx j3 j1).bind fun c8 =>
       (f124 v7 c8).bind fun y6 =>
       some ((!y6))
      else
       some (false)
      ) fun q5 =>
     bif q5 then
      pA ()
     else
      some (j1)
     ) big (o9)
    ) fun o0 =>
   Option.bind (α := Int) (
    lp (σ := Int) (fun qA u0 =>
     jn (σ := Unit) (fun _ =>
      qA ((w64 (u0 - (1 : Int))))
      ) fun rA =>
     Option.bind (α := Bool) (
      bif (decide (o0 ≤ u0)) then
       (idx j3 x1).bind fun g8 =>
       (idx j3 u0).bind fun i8 =>
       (f124 g8 i8).bind fun g7 =>
       some (g7)
      else
       some (false)
      ) fun t5 =>
     bif t5 then
      rA ()
     else
      some (u0)
     ) big (o3)
    ) fun i3 =>
   jn (σ := Unit) (fun _ =>
    (idx j3 i3).bind fun a7 =>
    (idx j3 o0).bind fun i7 =>
    (idx j3 o0).bind fun lD =>
    (idx ((List.set j3 (Int.toNat o0) a7)) i3).bind fun mD =>
    jC ((List.set ((List.set j3 (Int.toNat o0) a7)) (Int.toNat i3) i7), (w64 (o0 + (1 : Int))), (w64 (i3 - (1 : Int))))
    ) fun uA =>
   bif (decide (o0 > i3)) then
    some (j3, o0)
   else
    uA ()
   ) big ((List.set ((List.set x0 (Int.toNat x1) y1)) (Int.toNat x3) y3), (w64 (x1 + (1 : Int))), (w64 (x2 - (1 : Int))))
  ) fun (j7, i6) =>
 some (i6, j7)
def f126 (x0 : List Int) (x1 : Int) (x2 : Int) (x3 : Int) : Option (Int × Bool × (List Int)) :=
 (idx x0 x3).bind fun y1 =>
 (idx x0 x1).bind fun y3 =>
 (idx x0 x1).bind fun y5 =>
 (idx ((List.set x0 (Int.toNat x1) y1)) x3).bind fun cM =>
 Option.bind (α := Int) (
  lp (σ := Int) (fun xG z3 =>
   jn (σ := Unit) (fun _ =>
    xG ((w64 (z3 + (1 : Int))))
    ) fun yG =>
   Option.bind (α := Bool) (
    bif (decide (z3 ≤ (w64 (x2 - (1 : Int))))) then
     (idx ((List.set ((List.set x0 (Int.toNat x1) y1)) (Int.toNat x3) y3)) z3).bind fun rC =>
     (idx ((List.set ((List.set x0 (Int.toNat x1) y1)) (Int.toNat x3) y3)) x1).bind fun tC =>
     (f124 rC tC).bind fun qA =>
     some (qA)
    else
     some (false)
    ) fun n7 =>
   bif n7 then
    yG ()
   else
    some (z3)
   ) big ((w64 (x1 + (1 : Int))))
  ) fun u0 =>
 Option.bind (α := Int) (
  lp (σ := Int) (fun zG z4 =>
   jn (σ := Unit) (fun _ =>
    zG ((w64 (z4 - (1 : Int))))
    ) fun aH =>
   Option.bind (α := Bool) (
    bif (decide (u0 ≤ z4)) then
     (idx ((List.set ((List.set x0 (Int.toNat x1) y1)) (Int.toNat x3) y3)) z4).bind fun uC =>
     (idx ((List.set ((List.set x0 (Int.toNat x1) y1)) (Int.toNat x3) y3)) x1).bind fun vC =>
     (f124 uC vC).bind fun u9 =>
     some ((!u9))
    else
     some (false)
    ) fun o7 =>
   bif o7 then
    aH ()
   else
    some (z4)
   ) big ((w64 (x2 - (1 : Int))))
  ) fun j1 =>
 jn (σ := (List Int)) (fun u7 =>
  (idx u7 j1).bind fun rA =>
  (idx u7 u0).bind fun xC =>
  (idx u7 u0).bind fun xK =>
  (idx ((List.set u7 (Int.toNat u0) rA)) j1).bind fun yK =>
  Option.bind (α := (List Int) × Int) (
   lp (σ := (List Int) × Int × Int) (fun nE (o3, uA, i5) =>
    Option.bind (α := Int) (
     lp (σ := Int) (fun oE i3 =>
      jn (σ := Unit) (fun _ =>
       oE ((w64 (i3 + (1 : Int))))
       ) fun rE =>
      Option.bind (α := Bool) (
       bif (decide (i3 ≤ i5)) then
        (idx o3 i3).bind fun lA =>
        (idx o3 x1).bind fun mA =>
        (f124 lA mA).bind fun k9 =>
        some (k9)
       else
        some (false)
       ) fun e7 =>
      bif e7 then
       rE ()
      else
       some (i3)
      ) big (uA)
     ) fun o0 =>
    Option.bind (α := Int) (
     lp (σ := Int) (fun sE j3 =>
      jn (σ := Unit) (fun _ =>
       sE ((w64 (j3 - (1 : Int))))
       ) fun tE =>
      Option.bind (α := Bool) (
       bif (decide (o0 ≤ j3)) then
        (idx o3 j3).bind fun nA =>
        (idx o3 x1).bind fun oA =>
        (f124 nA oA).bind fun o8 =>
        some ((!o8))
       else
        some (false)
       ) fun g7 =>
      bif g7 then
       tE ()
      else
       some (j3)
      ) big (i5)
     ) fun u3 =>
    jn (σ := Unit) (fun _ =>
     (idx o3 u3).bind fun q8 =>
     (idx o3 o0).bind fun l9 =>
     (idx o3 o0).bind fun vI =>
     (idx ((List.set o3 (Int.toNat o0) q8)) u3).bind fun xI =>
     nE ((List.set ((List.set o3 (Int.toNat o0) q8)) (Int.toNat u3) l9), (w64 (o0 + (1 : Int))), (w64 (u3 - (1 : Int))))
     ) fun uE =>
    bif (decide (o0 > u3)) then
     some (o3, u3)
    else
     uE ()
    ) big ((List.set ((List.set u7 (Int.toNat u0) rA)) (Int.toNat j1) xC), (w64 (u0 + (1 : Int))), (w64 (j1 - (1 : Int))))
   ) fun (d7, l5) =>
  (idx d7 x1).bind fun n9 =>
  (idx d7 l5).bind fun pA =>
  (idx d7 l5).bind fun yI =>
  (idx ((List.set d7 (Int.toNat l5) n9)) x1).bind fun zI =>
  some (l5, false, (List.set ((List.set d7 (Int.toNat l5) n9)) (Int.toNat x1) pA))
  ) fun bH =>
 bif (decide (u0 > j1)) then
  (idx ((List.set ((List.set x0 (Int.toNat x1) y1)) (Int.toNat x3) y3)) x1).bind fun xA =>
  (idx ((List.set ((List.set x0 (Int.toNat x1) y1)) (Int.toNat x3) y3)) j1).bind fun yC =>
  (idx ((List.set ((List.set x0 (Int.toNat x1) y1)) (Int.toNat x3) y3)) j1).bind fun zK =>
  (idx ((List.set ((List.set ((List.set x0 (Int.toNat x1) y1)) (Int.toNat x3) y3)) (Int.toNat j1) xA)) x1).bind fun aL =>
  some (j1, true, (List.set ((List.set ((List.set ((List.set x0 (Int.toNat x1) y1)) (Int.toNat x3) y3)) (Int.toNat j1) xA)) (Int.toNat x1) yC))
 else
  bH ((List.set ((List.set x0 (Int.toNat x1) y1)) (Int.toNat x3) y3))
def f129 (x0 : List (List Int)) (x1 : (List Int) → Option Bool) : Option (Int) :=
 jn (σ := Unit) (fun _ =>
  some ((-1 : Int))
  ) fun k18 =>
 lp (σ := Int) (fun k19 o0 =>
  bif (decide (o0 < ((x0).length : Int))) then
   jn (σ := Unit) (fun _ =>
    k19 ((w64 (o0 + (1 : Int))))
    ) fun k28 =>
   (idx x0 o0).bind fun j6 =>
   (x1 j6).bind fun v6 =>
   bif v6 then
    some (o0)
   else
    k28 ()
  else
   k18 ()
  ) big ((0 : Int))
def f132 (x0 : List Int) (x1 : Int) (x2 : Int) (x3 : Int) : Option ((List Int)) :=
 lp (σ := (List Int) × Int) (fun k1 (i3, o0) =>
  jn (σ := Unit) (fun _ =>
   Option.bind (α := Int) (
    Option.bind (α := Bool) (
     bif (decide ((w64 ((w64 ((w64 ((2 : Int) * o0)) + (1 : Int))) + (1 : Int))) < x2)) then
      (idx i3 (w64 (x3 + (w64 ((w64 ((2 : Int) * o0)) + (1 : Int)))))).bind fun a7 =>
      (idx i3 (w64 ((w64 (x3 + (w64 ((w64 ((2 : Int) * o0)) + (1 : Int))))) + (1 : Int)))).bind fun b7 =>
      (f124 a7 b7).bind fun t5 =>
      some (t5)
     else
      some (false)
     ) fun z3 =>
    bif z3 then
     some ((w64 ((w64 ((w64 ((2 : Int) * o0)) + (1 : Int))) + (1 : Int))))
    else
     some ((w64 ((w64 ((2 : Int) * o0)) + (1 : Int))))
    ) fun u0 =>
   jn (σ := Unit) (fun _ =>
    (idx i3 (w64 (x3 + u0))).bind fun l5 =>
    (idx i3 (w64 (x3 + o0))).bind fun x5 =>
    (idx i3 (w64 (x3 + o0))).bind fun oA =>
    (idx ((List.set i3 (Int.toNat (w64 (x3 + o0))) l5)) (w64 (x3 + u0))).bind fun pA =>
    k1 ((List.set ((List.set i3 (Int.toNat (w64 (x3 + o0))) l5)) (Int.toNat (w64 (x3 + u0))) x5), u0)
    ) fun a9 =>
   (idx i3 (w64 (x3 + o0))).bind fun c7 =>
   (idx i3 (w64 (x3 + u0))).bind fun d7 =>
   (f124 c7 d7).bind fun i6 =>
   bif (!i6) then
    some (i3)
   else
    a9 ()
   ) fun k4 =>
  bif (decide ((w64 ((w64 ((2 : Int) * o0)) + (1 : Int))) ≥ x2)) then
   some (i3)
  else
   k4 ()
  ) big (x0, x1)
def f137 (x0 : List Int) (x1 : Int) (x2 : Int) (x3 : Int) (x4 : Int → Int → Option Int) : Option ((List Int)) :=
 lp (σ := (List Int) × Int) (fun k1 (u0, o0) =>
  jn (σ := Unit) (fun _ =>
   Option.bind (α := (List Int)) (
    (idx u0 (w64 (x2 + o0))).bind fun u3 =>
    (idx u0 (w64 (x1 + o0))).bind fun y44 =>
    (idx u0 (w64 (x1 + o0))).bind fun u7 =>
    (idx ((List.set u0 (Int.toNat (w64 (x1 + o0))) u3)) (w64 (x2 + o0))).bind fun v7 =>
    some ((List.set ((List.set u0 (Int.toNat (w64 (x1 + o0))) u3)) (Int.toNat (w64 (x2 + o0))) y44))
    ) fun j3 =>
   k1 (j3, (w64 (o0 + (1 : Int))))
   ) fun k4 =>
  bif (decide (o0 < x3)) then
   k4 ()
  else
   some (u0)
  ) big (x0, (0 : Int))
def f18 (x0 : PayList) : Option (Int) :=
 jn (σ := Unit) (fun _ =>
  jn (σ := Unit) (fun _ =>
   jn (σ := Unit) (fun _ =>
    jn (σ := Unit) (fun _ =>
     some ((0 : Int))
     ) fun rA =>
    Option.bind (α := Bool) (
     bif ((((x0).Rates).length : Int) == (0 : Int)) then
      some (true)
     else
      (f25 ((x0).Fine) ((0 : Int)) ((1000 : Int))).bind fun i7 =>
      bif (!i7) then
       some (true)
      else
       (f25 ((x0).Cap) ((0 : Int)) ((1000 : Int))).bind fun n8 =>
       some ((!n8))
     ) fun y6 =>
    bif y6 then
     some ((2 : Int))
    else
     rA ()
    ) fun uA =>
   lp (σ := Int) (fun xA x5 =>
    jn (σ := Unit) (fun _ =>
     jn (σ := Unit) (fun _ =>
      xA ((w64 (x5 + (1 : Int))))
      ) fun yA =>
     (idx ((x0).Extras) x5).bind fun n9 =>
     (f25 n9 ((0 : Int)) ((1000 : Int))).bind fun o9 =>
     bif (!o9) then
      some ((2 : Int))
     else
      yA ()
     ) fun zA =>
    bif (decide (x5 < (((x0).Extras).length : Int))) then
     zA ()
    else
     uA ()
    ) big ((0 : Int))
   ) fun aB =>
  lp (σ := Int) (fun bB o0 =>
   jn (σ := Unit) (fun _ =>
    jn (σ := Unit) (fun _ =>
     bB ((w64 (o0 + (1 : Int))))
     ) fun cB =>
    (idx ((x0).Rates) o0).bind fun u0 =>
    Option.bind (α := Bool) (
     (f25 ((u0).From) ((0 : Int)) ((1000 : Int))).bind fun o3 =>
     bif (!o3) then
      some (true)
     else
      (f25 ((u0).Rate) ((0 : Int)) ((10000 : Int))).bind fun j3 =>
      bif (!j3) then
       some (true)
      else
       bif (o0 == (0 : Int)) then
        bif ((u0).From != (0 : Int)) then
         some (true)
        else
         bif (decide (o0 > (0 : Int))) then
          (idx ((x0).Rates) (w64 (o0 - (1 : Int)))).bind fun o7 =>
          some ((decide ((u0).From ≤ (o7).From)))
         else
          some (false)
       else
        bif (decide (o0 > (0 : Int))) then
         (idx ((x0).Rates) (w64 (o0 - (1 : Int)))).bind fun u7 =>
         some ((decide ((u0).From ≤ (u7).From)))
        else
         some (false)
     ) fun a7 =>
    bif a7 then
     some ((2 : Int))
    else
     cB ()
    ) fun dB =>
   bif (decide (o0 < (((x0).Rates).length : Int))) then
    dB ()
   else
    aB ()
   ) big ((0 : Int))
  ) fun zF =>
 Option.bind (α := Bool) (
  bif (decide ((((x0).Rates).length : Int) > (6 : Int))) then
   some (true)
  else
   some ((decide ((((x0).Extras).length : Int) > (8 : Int))))
  ) fun n7 =>
 bif n7 then
  some ((5 : Int))
 else
  zF ()
theorem en18 : Enters Tryz.prog 18 := enters_of Tryz.func18 (by kernel_rfl) rfl
theorem wk18 {gI : Gh} {wI : World} {x0 : PayList} {up0 : Value} (rp0 : RV gI.m wI x0 up0) {r : Int} (h : f18 x0 = some r) : Fn Tryz.prog 18 #[up0] gI wI (fun _ _ v => v = .int .i64 (r)) := by
 unfold f18 at h
 refine fn_of_E Tryz.func18 rfl (Nat.le_of_ble_eq_true rfl) fun g0 hm hfr => ?_
 have rp0 : RV g0.m wI x0 up0 := hm ▸ rp0
 show E _ 93 none _ _ _ _ _
 refine E_seq (E_region (EL_do .plain rfl (D_box (g := g0) rfl rp0 fun g1 w1 p1 hs q1 => ?_)))
 have hfr := hfr.ext hs
 refine EL_at (.int .i64 (0)) rfl rfl ?_
 refine EL_nil (thn_n (E_joinC h (fun (s : Unit) e w => ∃ (g : Gh) , Fr gI wI g w ∧ e 1 = p1 ∧ PT g.m w (x0 : PayList) p1) (fun X14 zF aG h => ?_) ?_))
 ·obtain ⟨n7, hx, h⟩ := bsome h
  refine E_join (fun e w => ∃ (g : Gh) , Fr gI wI g w ∧ e 1 = p1 ∧ PT g.m w (x0 : PayList) p1 ∧ e 15 = .bool (n7)) (fun Q' hQ => ?_) (fun sI uI hR => ?_)
  ·replace h := hx
   clear hx
   refine E_region (EL_p (fPtr p1 0) (P_fieldAddr at_25_0 rfl (PT.ptr q1)) rfl ?_)
   have bG := PT_field (part_PayList_0).1 q1
   refine EL_do .plain rfl (D_load (g := g1) Tryz.isAgg22 Tryz.sizeOf22 rfl bG fun vI cG => ?_)
   refine EL_p (.int .i64 (((x0).Rates).length : Int)) (P_len Tryz.underlying22 rfl cG) rfl ?_
   refine EL_p (.bool ((decide ((((x0).Rates).length : Int) > (6 : Int))))) (P_int rfl rfl rfl) rfl ?_
   refine EL_p (.bool ((decide ((((x0).Rates).length : Int) > (6 : Int))))) (P_move rfl) rfl ?_
   rcases csome h with ⟨j7, h⟩ | ⟨j7, h⟩
   ·refine EL_s rfl rfl j7 rfl rfl ?_
    iterate 3 refine EL_s rfl rfl j7 rfl rfl ?_
    refine EL_p (.bool true) (P_pick (b := (decide ((((x0).Rates).length : Int) > (6 : Int)))) rfl (pick_t j7 rfl)) rfl ?_
    refine EL_nil ?_
    obtain rfl := sinj h
    exact hQ _ _ ⟨g1, hfr, rfl, q1, rfl⟩
   ·refine EL_y (fPtr p1 1) (P_fieldAddr at_25_1 rfl (PT.ptr q1)) rfl rfl j7 rfl ?_
    have dG := PT_field (part_PayList_1).1 q1
    refine EL_do (.yes2 rfl rfl j7) rfl (D_load (g := g1) Tryz.isAgg23 Tryz.sizeOf23 rfl dG fun xI eG => ?_)
    refine EL_y (.int .i64 (((x0).Extras).length : Int)) (P_len Tryz.underlying23 rfl eG) rfl rfl j7 rfl ?_
    refine EL_y (.bool ((decide ((((x0).Extras).length : Int) > (8 : Int))))) (P_int rfl rfl rfl) rfl rfl j7 rfl ?_
    refine EL_p (.bool ((decide ((((x0).Extras).length : Int) > (8 : Int))))) (P_pick (b := (decide ((((x0).Rates).length : Int) > (6 : Int)))) rfl (pick_f j7 rfl)) rfl ?_
    refine EL_nil ?_
    obtain rfl := sinj h
    exact hQ _ _ ⟨g1, hfr, rfl, q1, rfl⟩
  ·clear hx
   obtain ⟨gG, hfr, kD, lD, lA⟩ := hR
   rcases csome h with ⟨qA, h⟩ | ⟨qA, h⟩
   ·refine E_cond_true (Eq.trans (show ev _ _ = .bool (n7) from lA) (congrArg Value.bool qA)) ?_
    refine E_seq (E_region (EL_at (.int .i64 (5)) rfl rfl ?_))
    refine EL_nil (thn_n (E_ret (thn_r ?_)))
    obtain rfl := sinj h
    exact end1 rfl rfl (show _ = .int .i64 (5) from rfl) ⟨_, hfr, rfl⟩
   ·refine E_cond_false (Eq.trans (show ev _ _ = .bool (n7) from lA) (congrArg Value.bool qA)) ?_
    exact E_skip (thn_n (aG () _ _ ⟨gG, hfr, kD, lD⟩ h))
 ·rintro _ tI yI ⟨hG, hfr, mD, nD⟩ h
  refine E_joinC h (fun (s : Unit) e w => ∃ (g : Gh) , Fr gI wI g w ∧ e 1 = p1 ∧ PT g.m w (x0 : PayList) p1) (fun X1419 aB jC h => ?_) ?_
  ·refine E_seq (E_region (EL_at (.int .i64 (0)) rfl rfl ?_))
   refine EL_nil (thn_n (E_block ?_))
   refine E_lp h (fun (s : Int) e w => ∃ (g : Gh) , Fr gI wI g w ∧ e 1 = p1 ∧ PT g.m w (x0 : PayList) p1 ∧ e 3 = .int .i64 (s)) ⟨hG, hfr, mD, nD, rfl⟩ (fun X1420 bB kC => ?_)
   rintro o0 iG xG ⟨t9, hfr, k8, v7, e9⟩ h
   refine E_joinC h (fun (s : Unit) e w => ∃ (g : Gh) , Fr gI wI g w ∧ e 1 = p1 ∧ PT g.m w (x0 : PayList) p1 ∧ e 3 = .int .i64 (o0)) (fun X1425 dB lC h => ?_) ?_
   ·refine E_seq (E_region (EL_mv e9 rfl ?_))
    refine EL_p (fPtr p1 0) (P_fieldAddr at_25_0 k8 (PT.ptr v7)) rfl ?_
    have oD := PT_field (part_PayList_0).1 v7
    refine EL_do .plain rfl (D_load (g := t9) Tryz.isAgg22 Tryz.sizeOf22 rfl oD fun yG sD => ?_)
    refine EL_p (.int .i64 (((x0).Rates).length : Int)) (P_len Tryz.underlying22 rfl sD) rfl ?_
    refine EL_p (.bool ((decide (o0 < (((x0).Rates).length : Int))))) (P_int rfl rfl rfl) rfl ?_
    refine EL_nil (thn_n ?_)
    rcases csome h with ⟨q8, h⟩ | ⟨q8, h⟩
    ·refine E_ct q8 rfl ?_
     exact E_skip (thn_n (lC () _ _ ⟨t9, hfr, k8, v7, e9⟩ h))
    ·refine E_cf q8 rfl ?_
     refine E_exit ?_
     refine thn_e ?_
     refine thn_e ?_
     refine blk_hit ?_
     exact thn_n (jC () _ _ ⟨t9, hfr, k8, v7⟩ h)
   ·rintro _ jG zG ⟨u9, hfr, i6, j1, z3⟩ h
    refine E_joinC h (fun (s : Unit) e w => ∃ (g : Gh) , Fr gI wI g w ∧ e 1 = p1 ∧ PT g.m w (x0 : PayList) p1 ∧ e 3 = .int .i64 (o0)) (fun X2119 cB mC h => ?_) ?_
    ·refine E_block ?_
     refine E_seq (E_region (EL_p (fPtr p1 0) (P_fieldAddr at_25_0 i6 (PT.ptr j1)) rfl ?_))
     have tD := PT_field (part_PayList_0).1 j1
     refine EL_do .plain rfl (D_load (g := u9) Tryz.isAgg22 Tryz.sizeOf22 rfl tD fun uD eB => ?_)
     refine EL_mv z3 rfl ?_
     obtain ⟨u0, mA, h⟩ := bsome h
     refine EL_p (ePtr uD o0 2) (P_indexAddr (α := PayRate) Tryz.underlying22 Tryz.sizeOf87 rfl eB rfl mA) rfl ?_
     have vD := PT_idx eB mA
     refine EL_do .plain rfl (D_load (g := u9) Tryz.isAgg87 Tryz.sizeOf87 rfl vD fun xD y9 => ?_)
     refine EL_do .plain rfl (D_allocOc (g := u9) 2004 (⟨0, 0⟩ : PayRate) Tryz.zeroValue87 (fun m w => ⟨_, (rep_two rep_int rep_int), rfl⟩) fun yD aH i5 hs b2125 cb => ?_)
     have hfr := hfr.stp hs
     have j1 := j1.stp hs
     have y9 := y9.stp hs
     clear cb
     refine EL_do .plain rfl (D_storeOc (g := yD) (v := xD) Tryz.sizeOf87 rfl b2125 rfl y9 fun m7 bH hs b2126 cb => ?_)
     clear cb
     have hfr := hfr.stp hs
     have j1 := j1.stp hs
     refine EL_nil (thn_n ?_)
     obtain ⟨a7, hx, h⟩ := bsome h
     refine E_join (fun e w => ∃ (g : Gh) , Fr gI wI g w ∧ e 1 = p1 ∧ PT g.m w (x0 : PayList) p1 ∧ e 3 = .int .i64 (o0) ∧ e 62 = .bool (a7)) (fun Q' hQ => ?_) (fun kG cH hR => ?_)
     ·replace h := hx
      clear hx
      refine L_loadO (x := .tmp 28) part_PayRate_0.1 Tryz.isAgg3 Tryz.sizeOf3 b2126 fun dH zD b7 => ?_
      obtain rfl := RV_int.1 zD
      obtain ⟨o3, c7, h⟩ := bsome h
      rcases csome h with ⟨i3, h⟩ | ⟨i3, h⟩
      ·refine E_drawL (g := m7) (n := 35) [(2, (fun v g w => v = .bool (o3)))] [0, 1, 2, 3, 4, 5, 6, 7, 8, 9, 10, 11, 12, 13, 14, 15, 16, 17, 18, 19, 20, 21, 22, 23, 24, 25, 26, 27, 28, 29, 30, 31, 32, 33, 34] rfl mixed (by kernel_rfl) (⟨fun _ => up_eq _, trivial⟩) ?_
       refine L_p (fPtr i5 0) rfl rfl (P_fieldAddr at_87_0 rfl (OB.ptr b2126)) ?_
       refine L_ld (c := .int .i64 ((u0).From)) rfl rfl .plain (fun _ _ h => ⟨h.ch, fun b hb _ => h.below.block b hb⟩) b7 rfl ?_
       refine L_do (φ := fun v g w => v = .bool (o3)) rfl rfl .plain (fun g w hd => D_call (g := g) (vs := [.int .i64 ((u0).From), .int .i64 (0), .int .i64 (1000)]) en25 (.cons rfl (.cons rfl (.cons rfl .nil))) (wk25  c7) fun g' w' v hs hr => ⟨g', hs, hr⟩) (fun c8 hv => ?_)
       obtain ⟨_, _, _, rfl⟩ := hv
       refine L_p (.bool (!o3)) rfl rfl (P_not rfl) ?_
       refine L_p (.bool (!o3)) rfl rfl (P_move rfl) ?_
       iterate 4 refine L_s rfl rfl rfl i3 rfl ?_
       refine L_p (.bool true) rfl rfl (P_pick (b := (!o3)) rfl (pick_t i3 rfl)) ?_
       refine L_dead (fun _ => rfl) 25 rfl ?_
       refine L_nl fun aE gH hs => ?_
       have hfr := hfr.ext hs
       have j1 := j1.ext hs
       clear hs
       refine EL_nil ?_
       obtain rfl := sinj h
       exact hQ _ _ ⟨aE, hfr, i6, j1, z3, rfl⟩
      ·refine L_loadO (x := .tmp 33) part_PayRate_1.1 Tryz.isAgg3 Tryz.sizeOf3 b2126 fun iH bE d7 => ?_
       obtain rfl := RV_int.1 bE
       obtain ⟨j3, e7, h⟩ := bsome h
       rcases csome h with ⟨u3, h⟩ | ⟨u3, h⟩
       ·refine E_drawL (g := m7) (n := 35) [(2, (fun v g w => v = .bool (o3))), (7, (fun v g w => v = .bool (j3)))] [0, 1, 2, 3, 4, 5, 6, 7, 8, 9, 10, 11, 12, 13, 14, 15, 16, 17, 18, 19, 20, 21, 22, 23, 24, 25, 26, 27, 28, 29, 30, 31, 32, 33, 34] rfl mixed (by kernel_rfl) (⟨fun _ => up_eq _, fun _ => up_eq _, trivial⟩) ?_
        refine L_p (fPtr i5 0) rfl rfl (P_fieldAddr at_87_0 rfl (OB.ptr b2126)) ?_
        refine L_ld (c := .int .i64 ((u0).From)) rfl rfl .plain (fun _ _ h => ⟨h.ch, fun b hb _ => h.below.block b hb⟩) b7 rfl ?_
        refine L_do (φ := fun v g w => v = .bool (o3)) rfl rfl .plain (fun g w hd => D_call (g := g) (vs := [.int .i64 ((u0).From), .int .i64 (0), .int .i64 (1000)]) en25 (.cons rfl (.cons rfl (.cons rfl .nil))) (wk25  c7) fun g' w' v hs hr => ⟨g', hs, hr⟩) (fun c8 hv => ?_)
        obtain ⟨_, _, _, rfl⟩ := hv
        refine L_p (.bool (!o3)) rfl rfl (P_not rfl) ?_
        refine L_p (.bool (!o3)) rfl rfl (P_move rfl) ?_
        refine L_y (fPtr i5 1) rfl rfl rfl rfl i3 (P_fieldAddr at_87_1 rfl (OB.ptr b2126)) ?_
        refine L_ld (c := .int .i64 ((u0).Rate)) rfl rfl (.yes2 rfl rfl i3) (fun _ _ h => ⟨h.ch, fun b hb _ => h.below.block b hb⟩) d7 rfl ?_
        refine L_do (φ := fun v g w => v = .bool (j3)) rfl rfl (.yes2 rfl rfl i3) (fun g w hd => D_call (g := g) (vs := [.int .i64 ((u0).Rate), .int .i64 (0), .int .i64 (10000)]) en25 (.cons rfl (.cons rfl (.cons rfl .nil))) (wk25  e7) fun g' w' v hs hr => ⟨g', hs, hr⟩) (fun i8 hv => ?_)
        obtain ⟨_, _, _, rfl⟩ := hv
        refine L_y (.bool (!j3)) rfl rfl rfl rfl i3 (P_not rfl) ?_
        refine L_p (.bool (!j3)) rfl rfl (P_pick (b := (!o3)) rfl (pick_f i3 rfl)) ?_
        refine L_p (.bool (!j3)) rfl rfl (P_move rfl) ?_
        iterate 3 refine L_s rfl rfl rfl u3 rfl ?_
        refine L_dead (fun _ => rfl) 3 rfl ?_
        refine L_s rfl rfl rfl u3 rfl ?_
        refine L_p (.bool true) rfl rfl (P_pick (b := (!j3)) rfl (pick_t u3 rfl)) ?_
        refine L_dead (fun _ => rfl) 16 rfl ?_
        refine L_nl fun cE jH hs => ?_
        have hfr := hfr.ext hs
        have j1 := j1.ext hs
        clear hs
        refine EL_nil ?_
        obtain rfl := sinj h
        exact hQ _ _ ⟨cE, hfr, i6, j1, z3, rfl⟩
       ·rcases csome h with ⟨z4, h⟩ | ⟨z4, h⟩
        ·refine L_loadO (x := .tmp 42) part_PayRate_0.1 Tryz.isAgg3 Tryz.sizeOf3 b2126 fun kH dE r8 => ?_
         obtain rfl := RV_int.1 dE
         rcases csome h with ⟨l5, h⟩ | ⟨l5, h⟩
         ·refine E_drawL (g := m7) (n := 35) [(2, (fun v g w => v = .bool (o3))), (7, (fun v g w => v = .bool (j3)))] [0, 1, 2, 3, 4, 5, 6, 7, 8, 9, 10, 11, 12, 13, 14, 15, 16, 17, 18, 19, 20, 21, 22, 23, 24, 25, 26, 27, 28, 29, 30, 31, 32, 33, 34] rfl mixed (by kernel_rfl) (⟨fun _ => up_eq _, fun _ => up_eq _, trivial⟩) ?_
          refine L_p (fPtr i5 0) rfl rfl (P_fieldAddr at_87_0 rfl (OB.ptr b2126)) ?_
          refine L_ld (c := .int .i64 ((u0).From)) rfl rfl .plain (fun _ _ h => ⟨h.ch, fun b hb _ => h.below.block b hb⟩) b7 rfl ?_
          refine L_do (φ := fun v g w => v = .bool (o3)) rfl rfl .plain (fun g w hd => D_call (g := g) (vs := [.int .i64 ((u0).From), .int .i64 (0), .int .i64 (1000)]) en25 (.cons rfl (.cons rfl (.cons rfl .nil))) (wk25  c7) fun g' w' v hs hr => ⟨g', hs, hr⟩) (fun c8 hv => ?_)
          obtain ⟨_, _, _, rfl⟩ := hv
          refine L_p (.bool (!o3)) rfl rfl (P_not rfl) ?_
          refine L_p (.bool (!o3)) rfl rfl (P_move rfl) ?_
          refine L_y (fPtr i5 1) rfl rfl rfl rfl i3 (P_fieldAddr at_87_1 rfl (OB.ptr b2126)) ?_
          refine L_ld (c := .int .i64 ((u0).Rate)) rfl rfl (.yes2 rfl rfl i3) (fun _ _ h => ⟨h.ch, fun b hb _ => h.below.block b hb⟩) d7 rfl ?_
          refine L_do (φ := fun v g w => v = .bool (j3)) rfl rfl (.yes2 rfl rfl i3) (fun g w hd => D_call (g := g) (vs := [.int .i64 ((u0).Rate), .int .i64 (0), .int .i64 (10000)]) en25 (.cons rfl (.cons rfl (.cons rfl .nil))) (wk25  e7) fun g' w' v hs hr => ⟨g', hs, hr⟩) (fun i8 hv => ?_)
          obtain ⟨_, _, _, rfl⟩ := hv
          refine L_y (.bool (!j3)) rfl rfl rfl rfl i3 (P_not rfl) ?_
          refine L_p (.bool (!j3)) rfl rfl (P_pick (b := (!o3)) rfl (pick_f i3 rfl)) ?_
          refine L_p (.bool (!j3)) rfl rfl (P_move rfl) ?_
          refine L_y (.int .i64 (o0)) rfl rfl rfl rfl u3 (P_move z3) ?_
          refine L_y (.bool ((o0 == (0 : Int)))) rfl rfl rfl rfl u3 (P_int rfl rfl rfl) ?_
          refine L_y (.bool ((o0 == (0 : Int)))) rfl rfl rfl rfl u3 (P_move rfl) ?_
          refine L_y (fPtr i5 0) rfl rfl rfl rfl z4 (P_fieldAddr at_87_0 rfl (OB.ptr b2126)) ?_
          refine L_ld (c := .int .i64 ((u0).From)) rfl rfl (.yes2 rfl rfl z4) (fun _ _ h => ⟨h.ch, fun b hb _ => h.below.block b hb⟩) r8 rfl ?_
          refine L_y (.bool (((u0).From != (0 : Int)))) rfl rfl rfl rfl z4 (P_int rfl rfl rfl) ?_
          refine L_y (.bool (((u0).From != (0 : Int)))) rfl rfl rfl rfl u3 (P_pick (b := (o0 == (0 : Int))) rfl (pick_t z4 rfl)) ?_
          refine L_p (.bool (((u0).From != (0 : Int)))) rfl rfl (P_pick (b := (!j3)) rfl (pick_f u3 rfl)) ?_
          refine L_p (.bool (((u0).From != (0 : Int)))) rfl rfl (P_move rfl) ?_
          iterate 3 refine L_s rfl rfl rfl l5 rfl ?_
          refine L_dead (fun _ => rfl) 10 rfl ?_
          refine L_s rfl rfl rfl l5 rfl ?_
          refine L_p (.bool true) rfl rfl (P_pick (b := ((u0).From != (0 : Int))) rfl (pick_t l5 rfl)) ?_
          refine L_nl fun eE lH hs => ?_
          have hfr := hfr.ext hs
          have j1 := j1.ext hs
          clear hs
          refine EL_nil ?_
          obtain rfl := sinj h
          exact hQ _ _ ⟨eE, hfr, i6, j1, z3, rfl⟩
         ·rcases csome h with ⟨q5, h⟩ | ⟨q5, h⟩
          ·refine L_loadO (x := .tmp 51) part_PayRate_0.1 Tryz.isAgg3 Tryz.sizeOf3 b2126 fun mH gE qC => ?_
           obtain rfl := RV_int.1 gE
           have iE := PT_field (part_PayList_0).1 j1
           refine L_load (x := .tmp 53) Tryz.isAgg22 Tryz.sizeOf22 iE fun z9 iB rC => ?_
           obtain ⟨o7, nA, h⟩ := bsome h
           have jB := PT_idx iB nA
           have jE := PT_field (part_PayRate_0).1 jB
           refine L_load (x := .tmp 58) Tryz.isAgg3 Tryz.sizeOf3 jE fun nH kE tC => ?_
           obtain rfl := RV_int.1 kE
           refine E_drawL (g := m7) (n := 35) [(2, (fun v g w => v = .bool (o3))), (7, (fun v g w => v = .bool (j3)))] [0, 1, 2, 3, 4, 5, 6, 7, 8, 9, 10, 11, 12, 13, 14, 15, 16, 17, 18, 19, 20, 21, 22, 23, 24, 25, 26, 27, 28, 29, 30, 31, 32, 33, 34] rfl mixed (by kernel_rfl) (⟨fun _ => up_eq _, fun _ => up_eq _, trivial⟩) ?_
           refine L_p (fPtr i5 0) rfl rfl (P_fieldAddr at_87_0 rfl (OB.ptr b2126)) ?_
           refine L_ld (c := .int .i64 ((u0).From)) rfl rfl .plain (fun _ _ h => ⟨h.ch, fun b hb _ => h.below.block b hb⟩) b7 rfl ?_
           refine L_do (φ := fun v g w => v = .bool (o3)) rfl rfl .plain (fun g w hd => D_call (g := g) (vs := [.int .i64 ((u0).From), .int .i64 (0), .int .i64 (1000)]) en25 (.cons rfl (.cons rfl (.cons rfl .nil))) (wk25  c7) fun g' w' v hs hr => ⟨g', hs, hr⟩) (fun c8 hv => ?_)
           obtain ⟨_, _, _, rfl⟩ := hv
           refine L_p (.bool (!o3)) rfl rfl (P_not rfl) ?_
           refine L_p (.bool (!o3)) rfl rfl (P_move rfl) ?_
           refine L_y (fPtr i5 1) rfl rfl rfl rfl i3 (P_fieldAddr at_87_1 rfl (OB.ptr b2126)) ?_
           refine L_ld (c := .int .i64 ((u0).Rate)) rfl rfl (.yes2 rfl rfl i3) (fun _ _ h => ⟨h.ch, fun b hb _ => h.below.block b hb⟩) d7 rfl ?_
           refine L_do (φ := fun v g w => v = .bool (j3)) rfl rfl (.yes2 rfl rfl i3) (fun g w hd => D_call (g := g) (vs := [.int .i64 ((u0).Rate), .int .i64 (0), .int .i64 (10000)]) en25 (.cons rfl (.cons rfl (.cons rfl .nil))) (wk25  e7) fun g' w' v hs hr => ⟨g', hs, hr⟩) (fun i8 hv => ?_)
           obtain ⟨_, _, _, rfl⟩ := hv
           refine L_y (.bool (!j3)) rfl rfl rfl rfl i3 (P_not rfl) ?_
           refine L_p (.bool (!j3)) rfl rfl (P_pick (b := (!o3)) rfl (pick_f i3 rfl)) ?_
           refine L_p (.bool (!j3)) rfl rfl (P_move rfl) ?_
           refine L_y (.int .i64 (o0)) rfl rfl rfl rfl u3 (P_move z3) ?_
           refine L_y (.bool ((o0 == (0 : Int)))) rfl rfl rfl rfl u3 (P_int rfl rfl rfl) ?_
           refine L_y (.bool ((o0 == (0 : Int)))) rfl rfl rfl rfl u3 (P_move rfl) ?_
           refine L_y (fPtr i5 0) rfl rfl rfl rfl z4 (P_fieldAddr at_87_0 rfl (OB.ptr b2126)) ?_
           refine L_ld (c := .int .i64 ((u0).From)) rfl rfl (.yes2 rfl rfl z4) (fun _ _ h => ⟨h.ch, fun b hb _ => h.below.block b hb⟩) r8 rfl ?_
           refine L_y (.bool (((u0).From != (0 : Int)))) rfl rfl rfl rfl z4 (P_int rfl rfl rfl) ?_
           refine L_y (.bool (((u0).From != (0 : Int)))) rfl rfl rfl rfl u3 (P_pick (b := (o0 == (0 : Int))) rfl (pick_t z4 rfl)) ?_
           refine L_p (.bool (((u0).From != (0 : Int)))) rfl rfl (P_pick (b := (!j3)) rfl (pick_f u3 rfl)) ?_
           refine L_p (.bool (((u0).From != (0 : Int)))) rfl rfl (P_move rfl) ?_
           refine L_y (.int .i64 (o0)) rfl rfl rfl rfl l5 (P_move z3) ?_
           refine L_y (.bool ((decide (o0 > (0 : Int))))) rfl rfl rfl rfl l5 (P_int rfl rfl rfl) ?_
           refine L_y (.bool ((decide (o0 > (0 : Int))))) rfl rfl rfl rfl l5 (P_move rfl) ?_
           refine L_y (fPtr i5 0) rfl rfl rfl rfl q5 (P_fieldAddr at_87_0 rfl (OB.ptr b2126)) ?_
           refine L_ld (c := .int .i64 ((u0).From)) rfl rfl (.yes2 rfl rfl q5) (fun _ _ h => ⟨h.ch, fun b hb _ => h.below.block b hb⟩) qC rfl ?_
           refine L_y (fPtr p1 0) rfl rfl rfl rfl q5 (P_fieldAddr at_25_0 i6 (PT.ptr j1)) ?_
           refine L_ld (c := z9) rfl rfl (.yes2 rfl rfl q5) (fun _ _ h => h.ch) rC rfl ?_
           refine L_y (.int .i64 (o0)) rfl rfl rfl rfl q5 (P_move z3) ?_
           refine L_y (.int .i64 ((w64 (o0 - (1 : Int))))) rfl rfl rfl rfl q5 (P_int rfl rfl rfl) ?_
           refine L_y (ePtr z9 (w64 (o0 - (1 : Int))) 2) rfl rfl rfl rfl q5 (P_indexAddr (α := PayRate) Tryz.underlying22 Tryz.sizeOf87 rfl iB rfl nA) ?_
           refine L_y (fPtr (ePtr z9 (w64 (o0 - (1 : Int))) 2) 0) rfl rfl rfl rfl q5 (P_fieldAddr at_87_0 rfl (PT.ptr jB)) ?_
           refine L_ld (c := .int .i64 ((o7).From)) rfl rfl (.yes2 rfl rfl q5) (fun _ _ h => h.ch) tC rfl ?_
           refine L_y (.bool ((decide ((u0).From ≤ (o7).From)))) rfl rfl rfl rfl q5 (P_int rfl rfl rfl) ?_
           refine L_y (.bool ((decide ((u0).From ≤ (o7).From)))) rfl rfl rfl rfl l5 (P_pick (b := (decide (o0 > (0 : Int)))) rfl (pick_t q5 rfl)) ?_
           refine L_p (.bool ((decide ((u0).From ≤ (o7).From)))) rfl rfl (P_pick (b := ((u0).From != (0 : Int))) rfl (pick_f l5 rfl)) ?_
           refine L_nl fun lE oH hs => ?_
           have hfr := hfr.ext hs
           have j1 := j1.ext hs
           clear hs
           refine EL_nil ?_
           obtain rfl := sinj h
           exact hQ _ _ ⟨lE, hfr, i6, j1, z3, rfl⟩
          ·refine E_drawL (g := m7) (n := 35) [(2, (fun v g w => v = .bool (o3))), (7, (fun v g w => v = .bool (j3)))] [0, 1, 2, 3, 4, 5, 6, 7, 8, 9, 10, 11, 12, 13, 14, 15, 16, 17, 18, 19, 20, 21, 22, 23, 24, 25, 26, 27, 28, 29, 30, 31, 32, 33, 34] rfl mixed (by kernel_rfl) (⟨fun _ => up_eq _, fun _ => up_eq _, trivial⟩) ?_
           refine L_p (fPtr i5 0) rfl rfl (P_fieldAddr at_87_0 rfl (OB.ptr b2126)) ?_
           refine L_ld (c := .int .i64 ((u0).From)) rfl rfl .plain (fun _ _ h => ⟨h.ch, fun b hb _ => h.below.block b hb⟩) b7 rfl ?_
           refine L_do (φ := fun v g w => v = .bool (o3)) rfl rfl .plain (fun g w hd => D_call (g := g) (vs := [.int .i64 ((u0).From), .int .i64 (0), .int .i64 (1000)]) en25 (.cons rfl (.cons rfl (.cons rfl .nil))) (wk25  c7) fun g' w' v hs hr => ⟨g', hs, hr⟩) (fun c8 hv => ?_)
           obtain ⟨_, _, _, rfl⟩ := hv
           refine L_p (.bool (!o3)) rfl rfl (P_not rfl) ?_
           refine L_p (.bool (!o3)) rfl rfl (P_move rfl) ?_
           refine L_y (fPtr i5 1) rfl rfl rfl rfl i3 (P_fieldAddr at_87_1 rfl (OB.ptr b2126)) ?_
           refine L_ld (c := .int .i64 ((u0).Rate)) rfl rfl (.yes2 rfl rfl i3) (fun _ _ h => ⟨h.ch, fun b hb _ => h.below.block b hb⟩) d7 rfl ?_
           refine L_do (φ := fun v g w => v = .bool (j3)) rfl rfl (.yes2 rfl rfl i3) (fun g w hd => D_call (g := g) (vs := [.int .i64 ((u0).Rate), .int .i64 (0), .int .i64 (10000)]) en25 (.cons rfl (.cons rfl (.cons rfl .nil))) (wk25  e7) fun g' w' v hs hr => ⟨g', hs, hr⟩) (fun i8 hv => ?_)
           obtain ⟨_, _, _, rfl⟩ := hv
           refine L_y (.bool (!j3)) rfl rfl rfl rfl i3 (P_not rfl) ?_
           refine L_p (.bool (!j3)) rfl rfl (P_pick (b := (!o3)) rfl (pick_f i3 rfl)) ?_
           refine L_p (.bool (!j3)) rfl rfl (P_move rfl) ?_
           refine L_y (.int .i64 (o0)) rfl rfl rfl rfl u3 (P_move z3) ?_
           refine L_y (.bool ((o0 == (0 : Int)))) rfl rfl rfl rfl u3 (P_int rfl rfl rfl) ?_
           refine L_y (.bool ((o0 == (0 : Int)))) rfl rfl rfl rfl u3 (P_move rfl) ?_
           refine L_y (fPtr i5 0) rfl rfl rfl rfl z4 (P_fieldAddr at_87_0 rfl (OB.ptr b2126)) ?_
           refine L_ld (c := .int .i64 ((u0).From)) rfl rfl (.yes2 rfl rfl z4) (fun _ _ h => ⟨h.ch, fun b hb _ => h.below.block b hb⟩) r8 rfl ?_
           refine L_y (.bool (((u0).From != (0 : Int)))) rfl rfl rfl rfl z4 (P_int rfl rfl rfl) ?_
           refine L_y (.bool (((u0).From != (0 : Int)))) rfl rfl rfl rfl u3 (P_pick (b := (o0 == (0 : Int))) rfl (pick_t z4 rfl)) ?_
           refine L_p (.bool (((u0).From != (0 : Int)))) rfl rfl (P_pick (b := (!j3)) rfl (pick_f u3 rfl)) ?_
           refine L_p (.bool (((u0).From != (0 : Int)))) rfl rfl (P_move rfl) ?_
           refine L_y (.int .i64 (o0)) rfl rfl rfl rfl l5 (P_move z3) ?_
           refine L_y (.bool ((decide (o0 > (0 : Int))))) rfl rfl rfl rfl l5 (P_int rfl rfl rfl) ?_
           refine L_y (.bool ((decide (o0 > (0 : Int))))) rfl rfl rfl rfl l5 (P_move rfl) ?_
           iterate 10 refine L_s rfl rfl rfl q5 rfl ?_
           refine L_y (.bool false) rfl rfl rfl rfl l5 (P_pick (b := (decide (o0 > (0 : Int)))) rfl (pick_f q5 rfl)) ?_
           refine L_p (.bool false) rfl rfl (P_pick (b := ((u0).From != (0 : Int))) rfl (pick_f l5 rfl)) ?_
           refine L_nl fun mE pH hs => ?_
           have hfr := hfr.ext hs
           have j1 := j1.ext hs
           clear hs
           refine EL_nil ?_
           obtain rfl := sinj h
           exact hQ _ _ ⟨mE, hfr, i6, j1, z3, rfl⟩
        ·rcases csome h with ⟨t5, h⟩ | ⟨t5, h⟩
         ·refine L_loadO (x := .tmp 51) part_PayRate_0.1 Tryz.isAgg3 Tryz.sizeOf3 b2126 fun qH nE uC => ?_
          obtain rfl := RV_int.1 nE
          have oE := PT_field (part_PayList_0).1 j1
          refine L_load (x := .tmp 53) Tryz.isAgg22 Tryz.sizeOf22 oE fun bA lB vC => ?_
          obtain ⟨u7, oA, h⟩ := bsome h
          have mB := PT_idx lB oA
          have rE := PT_field (part_PayRate_0).1 mB
          refine L_load (x := .tmp 58) Tryz.isAgg3 Tryz.sizeOf3 rE fun sH sE xC => ?_
          obtain rfl := RV_int.1 sE
          refine E_drawL (g := m7) (n := 35) [(2, (fun v g w => v = .bool (o3))), (7, (fun v g w => v = .bool (j3)))] [0, 1, 2, 3, 4, 5, 6, 7, 8, 9, 10, 11, 12, 13, 14, 15, 16, 17, 18, 19, 20, 21, 22, 23, 24, 25, 26, 27, 28, 29, 30, 31, 32, 33, 34] rfl mixed (by kernel_rfl) (⟨fun _ => up_eq _, fun _ => up_eq _, trivial⟩) ?_
          refine L_p (fPtr i5 0) rfl rfl (P_fieldAddr at_87_0 rfl (OB.ptr b2126)) ?_
          refine L_ld (c := .int .i64 ((u0).From)) rfl rfl .plain (fun _ _ h => ⟨h.ch, fun b hb _ => h.below.block b hb⟩) b7 rfl ?_
          refine L_do (φ := fun v g w => v = .bool (o3)) rfl rfl .plain (fun g w hd => D_call (g := g) (vs := [.int .i64 ((u0).From), .int .i64 (0), .int .i64 (1000)]) en25 (.cons rfl (.cons rfl (.cons rfl .nil))) (wk25  c7) fun g' w' v hs hr => ⟨g', hs, hr⟩) (fun c8 hv => ?_)
          obtain ⟨_, _, _, rfl⟩ := hv
          refine L_p (.bool (!o3)) rfl rfl (P_not rfl) ?_
          refine L_p (.bool (!o3)) rfl rfl (P_move rfl) ?_
          refine L_y (fPtr i5 1) rfl rfl rfl rfl i3 (P_fieldAddr at_87_1 rfl (OB.ptr b2126)) ?_
          refine L_ld (c := .int .i64 ((u0).Rate)) rfl rfl (.yes2 rfl rfl i3) (fun _ _ h => ⟨h.ch, fun b hb _ => h.below.block b hb⟩) d7 rfl ?_
          refine L_do (φ := fun v g w => v = .bool (j3)) rfl rfl (.yes2 rfl rfl i3) (fun g w hd => D_call (g := g) (vs := [.int .i64 ((u0).Rate), .int .i64 (0), .int .i64 (10000)]) en25 (.cons rfl (.cons rfl (.cons rfl .nil))) (wk25  e7) fun g' w' v hs hr => ⟨g', hs, hr⟩) (fun i8 hv => ?_)
          obtain ⟨_, _, _, rfl⟩ := hv
          refine L_y (.bool (!j3)) rfl rfl rfl rfl i3 (P_not rfl) ?_
          refine L_p (.bool (!j3)) rfl rfl (P_pick (b := (!o3)) rfl (pick_f i3 rfl)) ?_
          refine L_p (.bool (!j3)) rfl rfl (P_move rfl) ?_
          refine L_y (.int .i64 (o0)) rfl rfl rfl rfl u3 (P_move z3) ?_
          refine L_y (.bool ((o0 == (0 : Int)))) rfl rfl rfl rfl u3 (P_int rfl rfl rfl) ?_
          refine L_y (.bool ((o0 == (0 : Int)))) rfl rfl rfl rfl u3 (P_move rfl) ?_
          iterate 3 refine L_s rfl rfl rfl z4 rfl ?_
          refine L_y (.bool false) rfl rfl rfl rfl u3 (P_pick (b := (o0 == (0 : Int))) rfl (pick_f z4 rfl)) ?_
          refine L_p (.bool false) rfl rfl (P_pick (b := (!j3)) rfl (pick_f u3 rfl)) ?_
          refine L_p (.bool false) rfl rfl (P_move rfl) ?_
          refine L_y (.int .i64 (o0)) rfl rfl rfl rfl rfl (P_move z3) ?_
          refine L_y (.bool ((decide (o0 > (0 : Int))))) rfl rfl rfl rfl rfl (P_int rfl rfl rfl) ?_
          refine L_y (.bool ((decide (o0 > (0 : Int))))) rfl rfl rfl rfl rfl (P_move rfl) ?_
          refine L_y (fPtr i5 0) rfl rfl rfl rfl t5 (P_fieldAddr at_87_0 rfl (OB.ptr b2126)) ?_
          refine L_ld (c := .int .i64 ((u0).From)) rfl rfl (.yes2 rfl rfl t5) (fun _ _ h => ⟨h.ch, fun b hb _ => h.below.block b hb⟩) uC rfl ?_
          refine L_y (fPtr p1 0) rfl rfl rfl rfl t5 (P_fieldAddr at_25_0 i6 (PT.ptr j1)) ?_
          refine L_ld (c := bA) rfl rfl (.yes2 rfl rfl t5) (fun _ _ h => h.ch) vC rfl ?_
          refine L_y (.int .i64 (o0)) rfl rfl rfl rfl t5 (P_move z3) ?_
          refine L_y (.int .i64 ((w64 (o0 - (1 : Int))))) rfl rfl rfl rfl t5 (P_int rfl rfl rfl) ?_
          refine L_y (ePtr bA (w64 (o0 - (1 : Int))) 2) rfl rfl rfl rfl t5 (P_indexAddr (α := PayRate) Tryz.underlying22 Tryz.sizeOf87 rfl lB rfl oA) ?_
          refine L_y (fPtr (ePtr bA (w64 (o0 - (1 : Int))) 2) 0) rfl rfl rfl rfl t5 (P_fieldAddr at_87_0 rfl (PT.ptr mB)) ?_
          refine L_ld (c := .int .i64 ((u7).From)) rfl rfl (.yes2 rfl rfl t5) (fun _ _ h => h.ch) xC rfl ?_
          refine L_y (.bool ((decide ((u0).From ≤ (u7).From)))) rfl rfl rfl rfl t5 (P_int rfl rfl rfl) ?_
          refine L_y (.bool ((decide ((u0).From ≤ (u7).From)))) rfl rfl rfl rfl rfl (P_pick (b := (decide (o0 > (0 : Int)))) rfl (pick_t t5 rfl)) ?_
          refine L_p (.bool ((decide ((u0).From ≤ (u7).From)))) rfl rfl (P_pick (b := false) rfl (pick_f rfl rfl)) ?_
          refine L_nl fun tE tH hs => ?_
          have hfr := hfr.ext hs
          have j1 := j1.ext hs
          clear hs
          refine EL_nil ?_
          obtain rfl := sinj h
          exact hQ _ _ ⟨tE, hfr, i6, j1, z3, rfl⟩
         ·refine E_drawL (g := m7) (n := 35) [(2, (fun v g w => v = .bool (o3))), (7, (fun v g w => v = .bool (j3)))] [0, 1, 2, 3, 4, 5, 6, 7, 8, 9, 10, 11, 12, 13, 14, 15, 16, 17, 18, 19, 20, 21, 22, 23, 24, 25, 26, 27, 28, 29, 30, 31, 32, 33, 34] rfl mixed (by kernel_rfl) (⟨fun _ => up_eq _, fun _ => up_eq _, trivial⟩) ?_
          refine L_p (fPtr i5 0) rfl rfl (P_fieldAddr at_87_0 rfl (OB.ptr b2126)) ?_
          refine L_ld (c := .int .i64 ((u0).From)) rfl rfl .plain (fun _ _ h => ⟨h.ch, fun b hb _ => h.below.block b hb⟩) b7 rfl ?_
          refine L_do (φ := fun v g w => v = .bool (o3)) rfl rfl .plain (fun g w hd => D_call (g := g) (vs := [.int .i64 ((u0).From), .int .i64 (0), .int .i64 (1000)]) en25 (.cons rfl (.cons rfl (.cons rfl .nil))) (wk25  c7) fun g' w' v hs hr => ⟨g', hs, hr⟩) (fun c8 hv => ?_)
          obtain ⟨_, _, _, rfl⟩ := hv
          refine L_p (.bool (!o3)) rfl rfl (P_not rfl) ?_
          refine L_p (.bool (!o3)) rfl rfl (P_move rfl) ?_
          refine L_y (fPtr i5 1) rfl rfl rfl rfl i3 (P_fieldAddr at_87_1 rfl (OB.ptr b2126)) ?_
          refine L_ld (c := .int .i64 ((u0).Rate)) rfl rfl (.yes2 rfl rfl i3) (fun _ _ h => ⟨h.ch, fun b hb _ => h.below.block b hb⟩) d7 rfl ?_
          refine L_do (φ := fun v g w => v = .bool (j3)) rfl rfl (.yes2 rfl rfl i3) (fun g w hd => D_call (g := g) (vs := [.int .i64 ((u0).Rate), .int .i64 (0), .int .i64 (10000)]) en25 (.cons rfl (.cons rfl (.cons rfl .nil))) (wk25  e7) fun g' w' v hs hr => ⟨g', hs, hr⟩) (fun i8 hv => ?_)
          obtain ⟨_, _, _, rfl⟩ := hv
          refine L_y (.bool (!j3)) rfl rfl rfl rfl i3 (P_not rfl) ?_
          refine L_p (.bool (!j3)) rfl rfl (P_pick (b := (!o3)) rfl (pick_f i3 rfl)) ?_
          refine L_p (.bool (!j3)) rfl rfl (P_move rfl) ?_
          refine L_y (.int .i64 (o0)) rfl rfl rfl rfl u3 (P_move z3) ?_
          refine L_y (.bool ((o0 == (0 : Int)))) rfl rfl rfl rfl u3 (P_int rfl rfl rfl) ?_
          refine L_y (.bool ((o0 == (0 : Int)))) rfl rfl rfl rfl u3 (P_move rfl) ?_
          iterate 3 refine L_s rfl rfl rfl z4 rfl ?_
          refine L_y (.bool false) rfl rfl rfl rfl u3 (P_pick (b := (o0 == (0 : Int))) rfl (pick_f z4 rfl)) ?_
          refine L_p (.bool false) rfl rfl (P_pick (b := (!j3)) rfl (pick_f u3 rfl)) ?_
          refine L_p (.bool false) rfl rfl (P_move rfl) ?_
          refine L_y (.int .i64 (o0)) rfl rfl rfl rfl rfl (P_move z3) ?_
          refine L_y (.bool ((decide (o0 > (0 : Int))))) rfl rfl rfl rfl rfl (P_int rfl rfl rfl) ?_
          refine L_y (.bool ((decide (o0 > (0 : Int))))) rfl rfl rfl rfl rfl (P_move rfl) ?_
          iterate 10 refine L_s rfl rfl rfl t5 rfl ?_
          refine L_y (.bool false) rfl rfl rfl rfl rfl (P_pick (b := (decide (o0 > (0 : Int)))) rfl (pick_f t5 rfl)) ?_
          refine L_p (.bool false) rfl rfl (P_pick (b := false) rfl (pick_f rfl rfl)) ?_
          refine L_nl fun uE uH hs => ?_
          have hfr := hfr.ext hs
          have j1 := j1.ext hs
          clear hs
          refine EL_nil ?_
          obtain rfl := sinj h
          exact hQ _ _ ⟨uE, hfr, i6, j1, z3, rfl⟩
     ·clear hx
      obtain ⟨vE, hfr, oB, tB, vB, t8⟩ := hR
      rcases csome h with ⟨v8, h⟩ | ⟨v8, h⟩
      ·refine E_cond_true (Eq.trans (show ev _ _ = .bool (a7) from t8) (congrArg Value.bool v8)) ?_
       refine E_seq (E_region (EL_at (.int .i64 (2)) rfl rfl ?_))
       refine EL_nil (thn_n (E_ret (blk_r ?_)))
       refine thn_r ?_
       refine thn_r ?_
       refine blk_r ?_
       refine thn_r ?_
       obtain rfl := sinj h
       exact end1 rfl rfl (show _ = .int .i64 (2) from rfl) ⟨_, hfr, rfl⟩
      ·refine E_cond_false (Eq.trans (show ev _ _ = .bool (a7) from t8) (congrArg Value.bool v8)) ?_
       exact E_skip (blk_n (thn_n (mC () _ _ ⟨vE, hfr, oB, tB, vB⟩ h)))
    ·rintro _ lG vH ⟨xE, hfr, xB, yB, zB⟩ h
     refine E_region (EL_mv zB rfl ?_)
     refine EL_in (.int .i64 ((w64 (o0 + (1 : Int))))) rfl rfl rfl rfl ?_
     refine EL_at (.int .i64 ((w64 (o0 + (1 : Int))))) rfl rfl ?_
     exact EL_nil (thn_n (kC ((w64 (o0 + (1 : Int)))) _ _ ⟨xE, hfr, xB, yB, rfl⟩ h))
  ·rintro _ mG xH ⟨yE, hfr, aC, cC⟩ h
   refine E_joinC h (fun (s : Unit) e w => ∃ (g : Gh) , Fr gI wI g w ∧ e 1 = p1 ∧ PT g.m w (x0 : PayList) p1) (fun X2839 uA yC h => ?_) ?_
   ·refine E_seq (E_region (EL_at (.int .i64 (0)) rfl rfl ?_))
    refine EL_nil (thn_n (E_block ?_))
    refine E_lp h (fun (s : Int) e w => ∃ (g : Gh) , Fr gI wI g w ∧ e 1 = p1 ∧ PT g.m w (x0 : PayList) p1 ∧ e 5 = .int .i64 (s)) ⟨yE, hfr, aC, cC, rfl⟩ (fun X2840 xA aD => ?_)
    rintro x5 nG yH ⟨gA, hfr, l8, g8, i9⟩ h
    refine E_joinC h (fun (s : Unit) e w => ∃ (g : Gh) , Fr gI wI g w ∧ e 1 = p1 ∧ PT g.m w (x0 : PayList) p1 ∧ e 5 = .int .i64 (x5)) (fun X2845 zA bD h => ?_) ?_
    ·refine E_seq (E_region (EL_mv i9 rfl ?_))
     refine EL_p (fPtr p1 1) (P_fieldAddr at_25_1 l8 (PT.ptr g8)) rfl ?_
     have zE := PT_field (part_PayList_1).1 g8
     refine EL_do .plain rfl (D_load (g := gA) Tryz.isAgg23 Tryz.sizeOf23 rfl zE fun zH cF => ?_)
     refine EL_p (.int .i64 (((x0).Extras).length : Int)) (P_len Tryz.underlying23 rfl cF) rfl ?_
     refine EL_p (.bool ((decide (x5 < (((x0).Extras).length : Int))))) (P_int rfl rfl rfl) rfl ?_
     refine EL_nil (thn_n ?_)
     rcases csome h with ⟨x8, h⟩ | ⟨x8, h⟩
     ·refine E_ct x8 rfl ?_
      exact E_skip (thn_n (bD () _ _ ⟨gA, hfr, l8, g8, i9⟩ h))
     ·refine E_cf x8 rfl ?_
      refine E_exit ?_
      refine thn_e ?_
      refine thn_e ?_
      refine blk_hit ?_
      exact thn_n (yC () _ _ ⟨gA, hfr, l8, g8⟩ h)
    ·rintro _ oG aI ⟨iA, hfr, k9, g7, l9⟩ h
     refine E_joinC h (fun (s : Unit) e w => ∃ (g : Gh) , Fr gI wI g w ∧ e 1 = p1 ∧ PT g.m w (x0 : PayList) p1 ∧ e 5 = .int .i64 (x5)) (fun X2858 yA cD h => ?_) ?_
     ·refine E_block ?_
      refine E_seq (E_region (EL_p (fPtr p1 1) (P_fieldAddr at_25_1 k9 (PT.ptr g7)) rfl ?_))
      have dF := PT_field (part_PayList_1).1 g7
      refine EL_do .plain rfl (D_load (g := iA) Tryz.isAgg23 Tryz.sizeOf23 rfl dF fun eF nB => ?_)
      refine EL_mv l9 rfl ?_
      obtain ⟨n9, pA, h⟩ := bsome h
      refine EL_p (ePtr eF x5 1) (P_indexAddr (α := Int) Tryz.underlying23 Tryz.sizeOf3 rfl nB rfl pA) rfl ?_
      have iF := PT_idx nB pA
      refine EL_do .plain rfl (D_load (g := iA) Tryz.isAgg3 Tryz.sizeOf3 rfl iF fun bI nF => ?_)
      obtain rfl := RV_int.1 nF
      obtain ⟨o9, eD, h⟩ := bsome h
      refine EL_do .plain rfl (D_call (g := iA) (vs := [.int .i64 (n9), .int .i64 (0), .int .i64 (1000)]) en25 (.cons rfl (.cons rfl (.cons rfl .nil))) (wk25  eD) fun oF pG cI hs hr => ?_)
      have hfr := hfr.ext hs
      have g7 := g7.ext hs
      subst hr
      refine EL_p (.bool (!o9)) (P_not rfl) rfl ?_
      refine EL_nil (thn_n ?_)
      rcases csome h with ⟨y8, h⟩ | ⟨y8, h⟩
      ·refine E_ct y8 rfl ?_
       refine E_seq (E_region (EL_at (.int .i64 (2)) rfl rfl ?_))
       refine EL_nil (thn_n (E_ret (blk_r ?_)))
       refine thn_r ?_
       refine thn_r ?_
       refine blk_r ?_
       refine thn_r ?_
       obtain rfl := sinj h
       exact end1 rfl rfl (show _ = .int .i64 (2) from rfl) ⟨_, hfr, rfl⟩
      ·refine E_cf y8 rfl ?_
       exact E_skip (blk_n (thn_n (cD () _ _ ⟨oF, hfr, k9, g7, l9⟩ h)))
     ·rintro _ qG dI ⟨pF, hfr, dC, eC, iC⟩ h
      refine E_region (EL_mv iC rfl ?_)
      refine EL_in (.int .i64 ((w64 (x5 + (1 : Int))))) rfl rfl rfl rfl ?_
      refine EL_at (.int .i64 ((w64 (x5 + (1 : Int))))) rfl rfl ?_
      exact EL_nil (thn_n (aD ((w64 (x5 + (1 : Int)))) _ _ ⟨pF, hfr, dC, eC, rfl⟩ h))
   ·rintro _ rG iI ⟨o8, hfr, m8, j6⟩ h
    refine E_joinC h (fun (s : Unit) e w => ∃ (g : Gh) , Fr gI wI g w) (fun X2895 rA gD h => ?_) ?_
    ·obtain ⟨y6, hx, h⟩ := bsome h
     refine E_join (fun e w => ∃ (g : Gh) , Fr gI wI g w ∧ e 92 = .bool (y6)) (fun Q' hQ => ?_) (fun sG jI hR => ?_)
     ·replace h := hx
      clear hx
      refine E_region (EL_p (fPtr p1 0) (P_fieldAddr at_25_0 m8 (PT.ptr j6)) rfl ?_)
      have qF := PT_field (part_PayList_0).1 j6
      refine EL_do .plain rfl (D_load (g := o8) Tryz.isAgg22 Tryz.sizeOf22 rfl qF fun kI rF => ?_)
      refine EL_p (.int .i64 (((x0).Rates).length : Int)) (P_len Tryz.underlying22 rfl rF) rfl ?_
      refine EL_in (.bool (((((x0).Rates).length : Int) == (0 : Int)))) rfl rfl rfl rfl ?_
      refine EL_mw (.bool (((((x0).Rates).length : Int) == (0 : Int)))) rfl rfl ?_
      rcases csome h with ⟨v6, h⟩ | ⟨v6, h⟩
      ·refine EL_s rfl rfl v6 rfl rfl ?_
       iterate 3 refine EL_s rfl rfl v6 rfl rfl ?_
       refine EL_p (.bool true) (P_pick (b := ((((x0).Rates).length : Int) == (0 : Int))) rfl (pick_t v6 rfl)) rfl ?_
       refine EL_dead 6 rfl ?_
       refine EL_nil ?_
       obtain rfl := sinj h
       exact hQ _ _ ⟨o8, hfr, rfl⟩
      ·refine EL_y (fPtr p1 2) (P_fieldAddr at_25_2 m8 (PT.ptr j6)) rfl rfl v6 rfl ?_
       have sF := PT_field (part_PayList_2).1 j6
       refine EL_do (.yes2 rfl rfl v6) rfl (D_load (g := o8) Tryz.isAgg3 Tryz.sizeOf3 rfl sF fun lI tF => ?_)
       obtain rfl := RV_int.1 tF
       obtain ⟨i7, iD, h⟩ := bsome h
       refine EL_do (.yes2 rfl rfl v6) rfl (D_call (g := o8) (vs := [.int .i64 ((x0).Fine), .int .i64 (0), .int .i64 (1000)]) en25 (.cons rfl (.cons rfl (.cons rfl .nil))) (wk25  iD) fun jA tG mI hs hr => ?_)
       have hfr := hfr.ext hs
       have j6 := j6.ext hs
       subst hr
       refine EL_y (.bool (!i7)) (P_not rfl) rfl rfl v6 rfl ?_
       refine EL_p (.bool (!i7)) (P_pick (b := ((((x0).Rates).length : Int) == (0 : Int))) rfl (pick_f v6 rfl)) rfl ?_
       refine EL_mw (.bool (!i7)) rfl rfl ?_
       rcases csome h with ⟨x6, h⟩ | ⟨x6, h⟩
       ·refine EL_s rfl rfl x6 rfl rfl ?_
        iterate 3 refine EL_s rfl rfl x6 rfl rfl ?_
        refine EL_p (.bool true) (P_pick (b := (!i7)) rfl (pick_t x6 rfl)) rfl ?_
        refine EL_nil ?_
        obtain rfl := sinj h
        exact hQ _ _ ⟨jA, hfr, rfl⟩
       ·refine EL_y (fPtr p1 3) (P_fieldAddr at_25_3 m8 (PT.ptr j6)) rfl rfl x6 rfl ?_
        have uF := PT_field (part_PayList_3).1 j6
        refine EL_do (.yes2 rfl rfl x6) rfl (D_load (g := jA) Tryz.isAgg3 Tryz.sizeOf3 rfl uF fun nI vF => ?_)
        obtain rfl := RV_int.1 vF
        obtain ⟨n8, jD, h⟩ := bsome h
        refine EL_do (.yes2 rfl rfl x6) rfl (D_call (g := jA) (vs := [.int .i64 ((x0).Cap), .int .i64 (0), .int .i64 (1000)]) en25 (.cons rfl (.cons rfl (.cons rfl .nil))) (wk25  jD) fun xF uG pI hs hr => ?_)
        have hfr := hfr.ext hs
        subst hr
        refine EL_y (.bool (!n8)) (P_not rfl) rfl rfl x6 rfl ?_
        refine EL_p (.bool (!n8)) (P_pick (b := (!i7)) rfl (pick_f x6 rfl)) rfl ?_
        refine EL_nil ?_
        obtain rfl := sinj h
        exact hQ _ _ ⟨xF, hfr, rfl⟩
     ·clear hx
      obtain ⟨yF, hfr, a9⟩ := hR
      rcases csome h with ⟨d9, h⟩ | ⟨d9, h⟩
      ·refine E_cond_true (Eq.trans (show ev _ _ = .bool (y6) from a9) (congrArg Value.bool d9)) ?_
       refine E_seq (E_region (EL_at (.int .i64 (2)) rfl rfl ?_))
       refine EL_nil (thn_n (E_ret (thn_r ?_)))
       obtain rfl := sinj h
       exact end1 rfl rfl (show _ = .int .i64 (2) from rfl) ⟨_, hfr, rfl⟩
      ·refine E_cond_false (Eq.trans (show ev _ _ = .bool (y6) from a9) (congrArg Value.bool d9)) ?_
       exact E_skip (thn_n (gD () _ _ ⟨yF, hfr⟩ h))
    ·rintro _ vG qI ⟨rI, hfr⟩ h
     refine E_seq (E_region (EL_at (.int .i64 (0)) rfl rfl ?_))
     refine EL_nil (thn_n (E_ret ?_))
     obtain rfl := sinj h
     exact end1 rfl rfl (show _ = .int .i64 (0) from rfl) ⟨_, hfr, rfl⟩
def f19 (x0 : PayList) (x1 : PayList) : Option (Bool) :=
 jn (σ := Unit) (fun _ =>
  jn (σ := Unit) (fun _ =>
   some (true)
   ) fun g7 =>
  lp (σ := Int) (fun i7 o0 =>
   jn (σ := Unit) (fun _ =>
    jn (σ := Unit) (fun _ =>
     i7 ((w64 (o0 + (1 : Int))))
     ) fun j7 =>
    (idx ((x0).Rates) o0).bind fun x6 =>
    (idx ((x1).Rates) o0).bind fun y6 =>
    bif (!(decide (x6 = y6))) then
     some (false)
    else
     j7 ()
    ) fun m7 =>
   bif (decide (o0 < (((x0).Rates).length : Int))) then
    m7 ()
   else
    g7 ()
   ) big ((0 : Int))
  ) fun u9 =>
 Option.bind (α := Bool) (
  bif ((x0).Fine != (x1).Fine) then
   some (true)
  else
   bif ((x0).Cap != (x1).Cap) then
    some (true)
   else
    (f29 ((x0).Extras) ((x1).Extras)).bind fun z3 =>
    bif (!z3) then
     some (true)
    else
     some (((((x0).Rates).length : Int) != (((x1).Rates).length : Int)))
  ) fun j3 =>
 bif j3 then
  some (false)
 else
  u9 ()
theorem en19 : Enters Tryz.prog 19 := enters_of Tryz.func19 (by kernel_rfl) rfl
theorem wk19 {gI : Gh} {wI : World} {x0 : PayList} {x1 : PayList} {up0 : Value} (rp0 : RV gI.m wI x0 up0) {up1 : Value} (rp1 : RV gI.m wI x1 up1) {r : Bool} (h : f19 x0 x1 = some r) : Fn Tryz.prog 19 #[up0, up1] gI wI (fun _ _ v => v = .bool (r)) := by
 unfold f19 at h
 refine fn_of_E Tryz.func19 rfl (Nat.le_of_ble_eq_true rfl) fun g0 hm hfr => ?_
 have rp0 : RV g0.m wI x0 up0 := hm ▸ rp0
 have rp1 : RV g0.m wI x1 up1 := hm ▸ rp1
 show E _ 53 none _ _ _ _ _
 refine E_seq (E_region (EL_do .plain rfl (D_box (g := g0) rfl rp0 fun g1 w1 p1 hs q1 => ?_)))
 have hfr := hfr.ext hs
 have rp1 := rp1.ext hs
 refine EL_do .plain rfl (D_box (g := g1) rfl rp1 fun g2 w2 p2 hs q2 => ?_)
 have hfr := hfr.ext hs
 have q1 := q1.ext hs
 refine EL_at (.bool false) rfl rfl ?_
 refine EL_nil (thn_n (E_joinC h (fun (s : Unit) e w => ∃ (g : Gh) , Fr gI wI g w ∧ e 2 = p1 ∧ PT g.m w (x0 : PayList) p1 ∧ e 3 = p2 ∧ PT g.m w (x1 : PayList) p2) (fun X47 u9 y9 h => ?_) ?_))
 ·obtain ⟨j3, hx, h⟩ := bsome h
  refine E_join (fun e w => ∃ (g : Gh) , Fr gI wI g w ∧ e 2 = p1 ∧ PT g.m w (x0 : PayList) p1 ∧ e 3 = p2 ∧ PT g.m w (x1 : PayList) p2 ∧ e 34 = .bool (j3)) (fun Q' hQ => ?_) (fun kC aD hR => ?_)
  ·replace h := hx
   clear hx
   refine E_region (EL_p (fPtr p1 2) (P_fieldAddr at_25_2 rfl (PT.ptr q1)) rfl ?_)
   have yA := PT_field (part_PayList_2).1 q1
   refine EL_do .plain rfl (D_load (g := g2) Tryz.isAgg3 Tryz.sizeOf3 rfl yA fun bD zA => ?_)
   obtain rfl := RV_int.1 zA
   refine EL_p (fPtr p2 2) (P_fieldAddr at_25_2 rfl (PT.ptr q2)) rfl ?_
   have aB := PT_field (part_PayList_2).1 q2
   refine EL_do .plain rfl (D_load (g := g2) Tryz.isAgg3 Tryz.sizeOf3 rfl aB fun cD bB => ?_)
   obtain rfl := RV_int.1 bB
   refine EL_in (.bool (((x0).Fine != (x1).Fine))) rfl rfl rfl rfl ?_
   refine EL_mw (.bool (((x0).Fine != (x1).Fine))) rfl rfl ?_
   rcases csome h with ⟨i3, h⟩ | ⟨i3, h⟩
   ·refine EL_s rfl rfl i3 rfl rfl ?_
    iterate 4 refine EL_s rfl rfl i3 rfl rfl ?_
    refine EL_p (.bool true) (P_pick (b := ((x0).Fine != (x1).Fine)) rfl (pick_t i3 rfl)) rfl ?_
    refine EL_dead 17 rfl ?_
    refine EL_nil ?_
    obtain rfl := sinj h
    exact hQ _ _ ⟨g2, hfr, rfl, q1, rfl, q2, rfl⟩
   ·refine EL_y (fPtr p1 3) (P_fieldAddr at_25_3 rfl (PT.ptr q1)) rfl rfl i3 rfl ?_
    have cB := PT_field (part_PayList_3).1 q1
    refine EL_do (.yes2 rfl rfl i3) rfl (D_load (g := g2) Tryz.isAgg3 Tryz.sizeOf3 rfl cB fun eD dB => ?_)
    obtain rfl := RV_int.1 dB
    refine EL_y (fPtr p2 3) (P_fieldAddr at_25_3 rfl (PT.ptr q2)) rfl rfl i3 rfl ?_
    have eB := PT_field (part_PayList_3).1 q2
    refine EL_do (.yes2 rfl rfl i3) rfl (D_load (g := g2) Tryz.isAgg3 Tryz.sizeOf3 rfl eB fun gD iB => ?_)
    obtain rfl := RV_int.1 iB
    refine EL_y (.bool (((x0).Cap != (x1).Cap))) (P_int rfl rfl rfl) rfl rfl i3 rfl ?_
    refine EL_p (.bool (((x0).Cap != (x1).Cap))) (P_pick (b := ((x0).Fine != (x1).Fine)) rfl (pick_f i3 rfl)) rfl ?_
    refine EL_mw (.bool (((x0).Cap != (x1).Cap))) rfl rfl ?_
    rcases csome h with ⟨j1, h⟩ | ⟨j1, h⟩
    ·refine EL_s rfl rfl j1 rfl rfl ?_
     iterate 5 refine EL_s rfl rfl j1 rfl rfl ?_
     refine EL_p (.bool true) (P_pick (b := ((x0).Cap != (x1).Cap)) rfl (pick_t j1 rfl)) rfl ?_
     refine EL_dead 9 rfl ?_
     refine EL_nil ?_
     obtain rfl := sinj h
     exact hQ _ _ ⟨g2, hfr, rfl, q1, rfl, q2, rfl⟩
    ·refine EL_y (fPtr p1 1) (P_fieldAddr at_25_1 rfl (PT.ptr q1)) rfl rfl j1 rfl ?_
     have jB := PT_field (part_PayList_1).1 q1
     refine EL_do (.yes2 rfl rfl j1) rfl (D_load (g := g2) Tryz.isAgg23 Tryz.sizeOf23 rfl jB fun lB mB => ?_)
     refine EL_y (fPtr p2 1) (P_fieldAddr at_25_1 rfl (PT.ptr q2)) rfl rfl j1 rfl ?_
     have nB := PT_field (part_PayList_1).1 q2
     refine EL_do (.yes2 rfl rfl j1) rfl (D_load (g := g2) Tryz.isAgg23 Tryz.sizeOf23 rfl nB fun oB tB => ?_)
     obtain ⟨z3, z9, h⟩ := bsome h
     refine EL_do (.yes2 rfl rfl j1) rfl (D_call (g := g2) (vs := [lB, oB]) en29 (.cons rfl (.cons rfl .nil)) (wk29 mB tB z9) fun c7 lC iD hs hr => ?_)
     have hfr := hfr.ext hs
     have q1 := q1.ext hs
     have q2 := q2.ext hs
     subst hr
     refine EL_y (.bool (!z3)) (P_not rfl) rfl rfl j1 rfl ?_
     refine EL_p (.bool (!z3)) (P_pick (b := ((x0).Cap != (x1).Cap)) rfl (pick_f j1 rfl)) rfl ?_
     refine EL_mw (.bool (!z3)) rfl rfl ?_
     rcases csome h with ⟨u0, h⟩ | ⟨u0, h⟩
     ·refine EL_s rfl rfl u0 rfl rfl ?_
      iterate 6 refine EL_s rfl rfl u0 rfl rfl ?_
      refine EL_p (.bool true) (P_pick (b := (!z3)) rfl (pick_t u0 rfl)) rfl ?_
      refine EL_nil ?_
      obtain rfl := sinj h
      exact hQ _ _ ⟨c7, hfr, rfl, q1, rfl, q2, rfl⟩
     ·refine EL_y (fPtr p1 0) (P_fieldAddr at_25_0 rfl (PT.ptr q1)) rfl rfl u0 rfl ?_
      have vB := PT_field (part_PayList_0).1 q1
      refine EL_do (.yes2 rfl rfl u0) rfl (D_load (g := c7) Tryz.isAgg22 Tryz.sizeOf22 rfl vB fun jD xB => ?_)
      refine EL_y (.int .i64 (((x0).Rates).length : Int)) (P_len Tryz.underlying22 rfl xB) rfl rfl u0 rfl ?_
      refine EL_y (fPtr p2 0) (P_fieldAddr at_25_0 rfl (PT.ptr q2)) rfl rfl u0 rfl ?_
      have yB := PT_field (part_PayList_0).1 q2
      refine EL_do (.yes2 rfl rfl u0) rfl (D_load (g := c7) Tryz.isAgg22 Tryz.sizeOf22 rfl yB fun kD zB => ?_)
      refine EL_y (.int .i64 (((x1).Rates).length : Int)) (P_len Tryz.underlying22 rfl zB) rfl rfl u0 rfl ?_
      refine EL_y (.bool (((((x0).Rates).length : Int) != (((x1).Rates).length : Int)))) (P_int rfl rfl rfl) rfl rfl u0 rfl ?_
      refine EL_p (.bool (((((x0).Rates).length : Int) != (((x1).Rates).length : Int)))) (P_pick (b := (!z3)) rfl (pick_f u0 rfl)) rfl ?_
      refine EL_nil ?_
      obtain rfl := sinj h
      exact hQ _ _ ⟨c7, hfr, rfl, q1, rfl, q2, rfl⟩
  ·clear hx
   obtain ⟨aC, hfr, o8, q8, r8, t8, t5⟩ := hR
   rcases csome h with ⟨a7, h⟩ | ⟨a7, h⟩
   ·refine E_cond_true (Eq.trans (show ev _ _ = .bool (j3) from t5) (congrArg Value.bool a7)) ?_
    refine E_seq (E_region (EL_at (.bool false) rfl rfl ?_))
    refine EL_nil (thn_n (E_ret (thn_r ?_)))
    obtain rfl := sinj h
    exact end1 rfl rfl (show _ = .bool false from rfl) ⟨_, hfr, rfl⟩
   ·refine E_cond_false (Eq.trans (show ev _ _ = .bool (j3) from t5) (congrArg Value.bool a7)) ?_
    exact E_skip (thn_n (y9 () _ _ ⟨aC, hfr, o8, q8, r8, t8⟩ h))
 ·rintro _ mC lD ⟨cC, hfr, v8, x8, y8, a9⟩ h
  refine E_joinC h (fun (s : Unit) e w => ∃ (g : Gh) , Fr gI wI g w) (fun X158 g7 d9 h => ?_) ?_
  ·refine E_seq (E_region (EL_at (.int .i64 (0)) rfl rfl ?_))
   refine EL_nil (thn_n (E_block ?_))
   refine E_lp h (fun (s : Int) e w => ∃ (g : Gh) , Fr gI wI g w ∧ e 2 = p1 ∧ PT g.m w (x0 : PayList) p1 ∧ e 3 = p2 ∧ PT g.m w (x1 : PayList) p2 ∧ e 5 = .int .i64 (s)) ⟨cC, hfr, v8, x8, y8, a9, rfl⟩ (fun X159 i7 e9 => ?_)
   rintro o0 dC qC ⟨b7, hfr, x5, z4, n7, o7, i6⟩ h
   refine E_joinC h (fun (s : Unit) e w => ∃ (g : Gh) , Fr gI wI g w ∧ e 2 = p1 ∧ PT g.m w (x0 : PayList) p1 ∧ e 3 = p2 ∧ PT g.m w (x1 : PayList) p2 ∧ e 5 = .int .i64 (o0)) (fun X164 m7 i9 h => ?_) ?_
   ·refine E_seq (E_region (EL_mv i6 rfl ?_))
    refine EL_p (fPtr p1 0) (P_fieldAddr at_25_0 x5 (PT.ptr z4)) rfl ?_
    have bA := PT_field (part_PayList_0).1 z4
    refine EL_do .plain rfl (D_load (g := b7) Tryz.isAgg22 Tryz.sizeOf22 rfl bA fun rC gA => ?_)
    refine EL_p (.int .i64 (((x0).Rates).length : Int)) (P_len Tryz.underlying22 rfl gA) rfl ?_
    refine EL_p (.bool ((decide (o0 < (((x0).Rates).length : Int))))) (P_int rfl rfl rfl) rfl ?_
    refine EL_nil (thn_n ?_)
    rcases csome h with ⟨l5, h⟩ | ⟨l5, h⟩
    ·refine E_ct l5 rfl ?_
     exact E_skip (thn_n (i9 () _ _ ⟨b7, hfr, x5, z4, n7, o7, i6⟩ h))
    ·refine E_cf l5 rfl ?_
     refine E_exit ?_
     refine thn_e ?_
     refine thn_e ?_
     refine blk_hit ?_
     exact thn_n (d9 () _ _ ⟨b7, hfr⟩ h)
   ·rintro _ eC tC ⟨iA, hfr, j6, o3, v6, u3, i5⟩ h
    refine E_joinC h (fun (s : Unit) e w => ∃ (g : Gh) , Fr gI wI g w ∧ e 2 = p1 ∧ PT g.m w (x0 : PayList) p1 ∧ e 3 = p2 ∧ PT g.m w (x1 : PayList) p2 ∧ e 5 = .int .i64 (o0)) (fun X195 j7 k9 h => ?_) ?_
    ·refine E_block ?_
     refine E_seq ?_
     have jA := PT_field (part_PayList_0).1 o3
     refine L_load (x := .tmp 42) Tryz.isAgg22 Tryz.sizeOf22 jA fun u7 v7 l9 => ?_
     obtain ⟨x6, d7, h⟩ := bsome h
     have lA := PT_idx v7 d7
     refine L_load (x := .tmp 45) Tryz.isAgg87 Tryz.sizeOf87 lA fun mA nA n9 => ?_
     have oA := PT_field (part_PayList_0).1 u3
     refine L_load (x := .tmp 47) Tryz.isAgg22 Tryz.sizeOf22 oA fun c8 g8 o9 => ?_
     obtain ⟨y6, e7, h⟩ := bsome h
     have pA := PT_idx g8 e7
     refine L_load (x := .tmp 50) Tryz.isAgg87 Tryz.sizeOf87 pA fun qA rA t9 => ?_
     refine E_drawL (g := iA) (n := 11) [] [0, 1, 2, 3, 4, 5, 6, 7, 8, 9, 10] rfl mixed (by kernel_rfl) trivial ?_
     refine L_p (fPtr p1 0) rfl rfl (P_fieldAddr at_25_0 j6 (PT.ptr o3)) ?_
     refine L_ld (c := u7) rfl rfl .plain (fun _ _ h => h.ch) l9 rfl ?_
     refine L_p (.int .i64 (o0)) rfl rfl (P_move i5) ?_
     refine L_p (ePtr u7 o0 2) rfl rfl (P_indexAddr (α := PayRate) Tryz.underlying22 Tryz.sizeOf87 rfl v7 rfl d7) ?_
     refine L_ld (c := mA) rfl rfl .plain (fun _ _ h => h.ch) n9 rfl ?_
     refine L_p (fPtr p2 0) rfl rfl (P_fieldAddr at_25_0 v6 (PT.ptr u3)) ?_
     refine L_ld (c := c8) rfl rfl .plain (fun _ _ h => h.ch) o9 rfl ?_
     refine L_p (.int .i64 (o0)) rfl rfl (P_move i5) ?_
     refine L_p (ePtr c8 o0 2) rfl rfl (P_indexAddr (α := PayRate) Tryz.underlying22 Tryz.sizeOf87 rfl g8 rfl e7) ?_
     refine L_ld (c := qA) rfl rfl .plain (fun _ _ h => h.ch) t9 rfl ?_
     refine L_p (.bool ((!(decide (x6 = y6))))) rfl rfl (P_sne seq_87 rfl eg_87 rfl rfl nA rA) ?_
     refine L_nl fun uA uC hs => ?_
     have hfr := hfr.ext hs
     have o3 := o3.ext hs
     have u3 := u3.ext hs
     clear hs
     refine EL_nil (thn_n ?_)
     rcases csome h with ⟨q5, h⟩ | ⟨q5, h⟩
     ·refine E_ct q5 rfl ?_
      refine E_seq (E_region (EL_at (.bool false) rfl rfl ?_))
      refine EL_nil (thn_n (E_ret (blk_r ?_)))
      refine thn_r ?_
      refine thn_r ?_
      refine blk_r ?_
      refine thn_r ?_
      obtain rfl := sinj h
      exact end1 rfl rfl (show _ = .bool false from rfl) ⟨_, hfr, rfl⟩
     ·refine E_cf q5 rfl ?_
      exact E_skip (blk_n (thn_n (k9 () _ _ ⟨uA, hfr, j6, o3, v6, u3, i5⟩ h)))
    ·rintro _ iC vC ⟨xA, hfr, i8, k8, l8, m8, n8⟩ h
     refine E_region (EL_mv n8 rfl ?_)
     refine EL_in (.int .i64 ((w64 (o0 + (1 : Int))))) rfl rfl rfl rfl ?_
     refine EL_at (.int .i64 ((w64 (o0 + (1 : Int))))) rfl rfl ?_
     exact EL_nil (thn_n (e9 ((w64 (o0 + (1 : Int)))) _ _ ⟨xA, hfr, i8, k8, l8, m8, rfl⟩ h))
  ·rintro _ jC xC ⟨yC, hfr⟩ h
   refine E_seq (E_region (EL_at (.bool true) rfl rfl ?_))
   refine EL_nil (thn_n (E_ret ?_))
   obtain rfl := sinj h
   exact end1 rfl rfl (show _ = .bool true from rfl) ⟨_, hfr, rfl⟩
def f20 (x0 : List PayPiece) (x1 : List PayPiece) : Option (Bool) :=
 jn (σ := Unit) (fun _ =>
  jn (σ := Unit) (fun _ =>
   some (true)
   ) fun m7 =>
  lp (σ := Int) (fun n7 j1 =>
   jn (σ := Unit) (fun _ =>
    jn (σ := Unit) (fun _ =>
     n7 ((w64 (j1 + (1 : Int))))
     ) fun o7 =>
    (idx x0 j1).bind fun o0 =>
    (idx x1 j1).bind fun u0 =>
    Option.bind (α := Bool) (
     bif ((o0).Weaver != (u0).Weaver) then
      some (true)
     else
      bif ((o0).Dense != (u0).Dense) then
       some (true)
      else
       bif ((o0).Picks != (u0).Picks) then
        some (true)
       else
        bif ((o0).Faults != (u0).Faults) then
         some (true)
        else
         (f29 ((o0).Extras) ((u0).Extras)).bind fun y6 =>
         some ((!y6))
     ) fun q5 =>
    bif q5 then
     some (false)
    else
     o7 ()
    ) fun u7 =>
   bif (decide (j1 < ((x0).length : Int))) then
    u7 ()
   else
    m7 ()
   ) big ((0 : Int))
  ) fun k2 =>
 bif (((x0).length : Int) != ((x1).length : Int)) then
  some (false)
 else
  k2 ()
theorem en20 : Enters Tryz.prog 20 := enters_of Tryz.func20 (by kernel_rfl) rfl
theorem wk20 {gI : Gh} {wI : World} {x0 : List PayPiece} {x1 : List PayPiece} {up0 : Value} (rp0 : RV gI.m wI x0 up0) {up1 : Value} (rp1 : RV gI.m wI x1 up1) {r : Bool} (h : f20 x0 x1 = some r) : Fn Tryz.prog 20 #[up0, up1] gI wI (fun _ _ v => v = .bool (r)) := by
 unfold f20 at h
 refine fn_of_E Tryz.func20 rfl (Nat.le_of_ble_eq_true rfl) fun g0 hm hfr => ?_
 have rp0 : RV g0.m wI x0 up0 := hm ▸ rp0
 have rp1 : RV g0.m wI x1 up1 := hm ▸ rp1
 show E _ 61 none _ _ _ _ _
 refine E_seq (E_region (EL_at (.bool false) rfl rfl ?_))
 refine EL_nil (thn_n (E_joinC h (fun (s : Unit) e w => ∃ (g : Gh) , Fr gI wI g w ∧ e 0 = up0 ∧ RV g.m w (x0 : List PayPiece) up0 ∧ e 1 = up1 ∧ RV g.m w (x1 : List PayPiece) up1) (fun X2 k2 hk2 h => ?_) ?_))
 ·refine E_seq (E_region (EL_mw up0 rfl rfl ?_))
  refine EL_p (.int .i64 ((x0).length : Int)) (P_len Tryz.underlying33 rfl rp0) rfl ?_
  refine EL_mw up1 rfl rfl ?_
  refine EL_p (.int .i64 ((x1).length : Int)) (P_len Tryz.underlying33 rfl rp1) rfl ?_
  refine EL_in (.bool ((((x0).length : Int) != ((x1).length : Int)))) rfl rfl rfl rfl ?_
  refine EL_nil (thn_n ?_)
  rcases csome h with ⟨hc3, h⟩ | ⟨hc3, h⟩
  ·refine E_ct hc3 rfl ?_
   refine E_seq (E_region (EL_at (.bool false) rfl rfl ?_))
   refine EL_nil (thn_n (E_ret (thn_r ?_)))
   obtain rfl := sinj h
   exact end1 rfl rfl (show _ = .bool false from rfl) ⟨_, hfr, rfl⟩
  ·refine E_cf hc3 rfl ?_
   exact E_skip (thn_n (hk2 () _ _ ⟨g0, hfr, rfl, rp0, rfl, rp1⟩ h))
 ·rintro _ uC w4 ⟨g4, hfr, u9, y9, z9, bA⟩ h
  refine E_joinC h (fun (s : Unit) e w => ∃ (g : Gh) , Fr gI wI g w) (fun X170 m7 e9 h => ?_) ?_
  ·refine E_seq (E_region (EL_at (.int .i64 (0)) rfl rfl ?_))
   refine EL_nil (thn_n (E_block ?_))
   refine E_lp h (fun (s : Int) e w => ∃ (g : Gh) , Fr gI wI g w ∧ e 0 = up0 ∧ RV g.m w (x0 : List PayPiece) up0 ∧ e 1 = up1 ∧ RV g.m w (x1 : List PayPiece) up1 ∧ e 5 = .int .i64 (s)) ⟨g4, hfr, u9, y9, z9, bA, rfl⟩ (fun X171 n7 i9 => ?_)
   rintro j1 jB vB ⟨v7, hfr, c7, d7, c8, g8, e7⟩ h
   refine E_joinC h (fun (s : Unit) e w => ∃ (g : Gh) , Fr gI wI g w ∧ e 0 = up0 ∧ RV g.m w (x0 : List PayPiece) up0 ∧ e 1 = up1 ∧ RV g.m w (x1 : List PayPiece) up1 ∧ e 5 = .int .i64 (j1)) (fun X174 u7 k9 h => ?_) ?_
   ·refine E_seq (E_region (EL_mv e7 rfl ?_))
    refine EL_mv c7 rfl ?_
    refine EL_p (.int .i64 ((x0).length : Int)) (P_len Tryz.underlying33 rfl d7) rfl ?_
    refine EL_in (.bool ((decide (j1 < ((x0).length : Int))))) rfl rfl rfl rfl ?_
    refine EL_nil (thn_n ?_)
    rcases csome h with ⟨a7, h⟩ | ⟨a7, h⟩
    ·refine E_ct a7 rfl ?_
     exact E_skip (thn_n (k9 () _ _ ⟨v7, hfr, c7, d7, c8, g8, e7⟩ h))
    ·refine E_cf a7 rfl ?_
     refine E_exit ?_
     refine thn_e ?_
     refine thn_e ?_
     refine blk_hit ?_
     exact thn_n (e9 () _ _ ⟨v7, hfr⟩ h)
   ·rintro _ lB gA ⟨i8, hfr, t5, i3, x5, j3, l5⟩ h
    refine E_joinC h (fun (s : Unit) e w => ∃ (g : Gh) , Fr gI wI g w ∧ e 0 = up0 ∧ RV g.m w (x0 : List PayPiece) up0 ∧ e 1 = up1 ∧ RV g.m w (x1 : List PayPiece) up1 ∧ e 5 = .int .i64 (j1)) (fun X255 o7 l9 h => ?_) ?_
    ·refine E_block ?_
     refine E_seq ?_
     obtain ⟨o0, i7, h⟩ := bsome h
     have iA := PT_idx i3 i7
     refine L_load (x := .tmp 21) Tryz.isAgg27 Tryz.sizeOf27 iA fun k8 g7 n9 => ?_
     obtain ⟨u0, j7, h⟩ := bsome h
     have jA := PT_idx j3 j7
     refine L_load (x := .tmp 25) Tryz.isAgg27 Tryz.sizeOf27 jA fun l8 v6 o9 => ?_
     refine E_drawTL (g := i8) (n := 10) [4, 5, 6, 7] [(8, (fun v g w => OB 2006 g w 27 (⟨0, 0, 0, [], 0⟩ : PayPiece) v)), (9, (fun v g w => OB 2007 g w 27 (⟨0, 0, 0, [], 0⟩ : PayPiece) v))] [0, 1, 2, 3, 4, 5, 6, 7, 8, 9] rfl mixed (by kernel_rfl) (⟨fun _ => up_ob, fun _ => up_ob, trivial⟩) rfl ?_
     refine L_p up0 rfl rfl (P_move t5) ?_
     refine L_p (.int .i64 (j1)) rfl rfl (P_move l5) ?_
     refine L_p (ePtr up0 j1 5) rfl rfl (P_indexAddr (α := PayPiece) Tryz.underlying33 Tryz.sizeOf27 rfl i3 rfl i7) ?_
     refine L_ld (c := k8) rfl rfl .plain (fun _ _ h => h.ch) n9 rfl ?_
     refine L_purL (c := up1) rfl rfl .plain (P_move x5) ?_
     refine L_purL (c := .int .i64 (j1)) rfl rfl .plain (P_move l5) ?_
     refine L_purL (c := ePtr up1 j1 5) rfl rfl .plain (P_indexAddr (α := PayPiece) Tryz.underlying33 Tryz.sizeOf27 rfl j3 rfl j7) ?_
     refine L_ldL (c := l8) rfl rfl .plain (fun _ _ h => h.ch) rfl o9 rfl ?_
     refine L_do (φ := fun v g w => OB 2006 g w 27 (⟨0, 0, 0, [], 0⟩ : PayPiece) v) rfl rfl .plain (fun g w hd => D_allocX (g := g) 2006 (⟨0, 0, 0, [], 0⟩ : PayPiece) Tryz.zeroValue27 (fun m w => ⟨_, (rep_two rep_int (rep_two rep_int (rep_two rep_int (rep_two rep_nil rep_int)))), rfl⟩) fun g' w' v hs b => ⟨g', hs, b⟩) (fun i6 hv => ?_)
     clear hv
     refine L_do (φ := fun v g w => OB 2007 g w 27 (⟨0, 0, 0, [], 0⟩ : PayPiece) v) rfl rfl .plain (fun g w hd => D_allocX (g := g) 2007 (⟨0, 0, 0, [], 0⟩ : PayPiece) Tryz.zeroValue27 (fun m w => ⟨_, (rep_two rep_int (rep_two rep_int (rep_two rep_int (rep_two rep_nil rep_int)))), rfl⟩) fun g' w' v hs b => ⟨g', hs, b⟩) (fun j6 hv => ?_)
     clear hv
     refine L_nil fun m8 lA hall => ?_
     have hs := hall.1
     have hlt : Lt i8.m gA m8 lA := hs.ch
     have hfr := hfr.ext hs
     have i3 := i3.ext hs
     have j3 := j3.ext hs
     have g7 := g7.ext hs
     have v6 := v6.ext hs
     have b276 := (word_all (A := fun g w => OB 2006 g w 27 (⟨0, 0, 0, [], 0⟩ : PayPiece) i6) 8 rfl hall)
     have b277 := (word_all (A := fun g w => OB 2007 g w 27 (⟨0, 0, 0, [], 0⟩ : PayPiece) j6) 9 rfl hall)
     clear hs hall
     refine TL_do hlt.w .plain rfl (D_storeOc (g := m8) (v := k8) Tryz.sizeOf27 rfl b276 rfl g7 fun mA xB hs b278 cb => ?_)
     clear cb
     have hfr := hfr.stp hs
     have hlt := hlt.stp hs
     have i3 := i3.stp hs
     have j3 := j3.stp hs
     have v6 := v6.stp hs
     have b277 := b277.stp hs rfl
     refine TL_do hlt.w .plain rfl (D_storeOc (g := mA) (v := l8) Tryz.sizeOf27 rfl b277 rfl v6 fun o3 yB hs b279 cb => ?_)
     clear cb
     have hfr := hfr.stp hs
     have hlt := hlt.stp hs
     have i3 := i3.stp hs
     have j3 := j3.stp hs
     have b278 := b278.stp hs rfl
     refine TL_nil hlt.w ?_
     clear hlt
     refine thn_n ?_
     obtain ⟨q5, hx, h⟩ := bsome h
     refine E_join (fun e w => ∃ (g : Gh) , Fr gI wI g w ∧ e 0 = up0 ∧ RV g.m w (x0 : List PayPiece) up0 ∧ e 1 = up1 ∧ RV g.m w (x1 : List PayPiece) up1 ∧ e 5 = .int .i64 (j1) ∧ e 60 = .bool (q5)) (fun Q' hQ => ?_) (fun mB zB hR => ?_)
     ·replace h := hx
      clear hx
      refine E_region (EL_p (fPtr i6 0) (P_fieldAddr at_27_0 rfl (OB.ptr b278)) rfl ?_)
      refine EL_do .plain rfl (D_loadF (g := o3) part_PayPiece_0.1 Tryz.isAgg3 Tryz.sizeOf3 rfl b278 fun aC nA => ?_)
      obtain rfl := RV_int.1 nA
      refine EL_p (fPtr j6 0) (P_fieldAddr at_27_0 rfl (OB.ptr b279)) rfl ?_
      refine EL_do .plain rfl (D_loadF (g := o3) part_PayPiece_0.1 Tryz.isAgg3 Tryz.sizeOf3 rfl b279 fun cC oA => ?_)
      obtain rfl := RV_int.1 oA
      refine EL_in (.bool (((o0).Weaver != (u0).Weaver))) rfl rfl rfl rfl ?_
      refine EL_mw (.bool (((o0).Weaver != (u0).Weaver))) rfl rfl ?_
      rcases csome h with ⟨z3, h⟩ | ⟨z3, h⟩
      ·refine EL_s rfl rfl z3 rfl rfl ?_
       iterate 4 refine EL_s rfl rfl z3 rfl rfl ?_
       refine EL_p (.bool true) (P_pick (b := ((o0).Weaver != (u0).Weaver)) rfl (pick_t z3 rfl)) rfl ?_
       refine EL_dead 22 rfl ?_
       refine EL_nil ?_
       obtain rfl := sinj h
       exact hQ _ _ ⟨o3, hfr, t5, i3, x5, j3, l5, rfl⟩
      ·refine EL_y (fPtr i6 1) (P_fieldAddr at_27_1 rfl (OB.ptr b278)) rfl rfl z3 rfl ?_
       refine EL_do (.yes2 rfl rfl z3) rfl (D_loadF (g := o3) part_PayPiece_1.1 Tryz.isAgg3 Tryz.sizeOf3 rfl b278 fun dC pA => ?_)
       obtain rfl := RV_int.1 pA
       refine EL_y (fPtr j6 1) (P_fieldAddr at_27_1 rfl (OB.ptr b279)) rfl rfl z3 rfl ?_
       refine EL_do (.yes2 rfl rfl z3) rfl (D_loadF (g := o3) part_PayPiece_1.1 Tryz.isAgg3 Tryz.sizeOf3 rfl b279 fun eC qA => ?_)
       obtain rfl := RV_int.1 qA
       refine EL_y (.bool (((o0).Dense != (u0).Dense))) (P_int rfl rfl rfl) rfl rfl z3 rfl ?_
       refine EL_p (.bool (((o0).Dense != (u0).Dense))) (P_pick (b := ((o0).Weaver != (u0).Weaver)) rfl (pick_f z3 rfl)) rfl ?_
       refine EL_mw (.bool (((o0).Dense != (u0).Dense))) rfl rfl ?_
       rcases csome h with ⟨z4, h⟩ | ⟨z4, h⟩
       ·refine EL_s rfl rfl z4 rfl rfl ?_
        iterate 4 refine EL_s rfl rfl z4 rfl rfl ?_
        refine EL_p (.bool true) (P_pick (b := ((o0).Dense != (u0).Dense)) rfl (pick_t z4 rfl)) rfl ?_
        refine EL_dead 15 rfl ?_
        refine EL_nil ?_
        obtain rfl := sinj h
        exact hQ _ _ ⟨o3, hfr, t5, i3, x5, j3, l5, rfl⟩
       ·refine EL_y (fPtr i6 2) (P_fieldAddr at_27_2 rfl (OB.ptr b278)) rfl rfl z4 rfl ?_
        refine EL_do (.yes2 rfl rfl z4) rfl (D_loadF (g := o3) part_PayPiece_2.1 Tryz.isAgg3 Tryz.sizeOf3 rfl b278 fun iC rA => ?_)
        obtain rfl := RV_int.1 rA
        refine EL_y (fPtr j6 2) (P_fieldAddr at_27_2 rfl (OB.ptr b279)) rfl rfl z4 rfl ?_
        refine EL_do (.yes2 rfl rfl z4) rfl (D_loadF (g := o3) part_PayPiece_2.1 Tryz.isAgg3 Tryz.sizeOf3 rfl b279 fun jC uA => ?_)
        obtain rfl := RV_int.1 uA
        refine EL_y (.bool (((o0).Picks != (u0).Picks))) (P_int rfl rfl rfl) rfl rfl z4 rfl ?_
        refine EL_p (.bool (((o0).Picks != (u0).Picks))) (P_pick (b := ((o0).Dense != (u0).Dense)) rfl (pick_f z4 rfl)) rfl ?_
        refine EL_mw (.bool (((o0).Picks != (u0).Picks))) rfl rfl ?_
        rcases csome h with ⟨i5, h⟩ | ⟨i5, h⟩
        ·refine EL_s rfl rfl i5 rfl rfl ?_
         iterate 4 refine EL_s rfl rfl i5 rfl rfl ?_
         refine EL_p (.bool true) (P_pick (b := ((o0).Picks != (u0).Picks)) rfl (pick_t i5 rfl)) rfl ?_
         refine EL_dead 8 rfl ?_
         refine EL_nil ?_
         obtain rfl := sinj h
         exact hQ _ _ ⟨o3, hfr, t5, i3, x5, j3, l5, rfl⟩
        ·refine EL_y (fPtr i6 4) (P_fieldAddr at_27_4 rfl (OB.ptr b278)) rfl rfl i5 rfl ?_
         refine EL_do (.yes2 rfl rfl i5) rfl (D_loadF (g := o3) part_PayPiece_4.1 Tryz.isAgg3 Tryz.sizeOf3 rfl b278 fun kC xA => ?_)
         obtain rfl := RV_int.1 xA
         refine EL_y (fPtr j6 4) (P_fieldAddr at_27_4 rfl (OB.ptr b279)) rfl rfl i5 rfl ?_
         refine EL_do (.yes2 rfl rfl i5) rfl (D_loadF (g := o3) part_PayPiece_4.1 Tryz.isAgg3 Tryz.sizeOf3 rfl b279 fun lC yA => ?_)
         obtain rfl := RV_int.1 yA
         refine EL_y (.bool (((o0).Faults != (u0).Faults))) (P_int rfl rfl rfl) rfl rfl i5 rfl ?_
         refine EL_p (.bool (((o0).Faults != (u0).Faults))) (P_pick (b := ((o0).Picks != (u0).Picks)) rfl (pick_f i5 rfl)) rfl ?_
         refine EL_mw (.bool (((o0).Faults != (u0).Faults))) rfl rfl ?_
         rcases csome h with ⟨u3, h⟩ | ⟨u3, h⟩
         ·refine EL_s rfl rfl u3 rfl rfl ?_
          iterate 5 refine EL_s rfl rfl u3 rfl rfl ?_
          refine EL_p (.bool true) (P_pick (b := ((o0).Faults != (u0).Faults)) rfl (pick_t u3 rfl)) rfl ?_
          refine EL_nil ?_
          obtain rfl := sinj h
          exact hQ _ _ ⟨o3, hfr, t5, i3, x5, j3, l5, rfl⟩
         ·refine EL_y (fPtr i6 3) (P_fieldAddr at_27_3 rfl (OB.ptr b278)) rfl rfl u3 rfl ?_
          refine EL_do (.yes2 rfl rfl u3) rfl (D_loadF (g := o3) part_PayPiece_3.1 Tryz.isAgg23 Tryz.sizeOf23 rfl b278 fun zA aB => ?_)
          refine EL_y (fPtr j6 3) (P_fieldAddr at_27_3 rfl (OB.ptr b279)) rfl rfl u3 rfl ?_
          refine EL_do (.yes2 rfl rfl u3) rfl (D_loadF (g := o3) part_PayPiece_3.1 Tryz.isAgg23 Tryz.sizeOf23 rfl b279 fun bB cB => ?_)
          obtain ⟨y6, t9, h⟩ := bsome h
          refine EL_do (.yes2 rfl rfl u3) rfl (D_call (g := o3) (vs := [zA, bB]) en29 (.cons rfl (.cons rfl .nil)) (wk29 aB cB t9) fun dB nB mC hs hr => ?_)
          have hfr := hfr.ext hs
          have i3 := i3.ext hs
          have j3 := j3.ext hs
          subst hr
          refine EL_y (.bool (!y6)) (P_not rfl) rfl rfl u3 rfl ?_
          refine EL_p (.bool (!y6)) (P_pick (b := ((o0).Faults != (u0).Faults)) rfl (pick_f u3 rfl)) rfl ?_
          refine EL_nil ?_
          obtain rfl := sinj h
          exact hQ _ _ ⟨dB, hfr, t5, i3, x5, j3, l5, rfl⟩
     ·clear hx
      obtain ⟨eB, hfr, n8, o8, q8, r8, t8, x6⟩ := hR
      rcases csome h with ⟨b7, h⟩ | ⟨b7, h⟩
      ·refine E_cond_true (Eq.trans (show ev _ _ = .bool (q5) from x6) (congrArg Value.bool b7)) ?_
       refine E_seq (E_region (EL_at (.bool false) rfl rfl ?_))
       refine EL_nil (thn_n (E_ret (blk_r ?_)))
       refine thn_r ?_
       refine thn_r ?_
       refine blk_r ?_
       refine thn_r ?_
       obtain rfl := sinj h
       exact end1 rfl rfl (show _ = .bool false from rfl) ⟨_, hfr, rfl⟩
      ·refine E_cond_false (Eq.trans (show ev _ _ = .bool (q5) from x6) (congrArg Value.bool b7)) ?_
       exact E_skip (blk_n (thn_n (l9 () _ _ ⟨eB, hfr, n8, o8, q8, r8, t8⟩ h)))
    ·rintro _ oB qC ⟨iB, hfr, v8, x8, y8, a9, d9⟩ h
     refine E_region (EL_mv d9 rfl ?_)
     refine EL_in (.int .i64 ((w64 (j1 + (1 : Int))))) rfl rfl rfl rfl ?_
     refine EL_at (.int .i64 ((w64 (j1 + (1 : Int))))) rfl rfl ?_
     exact EL_nil (thn_n (i9 ((w64 (j1 + (1 : Int)))) _ _ ⟨iB, hfr, v8, x8, y8, a9, rfl⟩ h))
  ·rintro _ tB rC ⟨tC, hfr⟩ h
   refine E_seq (E_region (EL_at (.bool true) rfl rfl ?_))
   refine EL_nil (thn_n (E_ret ?_))
   obtain rfl := sinj h
   exact end1 rfl rfl (show _ = .bool true from rfl) ⟨_, hfr, rfl⟩
end Go.Proofs.YtkmbkaoolacofaaGreat
