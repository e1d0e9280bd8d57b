import Derived.Test.YtmpjooneiaiffaaCode1
set_option maxRecDepth 8000
set_option maxHeartbeats 4000000
namespace Go.Proofs.Ytmpjooneiaiffaa
open Go.RowKit
def f93 (x0 : List Int) (x1 : Int → Option Bool) : Option (Int) :=
 jn (σ := Unit) (fun _ =>
  some ((-1 : Int))
  ) fun k18 =>
 lp (σ := Int) (fun k19 o0 =>
  bif (decide (o0 < ((x0).length : Int))) then
   jn (σ := Unit) (fun _ =>
    k19 ((w64 (o0 + (1 : Int))))
    ) fun k28 =>
   (idx x0 o0).bind fun l5 =>
   (x1 l5).bind fun a7 =>
   bif a7 then
    some (o0)
   else
    k28 ()
  else
   k18 ()
  ) big ((0 : Int))
theorem en93 : Enters Try.prog 93 := enters_of Try.func93 (by kernel_rfl) rfl
theorem wk93 {gI : Gh} {wI : World} {x0 : List Int} {x1 : Int → Option Bool} {up0 : Value} (rp0 : RV gI.m wI x0 up0) {up1 : Value} (rp1 : FnV1 Try.prog x1 up1 gI wI) {r : Int} (h : f93 x0 x1 = some r) : Fn Try.prog 93 #[up0, up1] gI wI (fun _ _ v => v = .int .i64 (r)) := by
 unfold f93 at h
 refine fn_of_E Try.func93 rfl (Nat.le_of_ble_eq_true rfl) fun g0 hm hfr => ?_
 have rp0 : RV g0.m wI x0 up0 := hm ▸ rp0
 obtain ⟨ff1, fa1, fc1, rfl, fen1, fcl1⟩ := rp1
 show E _ 19 none _ _ _ _ _
 refine E_seq (E_region (EL_at (.int .i64 (0)) rfl rfl ?_))
 refine EL_nil (thn_n (E_joinC h (fun (s : Unit) e w => ∃ (g : Gh) , Fr gI wI g w) (fun X18 k18 b7 h => ?_) ?_))
 ·refine E_seq (E_region (EL_mw up0 rfl rfl ?_))
  refine EL_p (.int .i64 ((x0).length : Int)) (P_len Try.underlying22 rfl rp0) rfl ?_
  refine EL_mw (.int .i64 (0)) rfl rfl ?_
  refine EL_nil (thn_n (E_block ?_))
  refine E_lp h (fun (s : Int) e w => ∃ (g : Gh) , Fr gI wI g w ∧ e 0 = up0 ∧ RV g.m w (x0 : List Int) up0 ∧ e 1 = (.func (.func ff1) fa1 fc1) ∧ e 7 = .int .i64 (((x0).length : Int)) ∧ e 8 = .int .i64 (s)) ⟨g0, hfr, rfl, rp0, rfl, rfl, rfl⟩ (fun X19 k19 c7 => ?_)
  rintro o0 u7 g8 ⟨t5, hfr, z3, j1, z4, i5, i3⟩ h
  refine E_seq (E_region (EL_in (.bool ((decide (o0 < ((x0).length : Int))))) i3 i5 rfl rfl ?_))
  refine EL_nil (thn_n (E_seq ?_))
  rcases csome h with ⟨j3, h⟩ | ⟨j3, h⟩
  ·refine E_ct j3 rfl ?_
   refine E_skip (thn_n (E_joinC h (fun (s : Unit) e w => ∃ (g : Gh) , Fr gI wI g w ∧ e 0 = up0 ∧ RV g.m w (x0 : List Int) up0 ∧ e 1 = (.func (.func ff1) fa1 fc1) ∧ e 7 = .int .i64 (((x0).length : Int)) ∧ e 8 = .int .i64 (o0)) (fun X28 k28 d7 h => ?_) ?_))
   ·refine E_block ?_
    refine E_seq (E_region (EL_mv i3 rfl ?_))
    refine EL_at (.int .i64 (o0)) rfl rfl ?_
    refine EL_nil (thn_n (E_seq (E_region (EL_mv z4 rfl ?_))))
    refine EL_mv z3 rfl ?_
    refine EL_mw (.int .i64 (o0)) rfl rfl ?_
    obtain ⟨l5, x5, h⟩ := bsome h
    refine EL_p (ePtr up0 o0 1) (P_indexAddr (α := Int) Try.underlying22 Try.sizeOf3 rfl j1 rfl x5) rfl ?_
    have i7 := PT_idx j1 x5
    refine EL_do .plain rfl (D_load (g := t5) Try.isAgg3 Try.sizeOf3 rfl i7 fun i8 j7 => ?_)
    obtain rfl := RV_int.1 j7
    obtain ⟨a7, g7, h⟩ := bsome h
    refine EL_do .plain rfl (D_callv (g := t5) (vs := [.int .i64 (l5)]) rfl fen1 (.cons rfl .nil) (fcl1 _ _ hfr.ch _ _ _  (RV_int.2 rfl) g7) fun m7 k8 l8 hs hr => ?_)
    have hfr := hfr.ext hs
    have j1 := j1.ext hs
    obtain rfl := RV_bool.1 hr
    refine EL_nil (thn_n ?_)
    rcases csome h with ⟨u3, h⟩ | ⟨u3, h⟩
    ·refine E_ct u3 rfl ?_
     refine E_seq (E_region (EL_mw (.int .i64 (o0)) rfl rfl ?_))
     refine EL_at (.int .i64 (o0)) rfl rfl ?_
     refine EL_nil (thn_n (E_ret (blk_r ?_)))
     refine thn_r ?_
     refine thn_r ?_
     refine blk_r ?_
     refine thn_r ?_
     obtain rfl := sinj h
     exact end1 rfl rfl (show _ = .int .i64 (o0) from rfl) ⟨_, hfr, rfl⟩
    ·refine E_cf u3 rfl ?_
     exact E_skip (blk_n (thn_n (d7 () _ _ ⟨m7, hfr, z3, j1, z4, i5, i3⟩ h)))
   ·rintro _ v7 m8 ⟨o7, hfr, i6, j6, v6, x6, y6⟩ h
    refine E_region (EL_in (.int .i64 ((w64 (o0 + (1 : Int))))) y6 rfl rfl rfl ?_)
    refine EL_mw (.int .i64 ((w64 (o0 + (1 : Int))))) rfl rfl ?_
    exact EL_nil (thn_n (c7 ((w64 (o0 + (1 : Int)))) _ _ ⟨o7, hfr, i6, j6, v6, x6, rfl⟩ h))
  ·refine E_cf j3 rfl ?_
   refine E_exit ?_
   refine thn_e ?_
   refine thn_e ?_
   refine blk_hit ?_
   exact thn_n (b7 () _ _ ⟨t5, hfr⟩ h)
 ·rintro _ c8 n8 ⟨o8, hfr⟩ h
  refine E_seq (E_region (EL_at (.int .i64 (-1)) rfl rfl ?_))
  refine EL_nil (thn_n (E_ret ?_))
  obtain rfl := sinj h
  exact end1 rfl rfl (show _ = .int .i64 (-1) from rfl) ⟨_, hfr, rfl⟩
def f102 (x0 : List BoxShuttle) (x1 : BoxShuttle → Option Bool) : Option (Int) :=
 jn (σ := Unit) (fun _ =>
  some ((-1 : Int))
  ) fun k18 =>
 lp (σ := Int) (fun k19 o0 =>
  bif (decide (o0 < ((x0).length : Int))) then
   jn (σ := Unit) (fun _ =>
    k19 ((w64 (o0 + (1 : Int))))
    ) fun k28 =>
   (idx x0 o0).bind fun y6 =>
   (x1 y6).bind fun a7 =>
   bif a7 then
    some (o0)
   else
    k28 ()
  else
   k18 ()
  ) big ((0 : Int))
theorem en102 : Enters Try.prog 102 := enters_of Try.func102 (by kernel_rfl) rfl
theorem wk102 {gI : Gh} {wI : World} {x0 : List BoxShuttle} {x1 : BoxShuttle → Option Bool} {up0 : Value} (rp0 : RV gI.m wI x0 up0) {up1 : Value} (rp1 : FnV1 Try.prog x1 up1 gI wI) {r : Int} (h : f102 x0 x1 = some r) : Fn Try.prog 102 #[up0, up1] gI wI (fun _ _ v => v = .int .i64 (r)) := by
 unfold f102 at h
 refine fn_of_E Try.func102 rfl (Nat.le_of_ble_eq_true rfl) fun g0 hm hfr => ?_
 have rp0 : RV g0.m wI x0 up0 := hm ▸ rp0
 obtain ⟨ff1, fa1, fc1, rfl, fen1, fcl1⟩ := rp1
 show E _ 19 none _ _ _ _ _
 refine E_seq (E_region (EL_at (.int .i64 (0)) rfl rfl ?_))
 refine EL_nil (thn_n (E_joinC h (fun (s : Unit) e w => ∃ (g : Gh) , Fr gI wI g w) (fun X18 k18 b7 h => ?_) ?_))
 ·refine E_seq (E_region (EL_mw up0 rfl rfl ?_))
  refine EL_p (.int .i64 ((x0).length : Int)) (P_len Try.underlying23 rfl rp0) rfl ?_
  refine EL_mw (.int .i64 (0)) rfl rfl ?_
  refine EL_nil (thn_n (E_block ?_))
  refine E_lp h (fun (s : Int) e w => ∃ (g : Gh) , Fr gI wI g w ∧ e 0 = up0 ∧ RV g.m w (x0 : List BoxShuttle) up0 ∧ e 1 = (.func (.func ff1) fa1 fc1) ∧ e 7 = .int .i64 (((x0).length : Int)) ∧ e 8 = .int .i64 (s)) ⟨g0, hfr, rfl, rp0, rfl, rfl, rfl⟩ (fun X19 k19 c7 => ?_)
  rintro o0 v7 i8 ⟨l5, hfr, z3, j1, z4, i5, i3⟩ h
  refine E_seq (E_region (EL_in (.bool ((decide (o0 < ((x0).length : Int))))) i3 i5 rfl rfl ?_))
  refine EL_nil (thn_n (E_seq ?_))
  rcases csome h with ⟨j3, h⟩ | ⟨j3, h⟩
  ·refine E_ct j3 rfl ?_
   refine E_skip (thn_n (E_joinC h (fun (s : Unit) e w => ∃ (g : Gh) , Fr gI wI g w ∧ e 0 = up0 ∧ RV g.m w (x0 : List BoxShuttle) up0 ∧ e 1 = (.func (.func ff1) fa1 fc1) ∧ e 7 = .int .i64 (((x0).length : Int)) ∧ e 8 = .int .i64 (o0)) (fun X28 k28 d7 h => ?_) ?_))
   ·refine E_block ?_
    refine E_seq (E_region (EL_mv i3 rfl ?_))
    refine EL_at (.int .i64 (o0)) rfl rfl ?_
    refine EL_nil (thn_n (E_seq (E_region (EL_mv z4 rfl ?_))))
    refine EL_mv z3 rfl ?_
    refine EL_mw (.int .i64 (o0)) rfl rfl ?_
    obtain ⟨y6, t5, h⟩ := bsome h
    refine EL_p (ePtr up0 o0 5) (P_indexAddr (α := BoxShuttle) Try.underlying23 Try.sizeOf87 rfl j1 rfl t5) rfl ?_
    have i7 := PT_idx j1 t5
    refine EL_do .plain rfl (D_load (g := l5) Try.isAgg87 Try.sizeOf87 rfl i7 fun j7 m7 => ?_)
    obtain ⟨a7, g7, h⟩ := bsome h
    refine EL_do .plain rfl (D_callv (g := l5) (vs := [j7]) rfl fen1 (.cons rfl .nil) (fcl1 _ _ hfr.ch _ _ _  m7 g7) fun o7 k8 l8 hs hr => ?_)
    have hfr := hfr.ext hs
    have j1 := j1.ext hs
    obtain rfl := RV_bool.1 hr
    refine EL_nil (thn_n ?_)
    rcases csome h with ⟨u3, h⟩ | ⟨u3, h⟩
    ·refine E_ct u3 rfl ?_
     refine E_seq (E_region (EL_mw (.int .i64 (o0)) rfl rfl ?_))
     refine EL_at (.int .i64 (o0)) rfl rfl ?_
     refine EL_nil (thn_n (E_ret (blk_r ?_)))
     refine thn_r ?_
     refine thn_r ?_
     refine blk_r ?_
     refine thn_r ?_
     obtain rfl := sinj h
     exact end1 rfl rfl (show _ = .int .i64 (o0) from rfl) ⟨_, hfr, rfl⟩
    ·refine E_cf u3 rfl ?_
     exact E_skip (blk_n (thn_n (d7 () _ _ ⟨o7, hfr, z3, j1, z4, i5, i3⟩ h)))
   ·rintro _ c8 m8 ⟨u7, hfr, x5, i6, j6, v6, x6⟩ h
    refine E_region (EL_in (.int .i64 ((w64 (o0 + (1 : Int))))) x6 rfl rfl rfl ?_)
    refine EL_mw (.int .i64 ((w64 (o0 + (1 : Int))))) rfl rfl ?_
    exact EL_nil (thn_n (c7 ((w64 (o0 + (1 : Int)))) _ _ ⟨u7, hfr, x5, i6, j6, v6, rfl⟩ h))
  ·refine E_cf j3 rfl ?_
   refine E_exit ?_
   refine thn_e ?_
   refine thn_e ?_
   refine blk_hit ?_
   exact thn_n (b7 () _ _ ⟨l5, hfr⟩ h)
 ·rintro _ g8 n8 ⟨o8, hfr⟩ h
  refine E_seq (E_region (EL_at (.int .i64 (-1)) rfl rfl ?_))
  refine EL_nil (thn_n (E_ret ?_))
  obtain rfl := sinj h
  exact end1 rfl rfl (show _ = .int .i64 (-1) from rfl) ⟨_, hfr, rfl⟩
def f103 (x0 : List Int) (x1 : Int → Option Bool) : Option (Bool) :=
 (f93 x0 x1).bind fun y2 =>
 some ((decide (y2 ≥ (0 : Int))))
theorem en103 : Enters Try.prog 103 := enters_of Try.func103 (by kernel_rfl) rfl
theorem wk103 {gI : Gh} {wI : World} {x0 : List Int} {x1 : Int → Option Bool} {up0 : Value} (rp0 : RV gI.m wI x0 up0) {up1 : Value} (rp1 : FnV1 Try.prog x1 up1 gI wI) {r : Bool} (h : f103 x0 x1 = some r) : Fn Try.prog 103 #[up0, up1] gI wI (fun _ _ v => v = .bool (r)) := by
 unfold f103 at h
 refine fn_of_E Try.func103 rfl (Nat.le_of_ble_eq_true rfl) fun g0 hm hfr => ?_
 have rp0 : RV g0.m wI x0 up0 := hm ▸ rp0
 obtain ⟨ff1, fa1, fc1, rfl, fen1, fcl1⟩ := rp1
 show E _ 9 none _ _ _ _ _
 refine E_seq (E_region (EL_at (.bool false) rfl rfl ?_))
 refine EL_nil (thn_n (E_seq (E_region (EL_mw up0 rfl rfl ?_))))
 refine EL_mw ((.func (.func ff1) fa1 fc1)) rfl rfl ?_
 obtain ⟨y2, hy2, h⟩ := bsome h
 refine EL_do .plain rfl (D_call (g := g0) (vs := [up0, (.func (.func ff1) fa1 fc1)]) en93 (.cons rfl (.cons rfl .nil)) (wk93 rp0 (FnV1.ch ⟨_, _, _, rfl, fen1, fcl1⟩ hfr.ch) hy2) fun g1 w1_ v1 hs hr => ?_)
 have hfr := hfr.ext hs
 subst hr
 refine EL_in (.bool ((decide (y2 ≥ (0 : Int))))) rfl rfl rfl rfl ?_
 refine EL_at (.bool ((decide (y2 ≥ (0 : Int))))) rfl rfl ?_
 refine EL_nil (thn_n (E_ret ?_))
 obtain rfl := sinj h
 exact end1 rfl rfl (show _ = .bool ((decide (y2 ≥ (0 : Int)))) from rfl) ⟨_, hfr, rfl⟩
def f104 (x0 : Int) (z0 : Int) (z1 : Int) : Option (Bool) :=
 Option.bind (α := Bool) (
  bif (decide (x0 < z0)) then
   some (true)
  else
   some ((decide (x0 > z1)))
  ) fun o0 =>
 some (o0)
theorem en104 : Enters Try.prog 104 := enters_of Try.func104 (by kernel_rfl) rfl
theorem wk104 {gI : Gh} {wI : World} {x0 : Int} {z0 : Int} {z1 : Int} {pf0 : Value} (qf0 : PT gI.m wI z0 pf0) {pf1 : Value} (qf1 : PT gI.m wI z1 pf1) {r : Bool} (h : f104 x0 z0 z1 = some r) : Fn Try.prog 104 #[.int .i64 (x0), pf0, pf1] gI wI (fun _ _ v => v = .bool (r)) := by
 unfold f104 at h
 refine fn_of_E Try.func104 rfl (Nat.le_of_ble_eq_true rfl) fun g0 hm hfr => ?_
 have qf0 : PT g0.m wI z0 pf0 := hm ▸ qf0
 have qf1 : PT g0.m wI z1 pf1 := hm ▸ qf1
 show E _ 13 none _ _ _ _ _
 refine E_seq (E_region (EL_at (.bool false) rfl rfl ?_))
 refine EL_nil (thn_n ?_)
 obtain ⟨o0, hx, h⟩ := bsome h
 refine E_join (fun e w => ∃ (g : Gh) , Fr gI wI g w ∧ e 4 = .bool (o0)) (fun Q' hQ => ?_) (fun i3 w7 hR => ?_)
 ·replace h := hx
  clear hx
  refine E_region (EL_mw (.int .i64 (x0)) rfl rfl ?_)
  refine EL_do .plain rfl (D_load (g := g0) Try.isAgg3 Try.sizeOf3 rfl qf0 fun v4 r4 => ?_)
  obtain rfl := RV_int.1 r4
  refine EL_in (.bool ((decide (x0 < z0)))) rfl rfl rfl rfl ?_
  refine EL_mw (.bool ((decide (x0 < z0)))) rfl rfl ?_
  rcases csome h with ⟨hc5, h⟩ | ⟨hc5, h⟩
  ·refine EL_s rfl rfl hc5 rfl rfl ?_
   refine EL_s rfl rfl hc5 rfl rfl ?_
   refine EL_s rfl rfl hc5 rfl rfl ?_
   refine EL_p (.bool true) (P_pick (b := (decide (x0 < z0))) rfl (pick_t hc5 rfl)) rfl ?_
   refine EL_at (.bool true) rfl rfl ?_
   refine EL_nil ?_
   obtain rfl := sinj h
   exact hQ _ _ ⟨g0, hfr, rfl⟩
  ·refine EL_y (.int .i64 (x0)) (P_move rfl) rfl rfl hc5 rfl ?_
   refine EL_do (.yes2 rfl rfl hc5) rfl (D_load (g := g0) Try.isAgg3 Try.sizeOf3 rfl qf1 fun v6 r6 => ?_)
   obtain rfl := RV_int.1 r6
   refine EL_y (.bool ((decide (x0 > z1)))) (P_int rfl rfl rfl) rfl rfl hc5 rfl ?_
   refine EL_p (.bool ((decide (x0 > z1)))) (P_pick (b := (decide (x0 < z0))) rfl (pick_f hc5 rfl)) rfl ?_
   refine EL_at (.bool ((decide (x0 > z1)))) rfl rfl ?_
   refine EL_nil ?_
   obtain rfl := sinj h
   exact hQ _ _ ⟨g0, hfr, rfl⟩
 ·clear hx
  obtain ⟨g7, hfr, j1⟩ := hR
  refine E_ret ?_
  obtain rfl := sinj h
  exact end1 rfl rfl (show _ = .bool (o0) from j1) ⟨_, hfr, rfl⟩
def f105 (x0 : List BoxPick) (x1 : BoxPick → Option Bool) : Option (Int) :=
 jn (σ := Unit) (fun _ =>
  some ((-1 : Int))
  ) fun k18 =>
 lp (σ := Int) (fun k19 o0 =>
  bif (decide (o0 < ((x0).length : Int))) then
   jn (σ := Unit) (fun _ =>
    k19 ((w64 (o0 + (1 : Int))))
    ) fun k28 =>
   (idx x0 o0).bind fun y6 =>
   (x1 y6).bind fun a7 =>
   bif a7 then
    some (o0)
   else
    k28 ()
  else
   k18 ()
  ) big ((0 : Int))
theorem en105 : Enters Try.prog 105 := enters_of Try.func105 (by kernel_rfl) rfl
theorem wk105 {gI : Gh} {wI : World} {x0 : List BoxPick} {x1 : BoxPick → Option Bool} {up0 : Value} (rp0 : RV gI.m wI x0 up0) {up1 : Value} (rp1 : FnV1 Try.prog x1 up1 gI wI) {r : Int} (h : f105 x0 x1 = some r) : Fn Try.prog 105 #[up0, up1] gI wI (fun _ _ v => v = .int .i64 (r)) := by
 unfold f105 at h
 refine fn_of_E Try.func105 rfl (Nat.le_of_ble_eq_true rfl) fun g0 hm hfr => ?_
 have rp0 : RV g0.m wI x0 up0 := hm ▸ rp0
 obtain ⟨ff1, fa1, fc1, rfl, fen1, fcl1⟩ := rp1
 show E _ 19 none _ _ _ _ _
 refine E_seq (E_region (EL_at (.int .i64 (0)) rfl rfl ?_))
 refine EL_nil (thn_n (E_joinC h (fun (s : Unit) e w => ∃ (g : Gh) , Fr gI wI g w) (fun X18 k18 b7 h => ?_) ?_))
 ·refine E_seq (E_region (EL_mw up0 rfl rfl ?_))
  refine EL_p (.int .i64 ((x0).length : Int)) (P_len Try.underlying30 rfl rp0) rfl ?_
  refine EL_mw (.int .i64 (0)) rfl rfl ?_
  refine EL_nil (thn_n (E_block ?_))
  refine E_lp h (fun (s : Int) e w => ∃ (g : Gh) , Fr gI wI g w ∧ e 0 = up0 ∧ RV g.m w (x0 : List BoxPick) up0 ∧ e 1 = (.func (.func ff1) fa1 fc1) ∧ e 7 = .int .i64 (((x0).length : Int)) ∧ e 8 = .int .i64 (s)) ⟨g0, hfr, rfl, rp0, rfl, rfl, rfl⟩ (fun X19 k19 c7 => ?_)
  rintro o0 v7 i8 ⟨l5, hfr, z3, j1, z4, i5, i3⟩ h
  refine E_seq (E_region (EL_in (.bool ((decide (o0 < ((x0).length : Int))))) i3 i5 rfl rfl ?_))
  refine EL_nil (thn_n (E_seq ?_))
  rcases csome h with ⟨j3, h⟩ | ⟨j3, h⟩
  ·refine E_ct j3 rfl ?_
   refine E_skip (thn_n (E_joinC h (fun (s : Unit) e w => ∃ (g : Gh) , Fr gI wI g w ∧ e 0 = up0 ∧ RV g.m w (x0 : List BoxPick) up0 ∧ e 1 = (.func (.func ff1) fa1 fc1) ∧ e 7 = .int .i64 (((x0).length : Int)) ∧ e 8 = .int .i64 (o0)) (fun X28 k28 d7 h => ?_) ?_))
   ·refine E_block ?_
    refine E_seq (E_region (EL_mv i3 rfl ?_))
    refine EL_at (.int .i64 (o0)) rfl rfl ?_
    refine EL_nil (thn_n (E_seq (E_region (EL_mv z4 rfl ?_))))
    refine EL_mv z3 rfl ?_
    refine EL_mw (.int .i64 (o0)) rfl rfl ?_
    obtain ⟨y6, t5, h⟩ := bsome h
    refine EL_p (ePtr up0 o0 2) (P_indexAddr (α := BoxPick) Try.underlying30 Try.sizeOf83 rfl j1 rfl t5) rfl ?_
    have i7 := PT_idx j1 t5
    refine EL_do .plain rfl (D_load (g := l5) Try.isAgg83 Try.sizeOf83 rfl i7 fun j7 m7 => ?_)
    obtain ⟨a7, g7, h⟩ := bsome h
    refine EL_do .plain rfl (D_callv (g := l5) (vs := [j7]) rfl fen1 (.cons rfl .nil) (fcl1 _ _ hfr.ch _ _ _  m7 g7) fun o7 k8 l8 hs hr => ?_)
    have hfr := hfr.ext hs
    have j1 := j1.ext hs
    obtain rfl := RV_bool.1 hr
    refine EL_nil (thn_n ?_)
    rcases csome h with ⟨u3, h⟩ | ⟨u3, h⟩
    ·refine E_ct u3 rfl ?_
     refine E_seq (E_region (EL_mw (.int .i64 (o0)) rfl rfl ?_))
     refine EL_at (.int .i64 (o0)) rfl rfl ?_
     refine EL_nil (thn_n (E_ret (blk_r ?_)))
     refine thn_r ?_
     refine thn_r ?_
     refine blk_r ?_
     refine thn_r ?_
     obtain rfl := sinj h
     exact end1 rfl rfl (show _ = .int .i64 (o0) from rfl) ⟨_, hfr, rfl⟩
    ·refine E_cf u3 rfl ?_
     exact E_skip (blk_n (thn_n (d7 () _ _ ⟨o7, hfr, z3, j1, z4, i5, i3⟩ h)))
   ·rintro _ c8 m8 ⟨u7, hfr, x5, i6, j6, v6, x6⟩ h
    refine E_region (EL_in (.int .i64 ((w64 (o0 + (1 : Int))))) x6 rfl rfl rfl ?_)
    refine EL_mw (.int .i64 ((w64 (o0 + (1 : Int))))) rfl rfl ?_
    exact EL_nil (thn_n (c7 ((w64 (o0 + (1 : Int)))) _ _ ⟨u7, hfr, x5, i6, j6, v6, rfl⟩ h))
  ·refine E_cf j3 rfl ?_
   refine E_exit ?_
   refine thn_e ?_
   refine thn_e ?_
   refine blk_hit ?_
   exact thn_n (b7 () _ _ ⟨l5, hfr⟩ h)
 ·rintro _ g8 n8 ⟨o8, hfr⟩ h
  refine E_seq (E_region (EL_at (.int .i64 (-1)) rfl rfl ?_))
  refine EL_nil (thn_n (E_ret ?_))
  obtain rfl := sinj h
  exact end1 rfl rfl (show _ = .int .i64 (-1) from rfl) ⟨_, hfr, rfl⟩
def f106 (x0 : Int) (x1 : Int) : Option (Int) :=
 some ((w64 ((max64 x0 x1) - (min64 x0 x1))))
theorem en106 : Enters Try.prog 106 := enters_of Try.func106 (by kernel_rfl) rfl
theorem wk106 {gI : Gh} {wI : World} {x0 : Int} {x1 : Int}  {r : Int} (h : f106 x0 x1 = some r) : Fn Try.prog 106 #[.int .i64 (x0), .int .i64 (x1)] gI wI (fun _ _ v => v = .int .i64 (r)) := by
 unfold f106 at h
 refine fn_of_E Try.func106 rfl (Nat.le_of_ble_eq_true rfl) fun g0 hm hfr => ?_
 show E _ 12 none _ _ _ _ _
 refine E_seq (E_region (EL_at (.int .i64 (0)) rfl rfl ?_))
 refine EL_nil (thn_n (E_seq (E_region (EL_mw (.int .i64 (x0)) rfl rfl ?_))))
 refine EL_mw (.int .i64 (x1)) rfl rfl ?_
 refine EL_p (.int .i64 (max64 x0 x1)) (P_max rfl rfl) rfl ?_
 refine EL_mw (.int .i64 (x0)) rfl rfl ?_
 refine EL_mw (.int .i64 (x1)) rfl rfl ?_
 refine EL_p (.int .i64 (min64 x0 x1)) (P_min rfl rfl) rfl ?_
 refine EL_in (.int .i64 ((w64 ((max64 x0 x1) - (min64 x0 x1))))) rfl rfl rfl rfl ?_
 refine EL_at (.int .i64 ((w64 ((max64 x0 x1) - (min64 x0 x1))))) rfl rfl ?_
 refine EL_nil (thn_n (E_ret ?_))
 obtain rfl := sinj h
 exact end1 rfl rfl (show _ = .int .i64 ((w64 ((max64 x0 x1) - (min64 x0 x1)))) from rfl) ⟨_, hfr, rfl⟩
def f107 (x1 : It Int) : Option ((List Int)) :=
 Option.bind (α := (List Int)) (
  (x1 ((List Int)) (fun i5 j3 =>
   (apnd 8 i5 (([j3] : List Int))).bind fun t5 =>
   some (true, (t5))
   ) ((([] : List Int) : List Int))).bind fun l5 =>
  some (l5)
  ) fun u3 =>
 some (u3)
def f114 (x0 : List Int) (x1 : Int) (x2 : Int) : Option ((List Int)) :=
 lp (σ := (List Int) × Int × Int) (fun k1 (i3, o0, j1) =>
  jn (σ := Unit) (fun _ =>
   (idx i3 j1).bind fun y7 =>
   (idx i3 o0).bind fun y9 =>
   (idx i3 o0).bind fun y11 =>
   (idx ((List.set i3 (Int.toNat o0) y7)) j1).bind fun c7 =>
   k1 ((List.set ((List.set i3 (Int.toNat o0) y7)) (Int.toNat j1) y9), (w64 (o0 + (1 : Int))), (w64 (j1 - (1 : Int))))
   ) fun k4 =>
  bif (decide (o0 < j1)) then
   k4 ()
  else
   some (i3)
  ) big (x0, x1, (w64 (x2 - (1 : Int))))
def f126 (x0 : Int) : Option (Bool) :=
 some ((x0 != x0))
def f15 (x0 : BoxLoom) : Option (BoxLoom) :=
 (f50 x0).bind fun y5 =>
 some (y5)
theorem en15 : Enters Try.prog 15 := enters_of Try.func15 (by kernel_rfl) rfl
theorem wk15 {gI : Gh} {wI : World} {x0 : BoxLoom} {up0 : Value} (rp0 : RV gI.m wI x0 up0) {r : BoxLoom} (h : f15 x0 = some r) : Fn Try.prog 15 #[up0] gI wI (fun m w v => RV m w (r) v) := by
 unfold f15 at h
 refine fn_of_E Try.func15 rfl (Nat.le_of_ble_eq_true rfl) fun g0 hm hfr => ?_
 have rp0 : RV g0.m wI x0 up0 := hm ▸ rp0
 show E _ 5 none _ _ _ _ _
 refine E_seq (E_region (EL_do .plain rfl (D_box (g := g0) rfl rp0 fun g1 w1 p1 hs q1 => ?_)))
 have hfr := hfr.ext hs
 refine EL_do .plain rfl (D_allocOc (g := g1) 2002 (⟨[], [], []⟩ : BoxLoom) Try.zeroValue25 (fun m w => ⟨_, (rep_two rep_nil (rep_two rep_nil rep_nil)), rfl⟩) fun g2 w2 p2 hs b2 cb => ?_)
 have hfr := hfr.stp hs
 have q1 := q1.stp hs
 have o0 : OSF 2002 60200 0 g2 w2 3 25 ([] : List Int) p2 := cb.osf (by rfl)
 have j1 : OSF 2002 60201 1 g2 w2 3 25 ([] : List Int) p2 := cb.osf (by rfl)
 have i3 : OSF 2002 60202 2 g2 w2 87 25 ([] : List BoxShuttle) p2 := cb.osf (by rfl)
 clear cb
 refine EL_nil (thn_n (E_seq (E_region (EL_do .plain rfl (D_load (g := g2) Try.isAgg25 Try.sizeOf25 rfl q1 fun v3 r3 => ?_)))))
 obtain ⟨y5, hy5, h⟩ := bsome h
 refine EL_do .plain rfl (D_call (g := g2) (vs := [v3]) en50 (.cons rfl .nil) (wk50 r3 hy5) fun g4 w4_ v4 hs hr => ?_)
 have hfr := hfr.ext hs
 have b2 := b2.ext hs
 have r4 := hr
 refine EL_do .plain rfl (D_storeOc (g := g4) (v := v4) Try.sizeOf25 rfl b2 rfl r4 fun g6 w6 hs b6 cb => ?_)
 clear cb
 have hfr := hfr.stp hs
 refine EL_nil (thn_n (E_ret ?_))
 obtain rfl := sinj h
 obtain ⟨ad7, cv7, hp7, hl7, cr7⟩ := ob_read Try.isAgg25 Try.sizeOf25 b6
 exact endm_c rfl rfl ((show _ = p2 from rfl).trans hp7) hl7 ⟨_, hfr, cr7⟩
def f38 (x0 : Race) : Option (BoxLoom) :=
 (idx ((x0).Boxes).toList (0 : Int)).bind fun y4 =>
 (rem64 ((y4).toNat : Int) (4 : Int)).bind fun y7 =>
 (idx ((x0).Boxes).toList (1 : Int)).bind fun y9 =>
 (rem64 ((y9).toNat : Int) (4 : Int)).bind fun l9 =>
 (idx ((x0).Boxes).toList (2 : Int)).bind fun nD =>
 (idx (([(w64 ((1 : Int) + y7)), (w64 ((1 : Int) + l9))] : List Int)) (0 : Int)).bind fun y23 =>
 (rem64 ((nD).toNat : Int) y23).bind fun l8 =>
 (idx ((x0).Boxes).toList (3 : Int)).bind fun oD =>
 (idx (([(w64 ((1 : Int) + y7)), (w64 ((1 : Int) + l9))] : List Int)) (1 : Int)).bind fun qF =>
 (rem64 ((oD).toNat : Int) qF).bind fun m8 =>
 Option.bind (α := BoxLoom) (
  lp (σ := BoxLoom × (Vector Bool 8) × Int) (fun rF (j1, x5, o0) =>
   jn (σ := Unit) (fun _ =>
    Option.bind (α := BoxLoom × (Vector Bool 8)) (
     Option.bind (α := (Vector UInt8 4)) (
      bif (decide (o0 < (((x0).Shuttles).length : Int))) then
       (idx ((x0).Shuttles) o0).bind fun sF =>
       some (sF)
      else
       some ((⟨List.toArray [0, 0, 0, 0], rfl⟩ : Vector UInt8 4))
      ) fun j3 =>
     (idx ((j1).Boxes) (0 : Int)).bind fun nB =>
     (idx ((j1).Boxes) (1 : Int)).bind fun oB =>
     (rem64 (((j3)[0]).toNat : Int) (w64 (nB + oB))).bind fun u3 =>
     jn (σ := Unit) (fun _ =>
      (idx (x5).toList u3).bind fun dJ =>
      (rem64 (((j3)[1]).toNat : Int) (5 : Int)).bind fun c8 =>
      (rem64 (((j3)[2]).toNat : Int) (12 : Int)).bind fun tB =>
      (rem64 (((j3)[2]).toNat : Int) (12 : Int)).bind fun oA =>
      (rem64 (((j3)[3]).toNat : Int) (5 : Int)).bind fun pA =>
      (f42 tB ((w64 (oA + pA)))).bind fun b7 =>
      Option.bind (α := BoxShuttle) (
       (idx ((j1).Boxes) (0 : Int)).bind fun vB =>
       bif (decide (u3 ≥ vB)) then
        (idx ((j1).Boxes) (0 : Int)).bind fun nA =>
        some ((⟨c8, (1 : Int), (w64 (u3 - nA)), b7⟩ : BoxShuttle))
       else
        some ((⟨c8, 0, u3, b7⟩ : BoxShuttle))
       ) fun d9 =>
      (apnd 40 ((j1).Shuttles) (([d9] : List BoxShuttle))).bind fun xB =>
      some ({ j1 with Shuttles := xB }, (vset x5 u3 true))
      ) fun tF =>
     (idx (x5).toList u3).bind fun uF =>
     bif uF then
      some (j1, x5)
     else
      tF ()
     ) fun (d7, i9) =>
    rF (d7, i9, (w64 (o0 + (1 : Int))))
    ) fun vF =>
   Option.bind (α := Bool) (
    bif (o0 == (0 : Int)) then
     some (true)
    else
     bif (decide (o0 < (((x0).Shuttles).length : Int))) then
      some ((decide (o0 < (6 : Int))))
     else
      some (false)
    ) fun n8 =>
   bif n8 then
    vF ()
   else
    some (j1)
   ) big ((⟨([(w64 ((1 : Int) + y7)), (w64 ((1 : Int) + l9))] : List Int), ([l8, m8] : List Int), []⟩ : BoxLoom), (⟨List.toArray [false, false, false, false, false, false, false, false], rfl⟩ : Vector Bool 8), (0 : Int))
  ) fun k8 =>
 some (k8)
theorem en38 : Enters Try.prog 38 := enters_of Try.func38 (by kernel_rfl) rfl
theorem wk38 {gI : Gh} {wI : World} {x0 : Race} {up0 : Value} (rp0 : RV gI.m wI x0 up0) {r : BoxLoom} (h : f38 x0 = some r) : Fn Try.prog 38 #[up0] gI wI (fun m w v => RV m w (r) v) := by
 unfold f38 at h
 refine fn_of_E Try.func38 rfl (Nat.le_of_ble_eq_true rfl) fun g0 hm hfr => ?_
 have rp0 : RV g0.m wI x0 up0 := hm ▸ rp0
 show E _ 129 none _ _ _ _ _
 refine E_seq (E_region (EL_do .plain rfl (D_box (g := g0) rfl rp0 fun g1 w1 p1 hs q1 => ?_)))
 have hfr := hfr.ext hs
 refine EL_do .plain rfl (D_allocOc (g := g1) 2002 (⟨[], [], []⟩ : BoxLoom) Try.zeroValue25 (fun m w => ⟨_, (rep_two rep_nil (rep_two rep_nil rep_nil)), rfl⟩) fun g2 w2 p2 hs b2 cb => ?_)
 have hfr := hfr.stp hs
 have q1 := q1.stp hs
 have j6 : OSF 2002 60200 0 g2 w2 3 25 ([] : List Int) p2 := cb.osf (by rfl)
 have x6 : OSF 2002 60201 1 g2 w2 3 25 ([] : List Int) p2 := cb.osf (by rfl)
 have y6 : OSF 2002 60202 2 g2 w2 87 25 ([] : List BoxShuttle) p2 := cb.osf (by rfl)
 clear cb
 refine EL_nil (thn_n (E_seq (E_region (EL_p (fPtr p1 0) (P_fieldAddr at_73_0 rfl (PT.ptr q1)) rfl ?_))))
 have q3 := PT_field (part_Race_0).1 q1
 obtain ⟨y4, pI, h⟩ := bsome h
 refine EL_p (fPtr (fPtr p1 0) (((0 : Int) : Int).toNat * 1)) (P_indexAddrA (α := UInt8) Try.underlying69 Try.sizeOf5 rfl (PT.ptr q3) rfl pI) rfl ?_
 have q5 := PT_idxA q3 pI
 refine EL_do .plain rfl (D_load (g := g2) Try.isAgg5 Try.sizeOf5 rfl q5 fun v6 r6 => ?_)
 obtain rfl := RV_u8.1 r6
 refine EL_p (.int .i64 (((y4).toNat : Int))) (P_u8int Try.underlying5 Try.underlying3 rfl) rfl ?_
 obtain ⟨y7, aL, h⟩ := bsome h
 refine EL_p (.int .i64 (y7)) (P_int rfl rfl (congrArg (Option.map (Value.int .i64)) aL)) rfl ?_
 refine EL_in (.int .i64 ((w64 ((1 : Int) + y7)))) rfl rfl rfl rfl ?_
 refine EL_p (fPtr p1 0) (P_fieldAddr at_73_0 rfl (PT.ptr q1)) rfl ?_
 have q8 := PT_field (part_Race_0).1 q1
 obtain ⟨y9, qI, h⟩ := bsome h
 refine EL_p (fPtr (fPtr p1 0) (((1 : Int) : Int).toNat * 1)) (P_indexAddrA (α := UInt8) Try.underlying69 Try.sizeOf5 rfl (PT.ptr q8) rfl qI) rfl ?_
 have bL := PT_idxA q8 qI
 refine EL_do .plain rfl (D_load (g := g2) Try.isAgg5 Try.sizeOf5 rfl bL fun eO cL => ?_)
 obtain rfl := RV_u8.1 cL
 refine EL_p (.int .i64 (((y9).toNat : Int))) (P_u8int Try.underlying5 Try.underlying3 rfl) rfl ?_
 obtain ⟨l9, eJ, h⟩ := bsome h
 refine EL_p (.int .i64 (l9)) (P_int rfl rfl (congrArg (Option.map (Value.int .i64)) eJ)) rfl ?_
 refine EL_in (.int .i64 ((w64 ((1 : Int) + l9)))) rfl rfl rfl rfl ?_
 refine EL_do .plain rfl (D_buildSlice (g := g2) 3021 (xs := ([(w64 ((1 : Int) + y7)), (w64 ((1 : Int) + l9))] : List Int)) (vs := [.int .i64 ((w64 ((1 : Int) + y7))), .int .i64 ((w64 ((1 : Int) + l9)))]) Try.underlying22 Try.sizeOf3 Try.zeroValue3 rfl rfl (.cons rfl (.cons rfl .nil)) (RVs.cons (RV_int.2 rfl) (RVs.cons (RV_int.2 rfl) RVs.nil)) rfl rfl fun rI gO xF hs o13 iB hxt hfl => ?_)
 have hfr := hfr.stp hs
 have q1 := q1.stp hs
 have j6 := j6.stp hs rfl
 have x6 := x6.stp hs rfl
 have y6 := y6.stp hs rfl
 have b2 := b2.stp hs rfl
 have sD : RV rI.m _ (⟨([(w64 ((1 : Int) + y7)), (w64 ((1 : Int) + l9))] : List Int), [], []⟩ : BoxLoom) (.agg (setCh [[.slice none 0 0], [.slice none 0 0], [.slice none 0 0]] [(0, xF)]).flatten.toArray) := RV_build rfl (rep_pair (RV.cells iB) (rep_pair (rep_nil) (rep_last (rep_nil))))
 generalize yB : (Value.agg (setCh [[.slice none 0 0], [.slice none 0 0], [.slice none 0 0]] [(0, xF)]).flatten.toArray) = sI at sD
 obtain ⟨dL, eL, k9, _, _⟩ := RV_list iB
 replace k9 := k9.symm
 refine EL_p sI (yB ▸ P_build (vs := [(0, xF)]) [[.slice none 0 0], [.slice none 0 0], [.slice none 0 0]] lay_25 rfl rfl (.cons rfl .nil) ⟨⟨_, rfl, cells_size iB⟩, trivial⟩) rfl ?_
 refine EL_do .plain rfl (D_allocOc (g := rI) 2003 (⟨[], [], []⟩ : BoxLoom) Try.zeroValue25 (fun m w => ⟨_, (rep_two rep_nil (rep_two rep_nil rep_nil)), rfl⟩) fun tD w15 i3 hs b15 cb => ?_)
 have hfr := hfr.stp hs
 have q1 := q1.stp hs
 have j6 := j6.stp hs rfl
 have x6 := x6.stp hs rfl
 have y6 := y6.stp hs rfl
 have b2 := b2.stp hs rfl
 have iB := iB.stp hs
 have o13 := o13.stp hs rfl
 have sD := sD.stp hs
 have bM : OSF 2003 60300 0 tD w15 3 25 ([] : List Int) i3 := cb.osf (by rfl)
 have cM : OSF 2003 60301 1 tD w15 3 25 ([] : List Int) i3 := cb.osf (by rfl)
 have dM : OSF 2003 60302 2 tD w15 87 25 ([] : List BoxShuttle) i3 := cb.osf (by rfl)
 clear cb
 refine EL_do .plain rfl (D_storeOc (g := tD) (v := sI) Try.sizeOf25 rfl b15 rfl sD fun uD yF hs b16 cb => ?_)
 have eM : OSF 2003 60301 1 uD yF 3 25 ([] : List Int) i3 := cb.osf (by rw [← yB, ← k9]; rfl)
 have i8 : OSF 2003 60302 2 uD yF 87 25 ([] : List BoxShuttle) i3 := cb.osf (by rw [← yB, ← k9]; rfl)
 obtain ⟨gL, iL, kE, _, _⟩ := RV_list iB
 have c7 : OSF 2003 3021 0 uD yF 3 25 (([(w64 ((1 : Int) + y7)), (w64 ((1 : Int) + l9))] : List Int) : List Int) i3 := cb.osfv (by rw [← yB, kE]; rfl) (o13.stp hs rfl)
 clear cb
 have hfr := hfr.stp hs
 have q1 := q1.stp hs
 have j6 := j6.stp hs rfl
 have x6 := x6.stp hs rfl
 have y6 := y6.stp hs rfl
 have b2 := b2.stp hs rfl
 refine EL_nil (thn_n (E_seq ?_))
 have tI := PT_field (part_Race_0).1 q1
 obtain ⟨nD, zF, h⟩ := bsome h
 have jL := PT_idxA tI zF
 refine L_load (x := .tmp 24) Try.isAgg5 Try.sizeOf5 jL fun iO lL gJ => ?_
 obtain rfl := RV_u8.1 lL
 refine L_loadFS (x := .tmp 27) part_BoxLoom_0.1 Try.isAgg22 Try.sizeOf22 b16 c7 fun uI vI o22 iJ => ?_
 obtain ⟨y23, aG, h⟩ := bsome h
 have mL := PT_idx vI aG
 refine L_load (x := .tmp 29) Try.isAgg3 Try.sizeOf3 mL fun jO nL jJ => ?_
 obtain rfl := RV_int.1 nL
 obtain ⟨l8, kJ, h⟩ := bsome h
 have xI := PT_field (part_Race_0).1 q1
 obtain ⟨oD, bG, h⟩ := bsome h
 have oL := PT_idxA xI bG
 refine L_load (x := .tmp 33) Try.isAgg5 Try.sizeOf5 oL fun kO pL lJ => ?_
 obtain rfl := RV_u8.1 pL
 refine L_loadFS (x := .tmp 36) part_BoxLoom_0.1 Try.isAgg22 Try.sizeOf22 b16 c7 fun yI zI o32 mJ => ?_
 obtain ⟨qF, cG, h⟩ := bsome h
 have qL := PT_idx zI cG
 refine L_load (x := .tmp 38) Try.isAgg3 Try.sizeOf3 qL fun lO rL nJ => ?_
 obtain rfl := RV_int.1 rL
 obtain ⟨m8, oJ, h⟩ := bsome h
 refine E_drawL (g := uD) (n := 20) [(18, (fun v g w => RV g.m w ([l8, m8] : List Int) v ∧ OS 3041 g w 3 ([l8, m8] : List Int) v ∧ FullV v))] [0, 1, 2, 3, 4, 5, 6, 7, 8, 9, 10, 11, 12, 13, 14, 15, 16, 17, 18, 19] rfl mixed (by kernel_rfl) (⟨fun _ => up_and up_rv (up_and up_os (up_eq _)), trivial⟩) ?_
 refine L_p (fPtr p1 0) rfl rfl (P_fieldAddr at_73_0 rfl (PT.ptr q1)) ?_
 refine L_p (fPtr (fPtr p1 0) (((2 : Int) : Int).toNat * 1)) rfl rfl (P_indexAddrA (α := UInt8) Try.underlying69 Try.sizeOf5 rfl (PT.ptr tI) rfl zF) ?_
 refine L_ld (c := .int .u8 (UInt8.toNat (nD))) rfl rfl .plain (fun _ _ h => h.ch) gJ rfl ?_
 refine L_p (.int .i64 (((nD).toNat : Int))) rfl rfl (P_u8int Try.underlying5 Try.underlying3 rfl) ?_
 refine L_p (fPtr i3 0) rfl rfl (P_fieldAddr at_25_0 rfl (OB.ptr b16)) ?_
 refine L_ld (c := uI) rfl rfl .plain (fun _ _ h => ⟨h.ch, fun b hb _ => h.below.block b hb⟩) iJ rfl ?_
 refine L_p (ePtr uI (0 : Int) 1) rfl rfl (P_indexAddr (α := Int) Try.underlying22 Try.sizeOf3 rfl vI rfl aG) ?_
 refine L_ld (c := .int .i64 (y23)) rfl rfl .plain (fun _ _ h => h.ch) jJ rfl ?_
 refine L_p (.int .i64 (l8)) rfl rfl (P_int rfl rfl (congrArg (Option.map (Value.int .i64)) kJ)) ?_
 refine L_p (fPtr p1 0) rfl rfl (P_fieldAddr at_73_0 rfl (PT.ptr q1)) ?_
 refine L_p (fPtr (fPtr p1 0) (((3 : Int) : Int).toNat * 1)) rfl rfl (P_indexAddrA (α := UInt8) Try.underlying69 Try.sizeOf5 rfl (PT.ptr xI) rfl bG) ?_
 refine L_ld (c := .int .u8 (UInt8.toNat (oD))) rfl rfl .plain (fun _ _ h => h.ch) lJ rfl ?_
 refine L_p (.int .i64 (((oD).toNat : Int))) rfl rfl (P_u8int Try.underlying5 Try.underlying3 rfl) ?_
 refine L_p (fPtr i3 0) rfl rfl (P_fieldAddr at_25_0 rfl (OB.ptr b16)) ?_
 refine L_ld (c := yI) rfl rfl .plain (fun _ _ h => ⟨h.ch, fun b hb _ => h.below.block b hb⟩) mJ rfl ?_
 refine L_p (ePtr yI (1 : Int) 1) rfl rfl (P_indexAddr (α := Int) Try.underlying22 Try.sizeOf3 rfl zI rfl cG) ?_
 refine L_ld (c := .int .i64 (qF)) rfl rfl .plain (fun _ _ h => h.ch) nJ rfl ?_
 refine L_p (.int .i64 (m8)) rfl rfl (P_int rfl rfl (congrArg (Option.map (Value.int .i64)) oJ)) ?_
 refine L_do (φ := fun v g w => RV g.m w ([l8, m8] : List Int) v ∧ OS 3041 g w 3 ([l8, m8] : List Int) v ∧ FullV v) rfl rfl .plain (fun g w hd => D_buildSlice (g := g) 3041 (xs := ([l8, m8] : List Int)) (vs := [.int .i64 (l8), .int .i64 (m8)]) Try.underlying22 Try.sizeOf3 Try.zeroValue3 rfl rfl (.cons rfl (.cons rfl .nil)) (RVs.cons (RV_int.2 rfl) (RVs.cons (RV_int.2 rfl) RVs.nil)) rfl rfl fun g' w' v hs o r hxt hfl => ⟨g', hxt, r, o, hfl⟩) (fun jB hv => ?_)
 clear hv
 refine L_p (fPtr i3 1) rfl rfl (P_fieldAddr at_25_1 rfl (OB.ptr b16)) ?_
 refine L_nil fun tL mO hall => ?_
 have hs := hall.1
 have hfr := hfr.ext hs
 have q1 := q1.ext hs
 have j6 := j6.ext hs
 have x6 := x6.ext hs
 have y6 := y6.ext hs
 have b2 := b2.ext hs
 have i8 := i8.ext hs
 have c7 := c7.ext hs
 have b16 := b16.ext hs
 have aJ := (word_all (A := fun g w => RV g.m w ([l8, m8] : List Int) jB ∧ OS 3041 g w 3 ([l8, m8] : List Int) jB ∧ FullV jB) 18 rfl hall).1
 have o77 := (word_all (A := fun g w => RV g.m w ([l8, m8] : List Int) jB ∧ OS 3041 g w 3 ([l8, m8] : List Int) jB ∧ FullV jB) 18 rfl hall).2.1
 clear hs hall
 refine EL_do .plain rfl (D_storeFc (g := tL) part_BoxLoom_1 Try.sizeOf22 rfl b16 rfl aJ fun bJ uL hs b79 rst hos => ?_)
 have i8 := i8.rest hs rst
 have c7 := c7.rest hs rst
 have n9 := hos _ _ 3041 3 (([l8, m8] : List Int) : List Int) (rv_cells1 aJ) rfl o77
 clear rst hos
 have hfr := hfr.stp hs
 have q1 := q1.stp hs
 have j6 := j6.stp hs rfl
 have x6 := x6.stp hs rfl
 have y6 := y6.stp hs rfl
 have b2 := b2.stp hs rfl
 refine EL_nil (thn_n (E_seq (E_region ?_)))
 have vD : RV bJ.m uL (⟨List.toArray [false, false, false, false, false, false, false, false], rfl⟩ : Vector Bool 8) (.agg (setCh [[.bool false], [.bool false], [.bool false], [.bool false], [.bool false], [.bool false], [.bool false], [.bool false]] []).flatten.toArray) := RV_build rfl (rep_vec (flat_chunk rep_bool (flat_chunk rep_bool (flat_chunk rep_bool (flat_chunk rep_bool (flat_chunk rep_bool (flat_chunk rep_bool (flat_chunk rep_bool (flat_chunk rep_bool flat_nil)))))))) rfl)
 generalize pJ : (Value.agg (setCh [[.bool false], [.bool false], [.bool false], [.bool false], [.bool false], [.bool false], [.bool false], [.bool false]] []).flatten.toArray) = cJ at vD
 refine EL_p cJ (pJ ▸ P_buildA (vs := []) [[.bool false], [.bool false], [.bool false], [.bool false], [.bool false], [.bool false], [.bool false], [.bool false]] Try.underlying137 layA_137 szA_4 rfl (by simp) .nil trivial) rfl ?_
 refine EL_do .plain rfl (D_allocOc (g := bJ) 2004 ((⟨List.toArray [false, false, false, false, false, false, false, false], rfl⟩ : Vector Bool 8) : Vector Bool 8) Try.zeroValue137 (fun m w => ⟨_, (rep_vec (flat_chunk rep_bool (flat_chunk rep_bool (flat_chunk rep_bool (flat_chunk rep_bool (flat_chunk rep_bool (flat_chunk rep_bool (flat_chunk rep_bool (flat_chunk rep_bool flat_nil)))))))) rfl), rfl⟩) fun vL nO g8 hs b81 cb => ?_)
 have hfr := hfr.stp hs
 have q1 := q1.stp hs
 have j6 := j6.stp hs rfl
 have x6 := x6.stp hs rfl
 have y6 := y6.stp hs rfl
 have b2 := b2.stp hs rfl
 have i8 := i8.stp hs rfl
 have c7 := c7.stp hs rfl
 have n9 := n9.stp hs rfl
 have b79 := b79.stp hs rfl
 have vD := vD.stp hs
 clear cb
 refine EL_do .plain rfl (D_storeOc (g := vL) (v := cJ) Try.sizeOf137 rfl b81 rfl vD fun xL oO hs b82 cb => ?_)
 clear cb
 have hfr := hfr.stp hs
 have q1 := q1.stp hs
 have j6 := j6.stp hs rfl
 have x6 := x6.stp hs rfl
 have y6 := y6.stp hs rfl
 have b2 := b2.stp hs rfl
 have i8 := i8.stp hs rfl
 have c7 := c7.stp hs rfl
 have n9 := n9.stp hs rfl
 have b79 := b79.stp hs rfl
 refine EL_nil (thn_n ?_)
 obtain ⟨k8, hx, h⟩ := bsome h
 refine E_join (fun e w => ∃ (g : Gh) , Fr gI wI g w ∧ e 2 = p2 ∧ OB 2002 g w 25 ((⟨[], [], []⟩ : BoxLoom) : BoxLoom) p2 ∧ OSF 2002 60200 0 g w 3 25 (((⟨[], [], []⟩ : BoxLoom)).Boxes) p2 ∧ OSF 2002 60201 1 g w 3 25 (((⟨[], [], []⟩ : BoxLoom)).At) p2 ∧ OSF 2002 60202 2 g w 87 25 (((⟨[], [], []⟩ : BoxLoom)).Shuttles) p2 ∧ e 3 = i3 ∧ OB 2003 g w 25 (k8 : BoxLoom) i3 ∧ OSF 2003 3021 0 g w 3 25 ((k8).Boxes) i3 ∧ OSF 2003 3041 1 g w 3 25 ((k8).At) i3 ∧ OSF 2003 60302 2 g w 87 25 ((k8).Shuttles) i3) (fun Q' hQ => ?_) (fun yL gM hR => ?_)
 ·replace h := hx
  clear hx
  refine E_seq (E_region (EL_at (.int .i64 (0)) rfl rfl ?_))
  refine EL_nil (thn_n (E_block ?_))
  refine E_lp h (fun (s : BoxLoom × (Vector Bool 8) × Int) e w => ∃ (g : Gh) , Fr gI wI g w ∧ e 1 = p1 ∧ PT g.m w (x0 : Race) p1 ∧ e 2 = p2 ∧ OB 2002 g w 25 ((⟨[], [], []⟩ : BoxLoom) : BoxLoom) p2 ∧ OSF 2002 60200 0 g w 3 25 (((⟨[], [], []⟩ : BoxLoom)).Boxes) p2 ∧ OSF 2002 60201 1 g w 3 25 (((⟨[], [], []⟩ : BoxLoom)).At) p2 ∧ OSF 2002 60202 2 g w 87 25 (((⟨[], [], []⟩ : BoxLoom)).Shuttles) p2 ∧ e 3 = i3 ∧ OB 2003 g w 25 (s.1 : BoxLoom) i3 ∧ OSF 2003 3021 0 g w 3 25 ((s.1).Boxes) i3 ∧ OSF 2003 3041 1 g w 3 25 ((s.1).At) i3 ∧ OSF 2003 60302 2 g w 87 25 ((s.1).Shuttles) i3 ∧ e 4 = g8 ∧ OB 2004 g w 137 (s.2.1 : Vector Bool 8) g8 ∧ e 5 = .int .i64 (s.2.2)) ⟨xL, hfr, rfl, q1, rfl, b2, j6, x6, y6, rfl, b79, c7, n9, i8, rfl, b82, rfl⟩ (fun X602 rF vG => ?_)
  rintro ⟨j1, x5, o0⟩ iM gN ⟨zB, hfr, o9, x8, qA, rA, u2_0_603, u2_1_603, u2_2_603, uA, xA, u3_0_603, u3_1_603, u3_2_603, yA, zA, o8⟩ h
  refine E_joinC h (fun (s : Unit) e w => ∃ (g : Gh) , Fr gI wI g w ∧ e 1 = p1 ∧ PT g.m w (x0 : Race) p1 ∧ e 2 = p2 ∧ OB 2002 g w 25 ((⟨[], [], []⟩ : BoxLoom) : BoxLoom) p2 ∧ OSF 2002 60200 0 g w 3 25 (((⟨[], [], []⟩ : BoxLoom)).Boxes) p2 ∧ OSF 2002 60201 1 g w 3 25 (((⟨[], [], []⟩ : BoxLoom)).At) p2 ∧ OSF 2002 60202 2 g w 87 25 (((⟨[], [], []⟩ : BoxLoom)).Shuttles) p2 ∧ e 3 = i3 ∧ OB 2003 g w 25 (j1 : BoxLoom) i3 ∧ OSF 2003 3021 0 g w 3 25 ((j1).Boxes) i3 ∧ OSF 2003 3041 1 g w 3 25 ((j1).At) i3 ∧ OSF 2003 60302 2 g w 87 25 ((j1).Shuttles) i3 ∧ e 4 = g8 ∧ OB 2004 g w 137 (x5 : Vector Bool 8) g8 ∧ e 5 = .int .i64 (o0)) (fun X614 vF xG h => ?_) ?_
  ·obtain ⟨n8, hx, h⟩ := bsome h
   refine E_join (fun e w => ∃ (g : Gh) , Fr gI wI g w ∧ e 1 = p1 ∧ PT g.m w (x0 : Race) p1 ∧ e 2 = p2 ∧ OB 2002 g w 25 ((⟨[], [], []⟩ : BoxLoom) : BoxLoom) p2 ∧ OSF 2002 60200 0 g w 3 25 (((⟨[], [], []⟩ : BoxLoom)).Boxes) p2 ∧ OSF 2002 60201 1 g w 3 25 (((⟨[], [], []⟩ : BoxLoom)).At) p2 ∧ OSF 2002 60202 2 g w 87 25 (((⟨[], [], []⟩ : BoxLoom)).Shuttles) p2 ∧ e 3 = i3 ∧ OB 2003 g w 25 (j1 : BoxLoom) i3 ∧ OSF 2003 3021 0 g w 3 25 ((j1).Boxes) i3 ∧ OSF 2003 3041 1 g w 3 25 ((j1).At) i3 ∧ OSF 2003 60302 2 g w 87 25 ((j1).Shuttles) i3 ∧ e 4 = g8 ∧ OB 2004 g w 137 (x5 : Vector Bool 8) g8 ∧ e 5 = .int .i64 (o0) ∧ e 56 = .bool (n8)) (fun Q' hQ => ?_) (fun jM iN hR => ?_)
   ·replace h := hx
    clear hx
    refine E_region (EL_mv o8 rfl ?_)
    refine EL_in (.bool ((o0 == (0 : Int)))) rfl rfl rfl rfl ?_
    refine EL_mw (.bool ((o0 == (0 : Int)))) rfl rfl ?_
    rcases csome h with ⟨z4, h⟩ | ⟨z4, h⟩
    ·refine EL_s rfl rfl z4 rfl rfl ?_
     iterate 5 refine EL_s rfl rfl z4 rfl rfl ?_
     refine EL_skip (.off rfl rfl) rfl ?_
     refine EL_skip (.off rfl rfl) rfl ?_
     refine EL_s rfl rfl z4 rfl rfl ?_
     refine EL_p (.bool true) (P_pick (b := (o0 == (0 : Int))) rfl (pick_t z4 rfl)) rfl ?_
     refine EL_nil ?_
     obtain rfl := sinj h
     exact hQ _ _ ⟨zB, hfr, o9, x8, qA, rA, u2_0_603, u2_1_603, u2_2_603, uA, xA, u3_0_603, u3_1_603, u3_2_603, yA, zA, o8, rfl⟩
    ·refine EL_y (.int .i64 (o0)) (P_move o8) rfl rfl z4 rfl ?_
     refine EL_y (fPtr p1 4) (P_fieldAddr at_73_1 o9 (PT.ptr x8)) rfl rfl z4 rfl ?_
     have qJ := PT_field (part_Race_1).1 x8
     refine EL_do (.yes2 rfl rfl z4) rfl (D_load (g := zB) Try.isAgg70 Try.sizeOf70 rfl qJ fun jN rJ => ?_)
     refine EL_y (.int .i64 (((x0).Shuttles).length : Int)) (P_len Try.underlying70 rfl rJ) rfl rfl z4 rfl ?_
     refine EL_y (.bool ((decide (o0 < (((x0).Shuttles).length : Int))))) (P_int rfl rfl rfl) rfl rfl z4 rfl ?_
     refine EL_y (.bool ((decide (o0 < (((x0).Shuttles).length : Int))))) (P_move rfl) rfl rfl z4 rfl ?_
     rcases csome h with ⟨t8, h⟩ | ⟨t8, h⟩
     ·refine EL_y (.int .i64 (o0)) (P_move o8) rfl rfl t8 rfl ?_
      refine EL_y (.bool ((decide (o0 < (6 : Int))))) (P_int rfl rfl rfl) rfl rfl t8 rfl ?_
      refine EL_y (.bool ((decide (o0 < (6 : Int))))) (P_pick (b := (decide (o0 < (((x0).Shuttles).length : Int)))) rfl (pick_t t8 rfl)) rfl rfl z4 rfl ?_
      refine EL_p (.bool ((decide (o0 < (6 : Int))))) (P_pick (b := (o0 == (0 : Int))) rfl (pick_f z4 rfl)) rfl ?_
      refine EL_nil ?_
      obtain rfl := sinj h
      exact hQ _ _ ⟨zB, hfr, o9, x8, qA, rA, u2_0_603, u2_1_603, u2_2_603, uA, xA, u3_0_603, u3_1_603, u3_2_603, yA, zA, o8, rfl⟩
     ·refine EL_s rfl rfl t8 rfl rfl ?_
      refine EL_s rfl rfl t8 rfl rfl ?_
      refine EL_y (.bool false) (P_pick (b := (decide (o0 < (((x0).Shuttles).length : Int)))) rfl (pick_f t8 rfl)) rfl rfl z4 rfl ?_
      refine EL_p (.bool false) (P_pick (b := (o0 == (0 : Int))) rfl (pick_f z4 rfl)) rfl ?_
      refine EL_nil ?_
      obtain rfl := sinj h
      exact hQ _ _ ⟨zB, hfr, o9, x8, qA, rA, u2_0_603, u2_1_603, u2_2_603, uA, xA, u3_0_603, u3_1_603, u3_2_603, yA, zA, o8, rfl⟩
   ·clear hx
    obtain ⟨dG, hfr, eG, gG, kC, lC, u2_0_623, u2_1_623, u2_2_623, mC, qC, u3_0_623, u3_1_623, u3_2_623, hG, iG, jG, lB⟩ := hR
    rcases csome h with ⟨aC, h⟩ | ⟨aC, h⟩
    ·refine E_cond_true (Eq.trans (show ev _ _ = .bool (n8) from lB) (congrArg Value.bool aC)) ?_
     exact E_skip (thn_n (xG () _ _ ⟨dG, hfr, eG, gG, kC, lC, u2_0_623, u2_1_623, u2_2_623, mC, qC, u3_0_623, u3_1_623, u3_2_623, hG, iG, jG⟩ h))
    ·refine E_cond_false (Eq.trans (show ev _ _ = .bool (n8) from lB) (congrArg Value.bool aC)) ?_
     refine E_exit ?_
     refine thn_e ?_
     refine thn_e ?_
     refine blk_hit ?_
     obtain rfl := sinj h
     exact hQ _ _ ⟨dG, hfr, kC, lC, u2_0_623, u2_1_623, u2_2_623, mC, qC, u3_0_623, u3_1_623, u3_2_623⟩
  ·rintro _ kM sJ ⟨kG, hfr, t9, i5, rC, m7, u2_0_625, u2_1_625, u2_2_625, tC, o7, u3_0_625, u3_1_625, u3_2_625, uC, u7, u9⟩ h
   obtain ⟨⟨d7, i9⟩, hx, h⟩ := bsome h
   refine E_join (fun e w => ∃ (g : Gh) , Fr gI wI g w ∧ e 1 = p1 ∧ PT g.m w (x0 : Race) p1 ∧ e 2 = p2 ∧ OB 2002 g w 25 ((⟨[], [], []⟩ : BoxLoom) : BoxLoom) p2 ∧ OSF 2002 60200 0 g w 3 25 (((⟨[], [], []⟩ : BoxLoom)).Boxes) p2 ∧ OSF 2002 60201 1 g w 3 25 (((⟨[], [], []⟩ : BoxLoom)).At) p2 ∧ OSF 2002 60202 2 g w 87 25 (((⟨[], [], []⟩ : BoxLoom)).Shuttles) p2 ∧ e 3 = i3 ∧ OB 2003 g w 25 (d7 : BoxLoom) i3 ∧ OSF 2003 3021 0 g w 3 25 ((d7).Boxes) i3 ∧ OSF 2003 3041 1 g w 3 25 ((d7).At) i3 ∧ OSF 2003 60302 2 g w 87 25 ((d7).Shuttles) i3 ∧ e 4 = g8 ∧ OB 2004 g w 137 (i9 : Vector Bool 8) g8 ∧ e 5 = .int .i64 (o0)) (fun Q' hQ => ?_) (fun zL mM hR => ?_)
   ·replace h := hx
    clear hx
    refine E_block ?_
    refine E_seq (E_region ?_)
    have cC : RV kG.m sJ (⟨List.toArray [0, 0, 0, 0], rfl⟩ : Vector UInt8 4) (.agg (setCh [[.int .u8 0], [.int .u8 0], [.int .u8 0], [.int .u8 0]] []).flatten.toArray) := RV_build rfl (rep_vec (flat_chunk rep_u8 (flat_chunk rep_u8 (flat_chunk rep_u8 (flat_chunk rep_u8 flat_nil)))) rfl)
    generalize yG : (Value.agg (setCh [[.int .u8 0], [.int .u8 0], [.int .u8 0], [.int .u8 0]] []).flatten.toArray) = lG at cC
    refine EL_p lG (yG ▸ P_buildA (vs := []) [[.int .u8 0], [.int .u8 0], [.int .u8 0], [.int .u8 0]] Try.underlying69 layA_69 szA_5 rfl (by simp) .nil trivial) rfl ?_
    refine EL_do .plain rfl (D_allocOc (g := kG) 2006 ((⟨List.toArray [0, 0, 0, 0], rfl⟩ : Vector UInt8 4) : Vector UInt8 4) Try.zeroValue69 (fun m w => ⟨_, (rep_vec (flat_chunk rep_u8 (flat_chunk rep_u8 (flat_chunk rep_u8 (flat_chunk rep_u8 flat_nil)))) rfl), rfl⟩) fun tJ kN v8 hs b874 cb => ?_)
    have hfr := hfr.stp hs
    have i5 := i5.stp hs
    have u2_0_625 := u2_0_625.stp hs rfl
    have u2_1_625 := u2_1_625.stp hs rfl
    have u2_2_625 := u2_2_625.stp hs rfl
    have m7 := m7.stp hs rfl
    have u3_0_625 := u3_0_625.stp hs rfl
    have u3_1_625 := u3_1_625.stp hs rfl
    have u3_2_625 := u3_2_625.stp hs rfl
    have o7 := o7.stp hs rfl
    have u7 := u7.stp hs rfl
    have cC := cC.stp hs
    clear cb
    refine EL_do .plain rfl (D_storeOc (g := tJ) (v := lG) Try.sizeOf69 rfl b874 rfl cC fun aB lN hs b875 cb => ?_)
    clear cb
    have hfr := hfr.stp hs
    have i5 := i5.stp hs
    have u2_0_625 := u2_0_625.stp hs rfl
    have u2_1_625 := u2_1_625.stp hs rfl
    have u2_2_625 := u2_2_625.stp hs rfl
    have m7 := m7.stp hs rfl
    have u3_0_625 := u3_0_625.stp hs rfl
    have u3_1_625 := u3_1_625.stp hs rfl
    have u3_2_625 := u3_2_625.stp hs rfl
    have o7 := o7.stp hs rfl
    have u7 := u7.stp hs rfl
    refine EL_nil (thn_n ?_)
    obtain ⟨j3, hx, h⟩ := bsome h
    refine E_join (fun e w => ∃ (g : Gh) , Fr gI wI g w ∧ e 1 = p1 ∧ PT g.m w (x0 : Race) p1 ∧ e 2 = p2 ∧ OB 2002 g w 25 ((⟨[], [], []⟩ : BoxLoom) : BoxLoom) p2 ∧ OSF 2002 60200 0 g w 3 25 (((⟨[], [], []⟩ : BoxLoom)).Boxes) p2 ∧ OSF 2002 60201 1 g w 3 25 (((⟨[], [], []⟩ : BoxLoom)).At) p2 ∧ OSF 2002 60202 2 g w 87 25 (((⟨[], [], []⟩ : BoxLoom)).Shuttles) p2 ∧ e 3 = i3 ∧ OB 2003 g w 25 (j1 : BoxLoom) i3 ∧ OSF 2003 3021 0 g w 3 25 ((j1).Boxes) i3 ∧ OSF 2003 3041 1 g w 3 25 ((j1).At) i3 ∧ OSF 2003 60302 2 g w 87 25 ((j1).Shuttles) i3 ∧ e 4 = g8 ∧ OB 2004 g w 137 (x5 : Vector Bool 8) g8 ∧ e 5 = .int .i64 (o0) ∧ e 6 = v8 ∧ OB 2006 g w 69 (j3 : Vector UInt8 4) v8) (fun Q' hQ => ?_) (fun nM mN hR => ?_)
    ·replace h := hx
     clear hx
     refine E_seq (E_region (EL_mv u9 rfl ?_))
     refine EL_p (fPtr p1 4) (P_fieldAddr at_73_1 t9 (PT.ptr i5)) rfl ?_
     have uJ := PT_field (part_Race_1).1 i5
     refine EL_do .plain rfl (D_load (g := aB) Try.isAgg70 Try.sizeOf70 rfl uJ fun nN vJ => ?_)
     refine EL_p (.int .i64 (((x0).Shuttles).length : Int)) (P_len Try.underlying70 rfl vJ) rfl ?_
     refine EL_p (.bool ((decide (o0 < (((x0).Shuttles).length : Int))))) (P_int rfl rfl rfl) rfl ?_
     refine EL_nil (thn_n ?_)
     rcases csome h with ⟨dC, h⟩ | ⟨dC, h⟩
     ·refine E_ct dC rfl ?_
      refine E_region (EL_p (fPtr p1 4) (P_fieldAddr at_73_1 t9 (PT.ptr i5)) rfl ?_)
      have xJ := PT_field (part_Race_1).1 i5
      refine EL_do .plain rfl (D_load (g := aB) Try.isAgg70 Try.sizeOf70 rfl xJ fun yJ mG => ?_)
      refine EL_mv u9 rfl ?_
      obtain ⟨sF, xD, h⟩ := bsome h
      refine EL_p (ePtr yJ o0 4) (P_indexAddr (α := Vector UInt8 4) Try.underlying70 Try.sizeOf69 rfl mG rfl xD) rfl ?_
      have zJ := PT_idx mG xD
      refine EL_do .plain rfl (D_load (g := aB) Try.isAgg69 Try.sizeOf69 rfl zJ fun aK bK => ?_)
      refine EL_do .plain rfl (D_storeOc (g := aB) (v := aK) Try.sizeOf69 rfl b875 rfl bK fun cK oN hs b893 cb => ?_)
      clear cb
      have hfr := hfr.stp hs
      have i5 := i5.stp hs
      have u2_0_625 := u2_0_625.stp hs rfl
      have u2_1_625 := u2_1_625.stp hs rfl
      have u2_2_625 := u2_2_625.stp hs rfl
      have m7 := m7.stp hs rfl
      have u3_0_625 := u3_0_625.stp hs rfl
      have u3_1_625 := u3_1_625.stp hs rfl
      have u3_2_625 := u3_2_625.stp hs rfl
      have o7 := o7.stp hs rfl
      have u7 := u7.stp hs rfl
      refine EL_nil ?_
      obtain rfl := sinj h
      exact hQ _ _ ⟨cK, hfr, t9, i5, rC, m7, u2_0_625, u2_1_625, u2_2_625, tC, o7, u3_0_625, u3_1_625, u3_2_625, uC, u7, u9, rfl, b893⟩
     ·refine E_cf dC rfl ?_
      refine E_skip ?_
      obtain rfl := sinj h
      exact hQ _ _ ⟨aB, hfr, t9, i5, rC, m7, u2_0_625, u2_1_625, u2_2_625, tC, o7, u3_0_625, u3_1_625, u3_2_625, uC, u7, u9, rfl, b875⟩
    ·clear hx
     obtain ⟨dK, hfr, vC, z9, xC, bA, u2_0_894, u2_1_894, u2_2_894, gA, v7, u3_0_894, u3_1_894, u3_2_894, bB, r8, yC, aD, y8⟩ := hR
     refine E_seq (L_loadO (x := .tmp 70) (SubS.vec (β := UInt8) (n := 4) (i := 0) (by decide)).1 Try.isAgg5 Try.sizeOf5 y8 fun pN eK zG => ?_)
     obtain rfl := RV_u8.1 eK
     refine L_loadFS (x := .tmp 73) part_BoxLoom_0.1 Try.isAgg22 Try.sizeOf22 v7 u3_0_894 fun nG oG o897 aH => ?_
     obtain ⟨nB, yD, h⟩ := bsome h
     have lK := PT_idx oG yD
     refine L_load (x := .tmp 75) Try.isAgg3 Try.sizeOf3 lK fun qN mK bH => ?_
     obtain rfl := RV_int.1 mK
     refine L_loadFS (x := .tmp 77) part_BoxLoom_0.1 Try.isAgg22 Try.sizeOf22 v7 u3_0_894 fun pG qG o902 cH => ?_
     obtain ⟨oB, zD, h⟩ := bsome h
     have nK := PT_idx qG zD
     refine L_load (x := .tmp 79) Try.isAgg3 Try.sizeOf3 nK fun rN oK dH => ?_
     obtain rfl := RV_int.1 oK
     obtain ⟨u3, gH, h⟩ := bsome h
     refine E_drawL (g := dK) (n := 14) [] [0, 1, 2, 3, 4, 5, 6, 7, 8, 9, 10, 11, 12, 13] rfl mixed (by kernel_rfl) trivial ?_
     refine L_p (fPtr v8 0) rfl rfl (P_indexAddrA (α := UInt8) (i := (0 : Int)) Try.underlying69 Try.sizeOf5 aD (OB.ptr y8) rfl (idx_vec (v := j3) (i := 0) (by decide))) ?_
     refine L_ld (c := .int .u8 (UInt8.toNat ((j3)[0]))) rfl rfl .plain (fun _ _ h => ⟨h.ch, fun b hb _ => h.below.block b hb⟩) zG rfl ?_
     refine L_p (.int .i64 ((((j3)[0]).toNat : Int))) rfl rfl (P_u8int Try.underlying5 Try.underlying3 rfl) ?_
     refine L_p (fPtr i3 0) rfl rfl (P_fieldAddr at_25_0 gA (OB.ptr v7)) ?_
     refine L_ld (c := nG) rfl rfl .plain (fun _ _ h => ⟨h.ch, fun b hb _ => h.below.block b hb⟩) aH rfl ?_
     refine L_p (ePtr nG (0 : Int) 1) rfl rfl (P_indexAddr (α := Int) Try.underlying22 Try.sizeOf3 rfl oG rfl yD) ?_
     refine L_ld (c := .int .i64 (nB)) rfl rfl .plain (fun _ _ h => h.ch) bH rfl ?_
     refine L_p (fPtr i3 0) rfl rfl (P_fieldAddr at_25_0 gA (OB.ptr v7)) ?_
     refine L_ld (c := pG) rfl rfl .plain (fun _ _ h => ⟨h.ch, fun b hb _ => h.below.block b hb⟩) cH rfl ?_
     refine L_p (ePtr pG (1 : Int) 1) rfl rfl (P_indexAddr (α := Int) Try.underlying22 Try.sizeOf3 rfl qG rfl zD) ?_
     refine L_ld (c := .int .i64 (oB)) rfl rfl .plain (fun _ _ h => h.ch) dH rfl ?_
     refine L_p (.int .i64 ((w64 (nB + oB)))) rfl rfl (P_int rfl rfl rfl) ?_
     refine L_p (.int .i64 (u3)) rfl rfl (P_int rfl rfl (congrArg (Option.map (Value.int .i64)) gH)) ?_
     refine L_p (.int .i64 (u3)) rfl rfl (P_assign rfl) ?_
     refine L_nl fun kD sN hs => ?_
     have hfr := hfr.ext hs
     have z9 := z9.ext hs
     have u2_0_894 := u2_0_894.ext hs
     have u2_1_894 := u2_1_894.ext hs
     have u2_2_894 := u2_2_894.ext hs
     have bA := bA.ext hs
     have u3_0_894 := u3_0_894.ext hs
     have u3_1_894 := u3_1_894.ext hs
     have u3_2_894 := u3_2_894.ext hs
     have v7 := v7.ext hs
     have r8 := r8.ext hs
     have y8 := y8.ext hs
     clear hs
     refine EL_nil (thn_n (E_joinC h (fun (s : Unit) e w => ∃ (g : Gh) , Fr gI wI g w ∧ e 1 = p1 ∧ PT g.m w (x0 : Race) p1 ∧ e 2 = p2 ∧ OB 2002 g w 25 ((⟨[], [], []⟩ : BoxLoom) : BoxLoom) p2 ∧ OSF 2002 60200 0 g w 3 25 (((⟨[], [], []⟩ : BoxLoom)).Boxes) p2 ∧ OSF 2002 60201 1 g w 3 25 (((⟨[], [], []⟩ : BoxLoom)).At) p2 ∧ OSF 2002 60202 2 g w 87 25 (((⟨[], [], []⟩ : BoxLoom)).Shuttles) p2 ∧ e 3 = i3 ∧ OB 2003 g w 25 (j1 : BoxLoom) i3 ∧ OSF 2003 3021 0 g w 3 25 ((j1).Boxes) i3 ∧ OSF 2003 3041 1 g w 3 25 ((j1).At) i3 ∧ OSF 2003 60302 2 g w 87 25 ((j1).Shuttles) i3 ∧ e 4 = g8 ∧ OB 2004 g w 137 (x5 : Vector Bool 8) g8 ∧ e 5 = .int .i64 (o0) ∧ e 6 = v8 ∧ OB 2006 g w 69 (j3 : Vector UInt8 4) v8 ∧ e 7 = .int .i64 (u3)) (fun X932 tF iH h => ?_) ?_))
     ·refine E_seq (E_region (EL_mw (.int .i64 (u3)) rfl rfl ?_))
      obtain ⟨uF, aE, h⟩ := bsome h
      obtain ⟨hi934, he934⟩ := vat_idx aE
      refine EL_p (fPtr g8 ((u3 : Int).toNat * 1)) (P_indexAddrA (α := Bool) Try.underlying137 Try.sizeOf4 bB (OB.ptr r8) rfl aE) rfl ?_
      refine EL_do .plain rfl (D_loadD (g := kD) (SubS.dyn hi934).1 he934 Try.isAgg4 Try.sizeOf4 rfl r8 fun tN pK => ?_)
      obtain rfl := RV_bool.1 pK
      refine EL_nil (thn_n ?_)
      rcases csome h with ⟨eC, h⟩ | ⟨eC, h⟩
      ·refine E_ct eC rfl ?_
       refine E_exit ?_
       refine thn_e ?_
       refine blk_hit ?_
       obtain ⟨rfl, rfl⟩ := pairs2 h
       exact hQ _ _ ⟨kD, hfr, vC, z9, xC, bA, u2_0_894, u2_1_894, u2_2_894, gA, v7, u3_0_894, u3_1_894, u3_2_894, bB, r8, yC⟩
      ·refine E_cf eC rfl ?_
       exact E_skip (thn_n (iH () _ _ ⟨kD, hfr, vC, z9, xC, bA, u2_0_894, u2_1_894, u2_2_894, gA, v7, u3_0_894, u3_1_894, u3_2_894, bB, r8, yC, aD, y8, rfl⟩ h))
     ·rintro _ oM uN ⟨qK, hfr, bD, l5, cD, t5, u2_0_937, u2_1_937, u2_2_937, iA, z3, u3_0_937, u3_1_937, u3_2_937, cB, eD, gD, jA, i6, lA⟩ h
      refine E_seq (E_region (EL_mv lA rfl ?_))
      obtain ⟨dJ, bE, h⟩ := bsome h
      obtain ⟨hi939, he939⟩ := vat_idx bE
      refine EL_p (fPtr g8 ((u3 : Int).toNat * 1)) (P_indexAddrA (α := Bool) Try.underlying137 Try.sizeOf4 cB (OB.ptr eD) rfl bE) rfl ?_
      refine EL_do .plain rfl (D_storeFc (g := qK) (SubS.dyn hi939) Try.sizeOf4 rfl eD rfl (RV_bool.2 rfl) fun sK vN hs b940 rst hos => ?_)
      clear rst hos
      have hfr := hfr.stp hs
      have l5 := l5.stp hs
      have u2_0_937 := u2_0_937.stp hs rfl
      have u2_1_937 := u2_1_937.stp hs rfl
      have u2_2_937 := u2_2_937.stp hs rfl
      have t5 := t5.stp hs rfl
      have u3_0_937 := u3_0_937.stp hs rfl
      have u3_1_937 := u3_1_937.stp hs rfl
      have u3_2_937 := u3_2_937.stp hs rfl
      have z3 := z3.stp hs rfl
      have i6 := i6.stp hs rfl
      refine EL_nil (thn_n (E_seq (L_loadO (x := .tmp 88) (SubS.vec (β := UInt8) (n := 4) (i := 1) (by decide)).1 Try.isAgg5 Try.sizeOf5 i6 fun xN tK jH => ?_)))
      obtain rfl := RV_u8.1 tK
      obtain ⟨c8, kH, h⟩ := bsome h
      refine L_loadO (x := .tmp 93) (SubS.vec (β := UInt8) (n := 4) (i := 2) (by decide)).1 Try.isAgg5 Try.sizeOf5 i6 fun yN uK lH => ?_
      obtain rfl := RV_u8.1 uK
      obtain ⟨tB, mH, h⟩ := bsome h
      refine L_loadO (x := .tmp 97) (SubS.vec (β := UInt8) (n := 4) (i := 2) (by decide)).1 Try.isAgg5 Try.sizeOf5 i6 fun zN vK nH => ?_
      obtain rfl := RV_u8.1 vK
      obtain ⟨oA, oH, h⟩ := bsome h
      refine L_loadO (x := .tmp 101) (SubS.vec (β := UInt8) (n := 4) (i := 3) (by decide)).1 Try.isAgg5 Try.sizeOf5 i6 fun aO xK pH => ?_
      obtain rfl := RV_u8.1 xK
      obtain ⟨pA, qH, h⟩ := bsome h
      obtain ⟨b7, sH, h⟩ := bsome h
      refine E_drawL (g := sK) (n := 21) [(18, (fun v g w => RV g.m w b7 v)), (20, (fun v g w => OB 2008 g w 87 (⟨0, 0, 0, ⟨0, 0⟩⟩ : BoxShuttle) v))] [0, 1, 2, 3, 4, 5, 6, 7, 8, 9, 10, 11, 12, 13, 14, 15, 16, 17, 18, 19, 20] rfl mixed (by kernel_rfl) (⟨fun _ => up_rv, fun _ => up_ob, trivial⟩) ?_
      refine L_p (fPtr v8 1) rfl rfl (P_indexAddrA (α := UInt8) (i := (1 : Int)) Try.underlying69 Try.sizeOf5 jA (OB.ptr i6) rfl (idx_vec (v := j3) (i := 1) (by decide))) ?_
      refine L_ld (c := .int .u8 (UInt8.toNat ((j3)[1]))) rfl rfl .plain (fun _ _ h => ⟨h.ch, fun b hb _ => h.below.block b hb⟩) jH rfl ?_
      refine L_p (.int .i64 ((((j3)[1]).toNat : Int))) rfl rfl (P_u8int Try.underlying5 Try.underlying3 rfl) ?_
      refine L_p (.int .i64 (c8)) rfl rfl (P_int rfl rfl (congrArg (Option.map (Value.int .i64)) kH)) ?_
      refine L_p (.int .i64 (u3)) rfl rfl (P_move lA) ?_
      refine L_p (fPtr v8 2) rfl rfl (P_indexAddrA (α := UInt8) (i := (2 : Int)) Try.underlying69 Try.sizeOf5 jA (OB.ptr i6) rfl (idx_vec (v := j3) (i := 2) (by decide))) ?_
      refine L_ld (c := .int .u8 (UInt8.toNat ((j3)[2]))) rfl rfl .plain (fun _ _ h => ⟨h.ch, fun b hb _ => h.below.block b hb⟩) lH rfl ?_
      refine L_p (.int .i64 ((((j3)[2]).toNat : Int))) rfl rfl (P_u8int Try.underlying5 Try.underlying3 rfl) ?_
      refine L_p (.int .i64 (tB)) rfl rfl (P_int rfl rfl (congrArg (Option.map (Value.int .i64)) mH)) ?_
      refine L_p (fPtr v8 2) rfl rfl (P_indexAddrA (α := UInt8) (i := (2 : Int)) Try.underlying69 Try.sizeOf5 jA (OB.ptr i6) rfl (idx_vec (v := j3) (i := 2) (by decide))) ?_
      refine L_ld (c := .int .u8 (UInt8.toNat ((j3)[2]))) rfl rfl .plain (fun _ _ h => ⟨h.ch, fun b hb _ => h.below.block b hb⟩) nH rfl ?_
      refine L_p (.int .i64 ((((j3)[2]).toNat : Int))) rfl rfl (P_u8int Try.underlying5 Try.underlying3 rfl) ?_
      refine L_p (.int .i64 (oA)) rfl rfl (P_int rfl rfl (congrArg (Option.map (Value.int .i64)) oH)) ?_
      refine L_p (fPtr v8 3) rfl rfl (P_indexAddrA (α := UInt8) (i := (3 : Int)) Try.underlying69 Try.sizeOf5 jA (OB.ptr i6) rfl (idx_vec (v := j3) (i := 3) (by decide))) ?_
      refine L_ld (c := .int .u8 (UInt8.toNat ((j3)[3]))) rfl rfl .plain (fun _ _ h => ⟨h.ch, fun b hb _ => h.below.block b hb⟩) pH rfl ?_
      refine L_p (.int .i64 ((((j3)[3]).toNat : Int))) rfl rfl (P_u8int Try.underlying5 Try.underlying3 rfl) ?_
      refine L_p (.int .i64 (pA)) rfl rfl (P_int rfl rfl (congrArg (Option.map (Value.int .i64)) qH)) ?_
      refine L_p (.int .i64 ((w64 (oA + pA)))) rfl rfl (P_int rfl rfl rfl) ?_
      refine L_do (φ := fun v g w => RV g.m w b7 v) rfl rfl .plain (fun g w hd => D_call (g := g) (vs := [.int .i64 (tB), .int .i64 ((w64 (oA + pA)))]) en42 (.cons rfl (.cons rfl .nil)) (wk42  sH) fun g' w' v hs hr => ⟨g', hs, hr⟩) (fun dB hv => ?_)
      obtain ⟨_, _, _, rq949⟩ := hv
      obtain ⟨lD, cE⟩ : ∃ v, v = (Value.agg (setCh [[.int .i64 0], [.int .i64 0], [.int .i64 0], [.int .i64 0, .int .i64 0]] [(0, .int .i64 (c8)), (2, .int .i64 (u3)), (3, dB)]).flatten.toArray) := ⟨_, rfl⟩
      refine L_pur (c := lD) rfl rfl .plain (fun _ _ hd => cE ▸ P_build (vs := [(0, .int .i64 (c8)), (2, .int .i64 (u3)), (3, dB)]) [[.int .i64 0], [.int .i64 0], [.int .i64 0], [.int .i64 0, .int .i64 0]] lay_87 rfl rfl (.cons rfl (.cons rfl (.cons rfl .nil))) ⟨⟨_, rfl, rfl⟩, ⟨⟨_, rfl, rfl⟩, ⟨⟨_, rfl, cells_size (word (A := fun g w => RV g.m w b7 dB) 18 rfl rfl (deps_of hd))⟩, trivial⟩⟩⟩) ?_
      refine L_do (φ := fun v g w => OB 2008 g w 87 (⟨0, 0, 0, ⟨0, 0⟩⟩ : BoxShuttle) v) rfl rfl .plain (fun g w hd => D_allocX (g := g) 2008 (⟨0, 0, 0, ⟨0, 0⟩⟩ : BoxShuttle) Try.zeroValue87 (fun m w => ⟨_, (rep_two rep_int (rep_two rep_int (rep_two rep_int (rep_two rep_int rep_int)))), rfl⟩) fun g' w' v hs b => ⟨g', hs, b⟩) (fun a9 hv => ?_)
      clear hv
      refine L_nil fun yK bO hall => ?_
      have hs := hall.1
      have hfr := hfr.ext hs
      have l5 := l5.ext hs
      have u2_0_937 := u2_0_937.ext hs
      have u2_1_937 := u2_1_937.ext hs
      have u2_2_937 := u2_2_937.ext hs
      have t5 := t5.ext hs
      have u3_0_937 := u3_0_937.ext hs
      have u3_1_937 := u3_1_937.ext hs
      have u3_2_937 := u3_2_937.ext hs
      have z3 := z3.ext hs
      have b940 := b940.ext hs
      have cO := (word_all (A := fun g w => RV g.m w b7 dB) 18 rfl hall)
      have zK := (show RV _ _ (⟨c8, 0, u3, b7⟩ : BoxShuttle) lD from cE ▸ RV_build rfl (rep_pair (rfl) (rep_pair (rep_int) (rep_pair (rfl) (rep_last (RV.cells (word_all (A := fun g w => RV g.m w b7 dB) 18 rfl hall)))))))
      have b983 := (word_all (A := fun g w => OB 2008 g w 87 (⟨0, 0, 0, ⟨0, 0⟩⟩ : BoxShuttle) a9) 20 rfl hall)
      clear hs hall
      refine EL_do .plain rfl (D_storeOc (g := yK) (v := lD) Try.sizeOf87 rfl b983 rfl zK fun mD dO hs b984 cb => ?_)
      clear cb
      have hfr := hfr.stp hs
      have l5 := l5.stp hs
      have u2_0_937 := u2_0_937.stp hs rfl
      have u2_1_937 := u2_1_937.stp hs rfl
      have u2_2_937 := u2_2_937.stp hs rfl
      have t5 := t5.stp hs rfl
      have u3_0_937 := u3_0_937.stp hs rfl
      have u3_1_937 := u3_1_937.stp hs rfl
      have u3_2_937 := u3_2_937.stp hs rfl
      have z3 := z3.stp hs rfl
      have b940 := b940.stp hs rfl
      refine EL_nil (thn_n ?_)
      obtain ⟨d9, hx, h⟩ := bsome h
      refine E_join (fun e w => ∃ (g : Gh) , Fr gI wI g w ∧ e 1 = p1 ∧ PT g.m w (x0 : Race) p1 ∧ e 2 = p2 ∧ OB 2002 g w 25 ((⟨[], [], []⟩ : BoxLoom) : BoxLoom) p2 ∧ OSF 2002 60200 0 g w 3 25 (((⟨[], [], []⟩ : BoxLoom)).Boxes) p2 ∧ OSF 2002 60201 1 g w 3 25 (((⟨[], [], []⟩ : BoxLoom)).At) p2 ∧ OSF 2002 60202 2 g w 87 25 (((⟨[], [], []⟩ : BoxLoom)).Shuttles) p2 ∧ e 3 = i3 ∧ OB 2003 g w 25 (j1 : BoxLoom) i3 ∧ OSF 2003 3021 0 g w 3 25 ((j1).Boxes) i3 ∧ OSF 2003 3041 1 g w 3 25 ((j1).At) i3 ∧ OSF 2003 60302 2 g w 87 25 ((j1).Shuttles) i3 ∧ e 4 = g8 ∧ OB 2004 g w 137 ((vset x5 u3 true) : Vector Bool 8) g8 ∧ e 5 = .int .i64 (o0) ∧ e 8 = a9 ∧ OB 2008 g w 87 (d9 : BoxShuttle) a9) (fun Q' hQ => ?_) (fun aM pM hR => ?_)
      ·replace h := hx
       clear hx
       refine E_seq (E_region (EL_mv lA rfl ?_))
       refine EL_p (fPtr i3 0) (P_fieldAddr at_25_0 iA (OB.ptr z3)) rfl ?_
       refine EL_do .plain rfl (D_loadFS (g := mD) part_BoxLoom_0.1 Try.isAgg22 Try.sizeOf22 rfl z3 u3_0_937 fun tH dE o1049 => ?_)
       obtain ⟨vB, iD, h⟩ := bsome h
       refine EL_p (ePtr tH (0 : Int) 1) (P_indexAddr (α := Int) Try.underlying22 Try.sizeOf3 rfl dE rfl iD) rfl ?_
       have uH := PT_idx dE iD
       refine EL_do .plain rfl (D_load (g := mD) Try.isAgg3 Try.sizeOf3 rfl uH fun qM vH => ?_)
       obtain rfl := RV_int.1 vH
       refine EL_in (.bool ((decide (u3 ≥ vB)))) rfl rfl rfl rfl ?_
       refine EL_nil (thn_n ?_)
       rcases csome h with ⟨eB, h⟩ | ⟨eB, h⟩
       ·refine E_ct eB rfl ?_
        refine L_loadO (x := .tmp 115) part_BoxLoom_0.1 Try.isAgg22 Try.sizeOf22 z3 fun eE gE rG => ?_
        obtain ⟨nA, jD, h⟩ := bsome h
        have xH := PT_idx gE jD
        refine L_load (x := .tmp 117) Try.isAgg3 Try.sizeOf3 xH fun rM yH sG => ?_
        obtain rfl := RV_int.1 yH
        refine E_drawB (a0 := ((⟨c8, 0, u3, b7⟩ : BoxShuttle) : BoxShuttle)) (a1 := ((⟨c8, (1 : Int), u3, b7⟩ : BoxShuttle) : BoxShuttle)) b984 (n := 9) [(7, (fun _ g w => OB 2008 g w 87 ((⟨c8, (1 : Int), u3, b7⟩ : BoxShuttle) : BoxShuttle) a9))] [0, 1, 2, 3, 4, 5, 6, 7, 8] rfl mixed (by kernel_rfl) (⟨fun _ => up_box, trivial⟩) ?_
        refine L_p (.int .i64 (u3)) rfl rfl (P_move lA) ?_
        refine L_p (fPtr i3 0) rfl rfl (P_fieldAddr at_25_0 iA (OB.ptr z3)) ?_
        refine L_ld (c := eE) rfl rfl .plain (fun _ _ h => ⟨h.1.ch, fun b hb ho => h.1.block b hb (by rw [ho]; decide)⟩) rG rfl ?_
        refine L_p (ePtr eE (0 : Int) 1) rfl rfl (P_indexAddr (α := Int) Try.underlying22 Try.sizeOf3 rfl gE rfl jD) ?_
        refine L_ld (c := .int .i64 (nA)) rfl rfl .plain (fun _ _ h => h.1.ch) sG rfl ?_
        refine L_p (.int .i64 ((w64 (u3 - nA)))) rfl rfl (P_int rfl rfl rfl) ?_
        refine L_p (fPtr a9 1) rfl rfl (P_fieldAddr at_87_1 rfl (OB.ptr b984)) ?_
        refine L_do (φ := fun _ g w => OB 2008 g w 87 ((⟨c8, (1 : Int), u3, b7⟩ : BoxShuttle) : BoxShuttle) a9) rfl rfl .plain (fun g w hd => D_storeR (g := g) (by rfl) (by exact rfl) part_BoxShuttle_1 Try.sizeOf3 rfl hd.1.2 rfl (RV_int.2 rfl)) (fun sM hv => ?_)
        clear hv
        refine L_p (fPtr a9 2) rfl rfl (P_fieldAddr at_87_2 rfl (OB.ptr b984)) ?_
        refine L_nil fun zH tM hall => ?_
        have hs := hall.1.1
        have hfr := hfr.stp hs
        have l5 := l5.stp hs
        have u2_0_937 := u2_0_937.stp hs rfl
        have u2_1_937 := u2_1_937.stp hs rfl
        have u2_2_937 := u2_2_937.stp hs rfl
        have t5 := t5.stp hs rfl
        have u3_0_937 := u3_0_937.stp hs rfl
        have u3_1_937 := u3_1_937.stp hs rfl
        have u3_2_937 := u3_2_937.stp hs rfl
        have z3 := z3.stp hs rfl
        have b940 := b940.stp hs rfl
        have b1095 := (word_all (A := fun g w => OB 2008 g w 87 ((⟨c8, (1 : Int), u3, b7⟩ : BoxShuttle) : BoxShuttle) a9) 7 rfl hall)
        clear hs hall
        refine EL_do .plain rfl (D_storeFc (g := zH) part_BoxShuttle_2 Try.sizeOf3 rfl b1095 rfl (RV_int.2 rfl) fun aI uM hs b1110 rst hos => ?_)
        clear rst hos
        have hfr := hfr.stp hs
        have l5 := l5.stp hs
        have u2_0_937 := u2_0_937.stp hs rfl
        have u2_1_937 := u2_1_937.stp hs rfl
        have u2_2_937 := u2_2_937.stp hs rfl
        have t5 := t5.stp hs rfl
        have u3_0_937 := u3_0_937.stp hs rfl
        have u3_1_937 := u3_1_937.stp hs rfl
        have u3_2_937 := u3_2_937.stp hs rfl
        have z3 := z3.stp hs rfl
        have b940 := b940.stp hs rfl
        refine EL_nil ?_
        obtain rfl := sinj h
        exact hQ _ _ ⟨aI, hfr, bD, l5, cD, t5, u2_0_937, u2_1_937, u2_2_937, iA, z3, u3_0_937, u3_1_937, u3_2_937, cB, b940, gD, rfl, b1110⟩
       ·refine E_cf eB rfl ?_
        refine E_skip ?_
        obtain rfl := sinj h
        exact hQ _ _ ⟨mD, hfr, bD, l5, cD, t5, u2_0_937, u2_1_937, u2_2_937, iA, z3, u3_0_937, u3_1_937, u3_2_937, cB, b940, gD, rfl, b984⟩
      ·clear hx
       obtain ⟨iC, hfr, lE, g7, mE, i7, u2_0_1111, u2_1_1111, u2_2_1111, mA, a7, u3_0_1111, u3_1_1111, u3_2_1111, nE, j7, oE, rE, sE⟩ := hR
       refine E_region (EL_p (fPtr i3 2) (P_fieldAddr at_25_2 mA (OB.ptr a7)) rfl ?_)
       refine EL_do .plain rfl (D_loadFS (g := iC) part_BoxLoom_2.1 Try.isAgg23 Try.sizeOf23 rfl a7 u3_2_1111 fun vM jC o1113 => ?_)
       refine EL_do .plain rfl (D_loadO (g := iC) Try.isAgg87 Try.sizeOf87 rE sE fun bI cI => ?_)
       refine EL_do .plain rfl (D_buildSlice (g := iC) 3125 (xs := ([d9] : List BoxShuttle)) (vs := [bI]) Try.underlying23 Try.sizeOf87 Try.zeroValue87 rfl rfl (.cons rfl .nil) (RVs.cons cI RVs.nil) rfl rfl fun dI xM yM hs o1115 iI hxt hfl => ?_)
       have hfr := hfr.stp hs
       have g7 := g7.stp hs
       have u2_0_1111 := u2_0_1111.stp hs rfl
       have u2_1_1111 := u2_1_1111.stp hs rfl
       have u2_2_1111 := u2_2_1111.stp hs rfl
       have i7 := i7.stp hs rfl
       have u3_0_1111 := u3_0_1111.stp hs rfl
       have u3_1_1111 := u3_1_1111.stp hs rfl
       have a7 := a7.stp hs rfl
       have j7 := j7.stp hs rfl
       have jC := jC.stp hs
       have o1113 := o1113.stp hs rfl
       obtain ⟨xB, tG, h⟩ := bsome h
       refine EL_do .plain rfl (D_append (g := dI) (i := 60302) Try.underlying23 info_87 rfl rfl o1113 jC rfl iI tG fun jI zM bN hs o1116 iE _ => ?_)
       have hfr := hfr.stp hs
       have g7 := g7.stp hs
       have u2_0_1111 := u2_0_1111.stp hs rfl
       have u2_1_1111 := u2_1_1111.stp hs rfl
       have u2_2_1111 := u2_2_1111.stp hs rfl
       have i7 := i7.stp hs rfl
       have u3_0_1111 := u3_0_1111.stp hs rfl
       have u3_1_1111 := u3_1_1111.stp hs rfl
       have a7 := a7.stp hs rfl
       have j7 := j7.stp hs rfl
       refine EL_p (fPtr i3 2) (P_fieldAddr at_25_2 mA (OB.ptr a7)) rfl ?_
       refine EL_do .plain rfl (D_storeFc (g := jI) part_BoxLoom_2 Try.sizeOf23 rfl a7 rfl iE fun kI cN hs b1119 rst hos => ?_)
       have u3_0_1111 := u3_0_1111.rest hs rst
       have u3_1_1111 := u3_1_1111.rest hs rst
       have tE := hos _ _ 60302 87 (xB : List BoxShuttle) (rv_cells1 iE) rfl o1116
       clear rst hos
       have hfr := hfr.stp hs
       have g7 := g7.stp hs
       have u2_0_1111 := u2_0_1111.stp hs rfl
       have u2_1_1111 := u2_1_1111.stp hs rfl
       have u2_2_1111 := u2_2_1111.stp hs rfl
       have i7 := i7.stp hs rfl
       have j7 := j7.stp hs rfl
       refine EL_nil (blk_n ?_)
       obtain ⟨rfl, rfl⟩ := pairs2 h
       exact hQ _ _ ⟨kI, hfr, lE, g7, mE, i7, u2_0_1111, u2_1_1111, u2_2_1111, mA, b1119, u3_0_1111, u3_1_1111, tE, nE, j7, oE⟩
   ·clear hx
    obtain ⟨lI, hfr, uE, vE, xE, yE, u2_0_1120, u2_1_1120, u2_2_1120, zE, cF, u3_0_1120, u3_1_1120, u3_2_1120, dF, eF, iF⟩ := hR
    refine E_region (EL_mv iF rfl ?_)
    refine EL_in (.int .i64 ((w64 (o0 + (1 : Int))))) rfl rfl rfl rfl ?_
    refine EL_at (.int .i64 ((w64 (o0 + (1 : Int))))) rfl rfl ?_
    exact EL_nil (thn_n (vG (d7, i9, (w64 (o0 + (1 : Int)))) _ _ ⟨lI, hfr, uE, vE, xE, yE, u2_0_1120, u2_1_1120, u2_2_1120, zE, cF, u3_0_1120, u3_1_1120, u3_2_1120, dF, eF, rfl⟩ h))
 ·clear hx
  obtain ⟨jE, hfr, mB, nF, u2_0_1121, u2_1_1121, u2_2_1121, oF, pF, u3_0_1121, u3_1_1121, u3_2_1121⟩ := hR
  refine E_seq (E_region (EL_do .plain rfl (D_loadO (g := jE) Try.isAgg25 Try.sizeOf25 oF pF fun mI nI => ?_)))
  refine EL_do .plain rfl (D_storeOc (g := jE) (v := mI) Try.sizeOf25 mB nF rfl nI fun dN eN hs b1123 cb => ?_)
  clear cb
  have hfr := hfr.stp hs
  refine EL_nil (thn_n (E_ret ?_))
  obtain rfl := sinj h
  obtain ⟨ad1124, cv1124, hp1124, uG, cr1124⟩ := ob_read Try.isAgg25 Try.sizeOf25 b1123
  exact endm_c rfl rfl ((show _ = p2 from mB).trans hp1124) uG ⟨_, hfr, cr1124⟩
def f39 (x0 : Race) (x1 : BoxLoom) (x2 : Int) : Option ((List BoxPick) × (List Int) × (Vector (Vector Int 4) 2) × Int) :=
 (f45 x1).bind fun y6 =>
 (idx ((x1).At) (0 : Int)).bind fun bB =>
 (idx ((x1).At) (1 : Int)).bind fun cB =>
 Option.bind (α := (List BoxPick) × (List Int) × (Vector (Vector Int 4) 2) × Int) (
  lp (σ := (List BoxPick) × (List Int) × (Vector (Vector Int 4) 2) × Int × (Vector Int 2) × Int) (fun qF (i5, i7, j6, o7, o0, u3) =>
   jn (σ := Unit) (fun _ =>
    Option.bind (α := (List BoxPick) × (List Int) × (Vector (Vector Int 4) 2) × Int × (Vector Int 2)) (
     (idx ((x0).Picks) u3).bind fun mC =>
     (idx ((x1).Boxes) (0 : Int)).bind fun eE =>
     (rem64 ((mC).toNat : Int) eE).bind fun qC =>
     (idx ((x0).Picks) u3).bind fun rC =>
     (quo64 ((rC).toNat : Int) (8 : Int)).bind fun gE =>
     (idx ((x1).Boxes) (1 : Int)).bind fun iE =>
     (rem64 gE iE).bind fun tC =>
     (f49 qC tC).bind fun j1 =>
     (idx (j6).toList (0 : Int)).bind fun rF =>
     (idx (rF).toList (j1).Left).bind fun u7 =>
     (idx (j6).toList (1 : Int)).bind fun sF =>
     (idx (sF).toList (j1).Right).bind fun j7 =>
     jn (σ := Unit) (fun _ =>
      (idx (j6).toList (0 : Int)).bind fun tF =>
      (idx (tF).toList (j1).Left).bind fun kJ =>
      (idx ((vmod j6 ((0 : Int)) (fun b => (vset b ((j1).Left) j7)))).toList (1 : Int)).bind fun uF =>
      (idx (uF).toList (j1).Right).bind fun lJ =>
      (apnd 16 i5 (([j1] : List BoxPick))).bind fun vF =>
      (apnd 8 i7 (([(w64 ((w64 (u7 + j7)) - (1 : Int)))] : List Int))).bind fun xF =>
      some (vF, xF, (vmod ((vmod j6 ((0 : Int)) (fun b => (vset b ((j1).Left) j7)))) ((1 : Int)) (fun b => (vset b ((j1).Right) u7))), (w64 (o7 + (w64 ((w64 ((w64 ((max64 (o0)[0] (j1).Left) - (min64 (o0)[0] (j1).Left))) + (max64 (o0)[1] (j1).Right))) - (min64 (o0)[1] (j1).Right))))), (⟨List.toArray [(j1).Left, (j1).Right], rfl⟩ : Vector Int 2))
      ) fun yF =>
     bif ((u7 == (0 : Int)) == (j7 == (0 : Int))) then
      some (i5, i7, j6, o7, o0)
     else
      yF ()
     ) fun (a9, d9, nA, oA, o9) =>
    qF (a9, d9, nA, oA, o9, (w64 (u3 + (1 : Int))))
    ) fun zF =>
   Option.bind (α := Bool) (
    bif (decide (u3 < (((x0).Picks).length : Int))) then
     some ((decide (((i5).length : Int) < x2)))
    else
     some (false)
    ) fun x8 =>
   bif x8 then
    zF ()
   else
    some (i5, i7, j6, o7)
   ) big ([], [], y6, (0 : Int), (⟨List.toArray [bB, cB], rfl⟩ : Vector Int 2), (0 : Int))
  ) fun (pA, qA, dB, y8) =>
 some (pA, qA, dB, y8)
theorem en39 : Enters Try.prog 39 := enters_of Try.func39 (by kernel_rfl) rfl
theorem wk39 {gI : Gh} {wI : World} {x0 : Race} {x1 : BoxLoom} {x2 : Int} {up0 : Value} (rp0 : RV gI.m wI x0 up0) {up1 : Value} (rp1 : RV gI.m wI x1 up1) {r : (List BoxPick) × (List Int) × (Vector (Vector Int 4) 2) × Int} (h : f39 x0 x1 x2 = some r) : Fn Try.prog 39 #[up0, up1, .int .i64 (x2)] gI wI (fun m w v => ∃ y0 y1 y2 y3, v = .tuple #[y0, y1, y2, y3] ∧ RV m w (r.1) y0 ∧ RV m w (r.2.1) y1 ∧ RV m w (r.2.2.1) y2 ∧ y3 = .int .i64 (r.2.2.2)) := by
 unfold f39 at h
 refine fn_of_E Try.func39 rfl (Nat.le_of_ble_eq_true rfl) fun g0 hm hfr => ?_
 have rp0 : RV g0.m wI x0 up0 := hm ▸ rp0
 have rp1 : RV g0.m wI x1 up1 := hm ▸ rp1
 show E _ 133 none _ _ _ _ _
 refine E_seq (E_region (EL_do .plain rfl (D_box (g := g0) rfl rp0 fun g1 w1 p1 hs q1 => ?_)))
 have hfr := hfr.ext hs
 have rp0 := rp0.ext hs
 have rp1 := rp1.ext hs
 refine EL_do .plain rfl (D_box (g := g1) rfl rp1 fun g2 w2 p2 hs q2 => ?_)
 have hfr := hfr.ext hs
 have rp0 := rp0.ext hs
 have rp1 := rp1.ext hs
 have q1 := q1.ext hs
 refine EL_at (.slice none 0 0) rfl rfl ?_
 refine EL_at (.slice none 0 0) rfl rfl ?_
 refine EL_do .plain rfl (D_allocOc (g := g2) 2008 ((⟨List.toArray [(⟨List.toArray [0, 0, 0, 0], rfl⟩ : Vector Int 4), (⟨List.toArray [0, 0, 0, 0], rfl⟩ : Vector Int 4)], rfl⟩ : Vector (Vector Int 4) 2) : Vector (Vector Int 4) 2) Try.zeroValue76 (fun m w => ⟨_, (rep_vec (flat_chunk (rep_vec (flat_chunk rep_int (flat_chunk rep_int (flat_chunk rep_int (flat_chunk rep_int flat_nil)))) rfl) (flat_chunk (rep_vec (flat_chunk rep_int (flat_chunk rep_int (flat_chunk rep_int (flat_chunk rep_int flat_nil)))) rfl) flat_nil)) rfl), rfl⟩) fun g3 w3 p3 hs b3 cb => ?_)
 have hfr := hfr.stp hs
 have rp0 := rp0.stp hs
 have rp1 := rp1.stp hs
 have q1 := q1.stp hs
 have q2 := q2.stp hs
 clear cb
 refine EL_at (.int .i64 (0)) rfl rfl ?_
 refine EL_nil (thn_n (E_seq (E_region (EL_do .plain rfl (D_load (g := g3) Try.isAgg25 Try.sizeOf25 rfl q2 fun v4 r4 => ?_)))))
 obtain ⟨y6, mL, h⟩ := bsome h
 refine EL_do .plain rfl (D_call (g := g3) (vs := [v4]) en45 (.cons rfl .nil) (wk45 r4 mL) fun g5 w5_ v5 hs hr => ?_)
 have hfr := hfr.ext hs
 have rp0 := rp0.ext hs
 have rp1 := rp1.ext hs
 have q1 := q1.ext hs
 have q2 := q2.ext hs
 have b3 := b3.ext hs
 have r4 := r4.ext hs
 have r5 := hr
 refine EL_do .plain rfl (D_storeOc (g := g5) (v := v5) Try.sizeOf76 rfl b3 rfl r5 fun g7 w7 hs b7 cb => ?_)
 clear cb
 have hfr := hfr.stp hs
 have rp0 := rp0.stp hs
 have rp1 := rp1.stp hs
 have q1 := q1.stp hs
 have q2 := q2.stp hs
 have r4 := r4.stp hs
 have r5 := r5.stp hs
 refine EL_nil (thn_n (E_seq ?_))
 have q8 := PT_field (part_BoxLoom_1).1 q2
 refine L_load (x := .tmp 17) Try.isAgg22 Try.sizeOf22 q8 fun v9 r9 nL => ?_
 obtain ⟨bB, aG, h⟩ := bsome h
 have xC := PT_idx r9 aG
 refine L_load (x := .tmp 19) Try.isAgg3 Try.sizeOf3 xC fun zN oL hl12 => ?_
 obtain rfl := RV_int.1 oL
 have yC := PT_field (part_BoxLoom_1).1 q2
 refine L_load (x := .tmp 21) Try.isAgg22 Try.sizeOf22 yC fun iJ aC mJ => ?_
 obtain ⟨cB, bG, h⟩ := bsome h
 have aD := PT_idx aC bG
 refine L_load (x := .tmp 23) Try.isAgg3 Try.sizeOf3 aD fun aO pL nJ => ?_
 obtain rfl := RV_int.1 pL
 have cC : RV g7.m w7 (⟨List.toArray [bB, cB], rfl⟩ : Vector Int 2) (.agg (setCh [[.int .i64 0], [.int .i64 0]] [(0, .int .i64 (bB)), (1, .int .i64 (cB))]).flatten.toArray) := RV_build rfl (rep_vec (flat_chunk rfl (flat_chunk rfl flat_nil)) rfl)
 generalize oJ : (Value.agg (setCh [[.int .i64 0], [.int .i64 0]] [(0, .int .i64 (bB)), (1, .int .i64 (cB))]).flatten.toArray) = jJ at cC
 refine E_drawL (g := g7) (n := 10) [(9, (fun v g w => OB 2010 g w 138 ((⟨List.toArray [0, 0], rfl⟩ : Vector Int 2) : Vector Int 2) v))] [0, 1, 2, 3, 4, 5, 6, 7, 8, 9] rfl mixed (by kernel_rfl) (⟨fun _ => up_ob, trivial⟩) ?_
 refine L_p (fPtr p2 1) rfl rfl (P_fieldAddr at_25_1 rfl (PT.ptr q2)) ?_
 refine L_ld (c := v9) rfl rfl .plain (fun _ _ h => h.ch) nL rfl ?_
 refine L_p (ePtr v9 (0 : Int) 1) rfl rfl (P_indexAddr (α := Int) Try.underlying22 Try.sizeOf3 rfl r9 rfl aG) ?_
 refine L_ld (c := .int .i64 (bB)) rfl rfl .plain (fun _ _ h => h.ch) hl12 rfl ?_
 refine L_p (fPtr p2 1) rfl rfl (P_fieldAddr at_25_1 rfl (PT.ptr q2)) ?_
 refine L_ld (c := iJ) rfl rfl .plain (fun _ _ h => h.ch) mJ rfl ?_
 refine L_p (ePtr iJ (1 : Int) 1) rfl rfl (P_indexAddr (α := Int) Try.underlying22 Try.sizeOf3 rfl aC rfl bG) ?_
 refine L_ld (c := .int .i64 (cB)) rfl rfl .plain (fun _ _ h => h.ch) nJ rfl ?_
 refine L_p jJ rfl rfl (oJ ▸ P_buildA (vs := [(0, .int .i64 (bB)), (1, .int .i64 (cB))]) [[.int .i64 0], [.int .i64 0]] Try.underlying138 layA_138 szA_3 rfl (by simp) (.cons rfl (.cons rfl .nil)) ⟨⟨_, rfl, rfl⟩, ⟨⟨_, rfl, rfl⟩, trivial⟩⟩) ?_
 refine L_do (φ := fun v g w => OB 2010 g w 138 ((⟨List.toArray [0, 0], rfl⟩ : Vector Int 2) : Vector Int 2) v) rfl rfl .plain (fun g w hd => D_allocX (g := g) 2010 ((⟨List.toArray [0, 0], rfl⟩ : Vector Int 2) : Vector Int 2) Try.zeroValue138 (fun m w => ⟨_, (rep_vec (flat_chunk rep_int (flat_chunk rep_int flat_nil)) rfl), rfl⟩) fun g' w' v hs b => ⟨g', hs, b⟩) (fun r8 hv => ?_)
 clear hv
 refine L_nil fun qL bO hall => ?_
 have hs := hall.1
 have hfr := hfr.ext hs
 have rp0 := rp0.ext hs
 have rp1 := rp1.ext hs
 have q1 := q1.ext hs
 have q2 := q2.ext hs
 have b7 := b7.ext hs
 have r4 := r4.ext hs
 have r5 := r5.ext hs
 have q8 := q8.ext hs
 have r9 := r9.ext hs
 have xC := xC.ext hs
 have yC := yC.ext hs
 have aC := aC.ext hs
 have aD := aD.ext hs
 have cC := cC.ext hs
 have b41 := (word_all (A := fun g w => OB 2010 g w 138 ((⟨List.toArray [0, 0], rfl⟩ : Vector Int 2) : Vector Int 2) r8) 9 rfl hall)
 clear hs hall
 refine EL_do .plain rfl (D_storeOc (g := qL) (v := jJ) Try.sizeOf138 rfl b41 rfl cC fun rL cO hs b42 cb => ?_)
 clear cb
 have hfr := hfr.stp hs
 have rp0 := rp0.stp hs
 have rp1 := rp1.stp hs
 have q1 := q1.stp hs
 have q2 := q2.stp hs
 have b7 := b7.stp hs rfl
 have r4 := r4.stp hs
 have r5 := r5.stp hs
 have q8 := q8.stp hs
 have r9 := r9.stp hs
 have xC := xC.stp hs
 have yC := yC.stp hs
 have aC := aC.stp hs
 have aD := aD.stp hs
 have cC := cC.stp hs
 refine EL_nil (thn_n ?_)
 obtain ⟨⟨pA, qA, dB, y8⟩, hx, h⟩ := bsome h
 refine E_join (fun e w => ∃ (g : Gh) (v6 v7 : Value), Fr gI wI g w ∧ e 6 = v6 ∧ RV g.m w (pA : List BoxPick) v6 ∧ OS 1006 g w 83 (pA : List BoxPick) v6 ∧ e 7 = v7 ∧ RV g.m w (qA : List Int) v7 ∧ OS 1007 g w 3 (qA : List Int) v7 ∧ e 8 = p3 ∧ OB 2008 g w 76 (dB : Vector (Vector Int 4) 2) p3 ∧ e 9 = .int .i64 (y8)) (fun Q' hQ => ?_) (fun vL cM hR => ?_)
 ·replace h := hx
  clear hx
  refine E_seq (E_region (EL_at (.int .i64 (0)) rfl rfl ?_))
  refine EL_nil (thn_n (E_block ?_))
  refine E_lp h (fun (s : (List BoxPick) × (List Int) × (Vector (Vector Int 4) 2) × Int × (Vector Int 2) × Int) e w => ∃ (g : Gh) (v6 v7 : Value), Fr gI wI g w ∧ e 2 = .int .i64 (x2) ∧ e 3 = p1 ∧ PT g.m w (x0 : Race) p1 ∧ e 4 = p2 ∧ PT g.m w (x1 : BoxLoom) p2 ∧ e 6 = v6 ∧ RV g.m w (s.1 : List BoxPick) v6 ∧ OS 1006 g w 83 (s.1 : List BoxPick) v6 ∧ e 7 = v7 ∧ RV g.m w (s.2.1 : List Int) v7 ∧ OS 1007 g w 3 (s.2.1 : List Int) v7 ∧ e 8 = p3 ∧ OB 2008 g w 76 (s.2.2.1 : Vector (Vector Int 4) 2) p3 ∧ e 9 = .int .i64 (s.2.2.2.1) ∧ e 10 = r8 ∧ OB 2010 g w 138 (s.2.2.2.2.1 : Vector Int 2) r8 ∧ e 11 = .int .i64 (s.2.2.2.2.2)) ⟨rL, (.slice none 0 0), (.slice none 0 0), hfr, rfl, rfl, q1, rfl, q2, rfl, RV_nil, OS.nil, rfl, RV_nil, OS.nil, rfl, b7, rfl, rfl, b42, rfl⟩ (fun X397 qF bI => ?_)
  rintro ⟨i5, i7, j6, o7, o0, u3⟩ xL dM ⟨jE, t5, x6, hfr, eB, iB, rA, bD, cD, jB, lB, eD, gD, iD, jD, kD, lD, mD, dC, eC, aB⟩ h
  refine E_joinC h (fun (s : Unit) e w => ∃ (g : Gh) , Fr gI wI g w ∧ e 2 = .int .i64 (x2) ∧ e 3 = p1 ∧ PT g.m w (x0 : Race) p1 ∧ e 4 = p2 ∧ PT g.m w (x1 : BoxLoom) p2 ∧ e 6 = t5 ∧ RV g.m w (i5 : List BoxPick) t5 ∧ OS 1006 g w 83 (i5 : List BoxPick) t5 ∧ e 7 = x6 ∧ RV g.m w (i7 : List Int) x6 ∧ OS 1007 g w 3 (i7 : List Int) x6 ∧ e 8 = p3 ∧ OB 2008 g w 76 (j6 : Vector (Vector Int 4) 2) p3 ∧ e 9 = .int .i64 (o7) ∧ e 10 = r8 ∧ OB 2010 g w 138 (o0 : Vector Int 2) r8 ∧ e 11 = .int .i64 (u3)) (fun X407 zF cI h => ?_) ?_
  ·obtain ⟨x8, hx, h⟩ := bsome h
   refine E_join (fun e w => ∃ (g : Gh) , Fr gI wI g w ∧ e 2 = .int .i64 (x2) ∧ e 3 = p1 ∧ PT g.m w (x0 : Race) p1 ∧ e 4 = p2 ∧ PT g.m w (x1 : BoxLoom) p2 ∧ e 6 = t5 ∧ RV g.m w (i5 : List BoxPick) t5 ∧ OS 1006 g w 83 (i5 : List BoxPick) t5 ∧ e 7 = x6 ∧ RV g.m w (i7 : List Int) x6 ∧ OS 1007 g w 3 (i7 : List Int) x6 ∧ e 8 = p3 ∧ OB 2008 g w 76 (j6 : Vector (Vector Int 4) 2) p3 ∧ e 9 = .int .i64 (o7) ∧ e 10 = r8 ∧ OB 2010 g w 138 (o0 : Vector Int 2) r8 ∧ e 11 = .int .i64 (u3) ∧ e 36 = .bool (x8)) (fun Q' hQ => ?_) (fun yL eM hR => ?_)
   ·replace h := hx
    clear hx
    refine E_region (EL_mv aB rfl ?_)
    refine EL_p (fPtr p1 5) (P_fieldAddr at_73_2 iB (PT.ptr rA)) rfl ?_
    have pJ := PT_field (part_Race_2).1 rA
    refine EL_do .plain rfl (D_load (g := jE) Try.isAgg71 Try.sizeOf71 rfl pJ fun gM qJ => ?_)
    refine EL_p (.int .i64 (((x0).Picks).length : Int)) (P_len Try.underlying71 rfl qJ) rfl ?_
    refine EL_p (.bool ((decide (u3 < (((x0).Picks).length : Int))))) (P_int rfl rfl rfl) rfl ?_
    refine EL_p (.bool ((decide (u3 < (((x0).Picks).length : Int))))) (P_move rfl) rfl ?_
    rcases csome h with ⟨n8, h⟩ | ⟨n8, h⟩
    ·refine EL_y t5 (P_move jB) rfl rfl n8 rfl ?_
     refine EL_y (.int .i64 ((i5).length : Int)) (P_len Try.underlying30 rfl lB) rfl rfl n8 rfl ?_
     refine EL_y (.int .i64 (x2)) (P_move eB) rfl rfl n8 rfl ?_
     refine EL_y (.bool ((decide (((i5).length : Int) < x2)))) (P_int rfl rfl rfl) rfl rfl n8 rfl ?_
     refine EL_p (.bool ((decide (((i5).length : Int) < x2)))) (P_pick (b := (decide (u3 < (((x0).Picks).length : Int)))) rfl (pick_t n8 rfl)) rfl ?_
     refine EL_nil ?_
     obtain rfl := sinj h
     exact hQ _ _ ⟨jE, hfr, eB, iB, rA, bD, cD, jB, lB, eD, gD, iD, jD, kD, lD, mD, dC, eC, aB, rfl⟩
    ·refine EL_s rfl rfl n8 rfl rfl ?_
     iterate 3 refine EL_s rfl rfl n8 rfl rfl ?_
     refine EL_p (.bool false) (P_pick (b := (decide (u3 < (((x0).Picks).length : Int)))) rfl (pick_f n8 rfl)) rfl ?_
     refine EL_nil ?_
     obtain rfl := sinj h
     exact hQ _ _ ⟨jE, hfr, eB, iB, rA, bD, cD, jB, lB, eD, gD, iD, jD, kD, lD, mD, dC, eC, aB, rfl⟩
   ·clear hx
    obtain ⟨cG, hfr, dG, eG, gG, hG, iG, nD, oD, sD, tD, uD, vD, xD, yD, zD, cF, dF, eF, iC⟩ := hR
    rcases csome h with ⟨uC, h⟩ | ⟨uC, h⟩
    ·refine E_cond_true (Eq.trans (show ev _ _ = .bool (x8) from iC) (congrArg Value.bool uC)) ?_
     exact E_skip (thn_n (cI () _ _ ⟨cG, hfr, dG, eG, gG, hG, iG, nD, oD, sD, tD, uD, vD, xD, yD, zD, cF, dF, eF⟩ h))
    ·refine E_cond_false (Eq.trans (show ev _ _ = .bool (x8) from iC) (congrArg Value.bool uC)) ?_
     refine E_exit ?_
     refine thn_e ?_
     refine thn_e ?_
     refine blk_hit ?_
     obtain ⟨rfl, rfl, rfl, rfl⟩ := pairs4 h
     exact hQ _ _ ⟨cG, (t5), (x6), hfr, nD, oD, sD, tD, uD, vD, xD, yD, zD⟩
  ·rintro _ zL iM ⟨rJ, hfr, aE, uA, x5, xA, i6, bE, g8, i8, cE, k8, l8, yA, l5, dE, jC, m7, t9⟩ h
   obtain ⟨⟨a9, d9, nA, oA, o9⟩, hx, h⟩ := bsome h
   refine E_join (fun e w => ∃ (g : Gh) (v6 v7 : Value), Fr gI wI g w ∧ e 2 = .int .i64 (x2) ∧ e 3 = p1 ∧ PT g.m w (x0 : Race) p1 ∧ e 4 = p2 ∧ PT g.m w (x1 : BoxLoom) p2 ∧ e 6 = v6 ∧ RV g.m w (a9 : List BoxPick) v6 ∧ OS 1006 g w 83 (a9 : List BoxPick) v6 ∧ e 7 = v7 ∧ RV g.m w (d9 : List Int) v7 ∧ OS 1007 g w 3 (d9 : List Int) v7 ∧ e 8 = p3 ∧ OB 2008 g w 76 (nA : Vector (Vector Int 4) 2) p3 ∧ e 9 = .int .i64 (oA) ∧ e 10 = r8 ∧ OB 2010 g w 138 (o9 : Vector Int 2) r8 ∧ e 11 = .int .i64 (u3)) (fun Q' hQ => ?_) (fun aM jM hR => ?_)
   ·replace h := hx
    clear hx
    refine E_block ?_
    refine E_seq ?_
    have u9 := PT_field (part_Race_2).1 x5
    refine L_load (x := .tmp 39) Try.isAgg71 Try.sizeOf71 u9 fun jG i9 dI => ?_
    obtain ⟨mC, lE, h⟩ := bsome h
    have y9 := PT_idx i9 lE
    refine L_load (x := .tmp 42) Try.isAgg5 Try.sizeOf5 y9 fun kM sJ iI => ?_
    obtain rfl := RV_u8.1 sJ
    have z9 := PT_field (part_BoxLoom_0).1 i6
    refine L_load (x := .tmp 45) Try.isAgg22 Try.sizeOf22 z9 fun kG k9 jI => ?_
    obtain ⟨eE, mE, h⟩ := bsome h
    have bA := PT_idx k9 mE
    refine L_load (x := .tmp 47) Try.isAgg3 Try.sizeOf3 bA fun mM tJ kI => ?_
    obtain rfl := RV_int.1 tJ
    obtain ⟨qC, lI, h⟩ := bsome h
    have gA := PT_field (part_Race_2).1 x5
    refine L_load (x := .tmp 50) Try.isAgg71 Try.sizeOf71 gA fun lG l9 mI => ?_
    obtain ⟨rC, nE, h⟩ := bsome h
    have iA := PT_idx l9 nE
    refine L_load (x := .tmp 53) Try.isAgg5 Try.sizeOf5 iA fun nM uJ nI => ?_
    obtain rfl := RV_u8.1 uJ
    obtain ⟨gE, pI, h⟩ := bsome h
    have jA := PT_field (part_BoxLoom_0).1 i6
    refine L_load (x := .tmp 57) Try.isAgg22 Try.sizeOf22 jA fun mG n9 qI => ?_
    obtain ⟨iE, oE, h⟩ := bsome h
    have lA := PT_idx n9 oE
    refine L_load (x := .tmp 59) Try.isAgg3 Try.sizeOf3 lA fun oM vJ rI => ?_
    obtain rfl := RV_int.1 vJ
    obtain ⟨tC, sI, h⟩ := bsome h
    obtain ⟨j1, tI, h⟩ := bsome h
    refine E_drawL (g := rJ) (n := 25) [(23, (fun v g w => RV g.m w j1 v)), (24, (fun v g w => OB 2012 g w 83 (⟨0, 0⟩ : BoxPick) v))] [0, 1, 2, 3, 4, 5, 6, 7, 8, 9, 10, 11, 12, 13, 14, 15, 16, 17, 18, 19, 20, 21, 22, 23, 24] rfl mixed (by kernel_rfl) (⟨fun _ => up_rv, fun _ => up_ob, trivial⟩) ?_
    refine L_p (fPtr p1 5) rfl rfl (P_fieldAddr at_73_2 uA (PT.ptr x5)) ?_
    refine L_ld (c := jG) rfl rfl .plain (fun _ _ h => h.ch) dI rfl ?_
    refine L_p (.int .i64 (u3)) rfl rfl (P_move t9) ?_
    refine L_p (ePtr jG u3 1) rfl rfl (P_indexAddr (α := UInt8) Try.underlying71 Try.sizeOf5 rfl i9 rfl lE) ?_
    refine L_ld (c := .int .u8 (UInt8.toNat (mC))) rfl rfl .plain (fun _ _ h => h.ch) iI rfl ?_
    refine L_p (.int .i64 (((mC).toNat : Int))) rfl rfl (P_u8int Try.underlying5 Try.underlying3 rfl) ?_
    refine L_p (fPtr p2 0) rfl rfl (P_fieldAddr at_25_0 xA (PT.ptr i6)) ?_
    refine L_ld (c := kG) rfl rfl .plain (fun _ _ h => h.ch) jI rfl ?_
    refine L_p (ePtr kG (0 : Int) 1) rfl rfl (P_indexAddr (α := Int) Try.underlying22 Try.sizeOf3 rfl k9 rfl mE) ?_
    refine L_ld (c := .int .i64 (eE)) rfl rfl .plain (fun _ _ h => h.ch) kI rfl ?_
    refine L_p (.int .i64 (qC)) rfl rfl (P_int rfl rfl (congrArg (Option.map (Value.int .i64)) lI)) ?_
    refine L_p (fPtr p1 5) rfl rfl (P_fieldAddr at_73_2 uA (PT.ptr x5)) ?_
    refine L_ld (c := lG) rfl rfl .plain (fun _ _ h => h.ch) mI rfl ?_
    refine L_p (.int .i64 (u3)) rfl rfl (P_move t9) ?_
    refine L_p (ePtr lG u3 1) rfl rfl (P_indexAddr (α := UInt8) Try.underlying71 Try.sizeOf5 rfl l9 rfl nE) ?_
    refine L_ld (c := .int .u8 (UInt8.toNat (rC))) rfl rfl .plain (fun _ _ h => h.ch) nI rfl ?_
    refine L_p (.int .i64 (((rC).toNat : Int))) rfl rfl (P_u8int Try.underlying5 Try.underlying3 rfl) ?_
    refine L_p (.int .i64 (gE)) rfl rfl (P_int rfl rfl (congrArg (Option.map (Value.int .i64)) pI)) ?_
    refine L_p (fPtr p2 0) rfl rfl (P_fieldAddr at_25_0 xA (PT.ptr i6)) ?_
    refine L_ld (c := mG) rfl rfl .plain (fun _ _ h => h.ch) qI rfl ?_
    refine L_p (ePtr mG (1 : Int) 1) rfl rfl (P_indexAddr (α := Int) Try.underlying22 Try.sizeOf3 rfl n9 rfl oE) ?_
    refine L_ld (c := .int .i64 (iE)) rfl rfl .plain (fun _ _ h => h.ch) rI rfl ?_
    refine L_p (.int .i64 (tC)) rfl rfl (P_int rfl rfl (congrArg (Option.map (Value.int .i64)) sI)) ?_
    refine L_do (φ := fun v g w => RV g.m w j1 v) rfl rfl .plain (fun g w hd => D_call (g := g) (vs := [.int .i64 (qC), .int .i64 (tC)]) en49 (.cons rfl (.cons rfl .nil)) (wk49  tI) fun g' w' v hs hr => ⟨g', hs, hr⟩) (fun nG hv => ?_)
    obtain ⟨_, _, _, rq606⟩ := hv
    refine L_do (φ := fun v g w => OB 2012 g w 83 (⟨0, 0⟩ : BoxPick) v) rfl rfl .plain (fun g w hd => D_allocX (g := g) 2012 (⟨0, 0⟩ : BoxPick) Try.zeroValue83 (fun m w => ⟨_, (rep_two rep_int rep_int), rfl⟩) fun g' w' v hs b => ⟨g', hs, b⟩) (fun c8 hv => ?_)
    clear hv
    refine L_nil fun xJ pM hall => ?_
    have hs := hall.1
    have hfr := hfr.ext hs
    have x5 := x5.ext hs
    have i6 := i6.ext hs
    have g8 := g8.ext hs
    have i8 := i8.ext hs
    have k8 := k8.ext hs
    have l8 := l8.ext hs
    have l5 := l5.ext hs
    have m7 := m7.ext hs
    have u9 := u9.ext hs
    have i9 := i9.ext hs
    have y9 := y9.ext hs
    have z9 := z9.ext hs
    have k9 := k9.ext hs
    have bA := bA.ext hs
    have gA := gA.ext hs
    have l9 := l9.ext hs
    have iA := iA.ext hs
    have jA := jA.ext hs
    have n9 := n9.ext hs
    have lA := lA.ext hs
    have mB := (word_all (A := fun g w => RV g.m w j1 nG) 23 rfl hall)
    have b643 := (word_all (A := fun g w => OB 2012 g w 83 (⟨0, 0⟩ : BoxPick) c8) 24 rfl hall)
    clear hs hall
    refine EL_do .plain rfl (D_storeOc (g := xJ) (v := nG) Try.sizeOf83 rfl b643 rfl mB fun yJ qM hs b644 cb => ?_)
    clear cb
    have hfr := hfr.stp hs
    have x5 := x5.stp hs
    have i6 := i6.stp hs
    have g8 := g8.stp hs
    have i8 := i8.stp hs rfl
    have k8 := k8.stp hs
    have l8 := l8.stp hs rfl
    have l5 := l5.stp hs rfl
    have m7 := m7.stp hs rfl
    have u9 := u9.stp hs
    have i9 := i9.stp hs
    have y9 := y9.stp hs
    have z9 := z9.stp hs
    have k9 := k9.stp hs
    have bA := bA.stp hs
    have gA := gA.stp hs
    have l9 := l9.stp hs
    have iA := iA.stp hs
    have jA := jA.stp hs
    have n9 := n9.stp hs
    have lA := lA.stp hs
    have mB := mB.stp hs
    refine EL_nil (thn_n (E_seq (L_loadO (x := .tmp 63) part_BoxPick_0.1 Try.isAgg3 Try.sizeOf3 b644 fun rM zJ uI => ?_)))
    obtain rfl := RV_int.1 zJ
    obtain ⟨rF, rE, h⟩ := bsome h
    obtain ⟨hi648, he648⟩ := vat_idx rE
    obtain ⟨u7, sE, h⟩ := bsome h
    obtain ⟨hi650, he650⟩ := vat_idx sE
    refine L_loadOD (off := ((((0 : Int) : Int).toNat * 4) + ((j1).Left : Int).toNat * 1)) (x := .tmp 66) (SubS.at_ (SubS.dynC hi648 (SubS.dyn hi650) rfl) (by first | rfl | exact Nat.add_assoc _ _ _ | simp only [Nat.add_assoc, Nat.zero_add] | omega)).1 ((congrArg (vat _ hi650) he648).trans he650) Try.isAgg3 Try.sizeOf3 l5 fun sM aK vI => ?_
    obtain rfl := RV_int.1 aK
    refine L_loadO (x := .tmp 68) part_BoxPick_1.1 Try.isAgg3 Try.sizeOf3 b644 fun tM bK xI => ?_
    obtain rfl := RV_int.1 bK
    obtain ⟨sF, tE, h⟩ := bsome h
    obtain ⟨hi655, he655⟩ := vat_idx tE
    obtain ⟨j7, uE, h⟩ := bsome h
    obtain ⟨hi657, he657⟩ := vat_idx uE
    refine L_loadOD (off := ((((1 : Int) : Int).toNat * 4) + ((j1).Right : Int).toNat * 1)) (x := .tmp 71) (SubS.at_ (SubS.dynC hi655 (SubS.dyn hi657) rfl) (by first | rfl | exact Nat.add_assoc _ _ _ | simp only [Nat.add_assoc, Nat.zero_add] | omega)).1 ((congrArg (vat _ hi657) he655).trans he657) Try.isAgg3 Try.sizeOf3 l5 fun uM cK yI => ?_
    obtain rfl := RV_int.1 cK
    refine E_drawL (g := yJ) (n := 12) [] [0, 1, 2, 3, 4, 5, 6, 7, 8, 9, 10, 11] rfl mixed (by kernel_rfl) trivial ?_
    refine L_p (fPtr c8 0) rfl rfl (P_fieldAddr at_83_0 rfl (OB.ptr b644)) ?_
    refine L_ld (c := .int .i64 ((j1).Left)) rfl rfl .plain (fun _ _ h => ⟨h.ch, fun b hb _ => h.below.block b hb⟩) uI rfl ?_
    refine L_p (fPtr p3 (((0 : Int) : Int).toNat * 4)) rfl rfl (P_indexAddrA (α := Vector Int 4) Try.underlying76 Try.sizeOf75 yA (OB.ptr l5) rfl rE) ?_
    refine L_p (fPtr p3 ((((0 : Int) : Int).toNat * 4) + ((j1).Left : Int).toNat * 1)) rfl rfl (P_indexAddrA2 (α := Int) (o1 := (((0 : Int) : Int).toNat * 4)) rfl Try.underlying75 Try.sizeOf3 rfl (OB.ptr l5) rfl sE) ?_
    refine L_ld (c := .int .i64 (u7)) rfl rfl .plain (fun _ _ h => ⟨h.ch, fun b hb _ => h.below.block b hb⟩) vI rfl ?_
    refine L_p (fPtr c8 1) rfl rfl (P_fieldAddr at_83_1 rfl (OB.ptr b644)) ?_
    refine L_ld (c := .int .i64 ((j1).Right)) rfl rfl .plain (fun _ _ h => ⟨h.ch, fun b hb _ => h.below.block b hb⟩) xI rfl ?_
    refine L_p (fPtr p3 (((1 : Int) : Int).toNat * 4)) rfl rfl (P_indexAddrA (α := Vector Int 4) Try.underlying76 Try.sizeOf75 yA (OB.ptr l5) rfl tE) ?_
    refine L_p (fPtr p3 ((((1 : Int) : Int).toNat * 4) + ((j1).Right : Int).toNat * 1)) rfl rfl (P_indexAddrA2 (α := Int) (o1 := (((1 : Int) : Int).toNat * 4)) rfl Try.underlying75 Try.sizeOf3 rfl (OB.ptr l5) rfl uE) ?_
    refine L_ld (c := .int .i64 (j7)) rfl rfl .plain (fun _ _ h => ⟨h.ch, fun b hb _ => h.below.block b hb⟩) yI rfl ?_
    refine L_p (.int .i64 (u7)) rfl rfl (P_assign rfl) ?_
    refine L_p (.int .i64 (j7)) rfl rfl (P_assign rfl) ?_
    refine L_nl fun oG vM hs => ?_
    have hfr := hfr.ext hs
    have x5 := x5.ext hs
    have i6 := i6.ext hs
    have g8 := g8.ext hs
    have i8 := i8.ext hs
    have k8 := k8.ext hs
    have l8 := l8.ext hs
    have l5 := l5.ext hs
    have m7 := m7.ext hs
    have u9 := u9.ext hs
    have i9 := i9.ext hs
    have y9 := y9.ext hs
    have z9 := z9.ext hs
    have k9 := k9.ext hs
    have bA := bA.ext hs
    have gA := gA.ext hs
    have l9 := l9.ext hs
    have iA := iA.ext hs
    have jA := jA.ext hs
    have n9 := n9.ext hs
    have lA := lA.ext hs
    have mB := mB.ext hs
    have b644 := b644.ext hs
    clear hs
    refine EL_nil (thn_n (E_joinC h (fun (s : Unit) e w => ∃ (g : Gh) , Fr gI wI g w ∧ e 2 = .int .i64 (x2) ∧ e 3 = p1 ∧ PT g.m w (x0 : Race) p1 ∧ e 4 = p2 ∧ PT g.m w (x1 : BoxLoom) p2 ∧ e 6 = t5 ∧ RV g.m w (i5 : List BoxPick) t5 ∧ OS 1006 g w 83 (i5 : List BoxPick) t5 ∧ e 7 = x6 ∧ RV g.m w (i7 : List Int) x6 ∧ OS 1007 g w 3 (i7 : List Int) x6 ∧ e 8 = p3 ∧ OB 2008 g w 76 (j6 : Vector (Vector Int 4) 2) p3 ∧ e 9 = .int .i64 (o7) ∧ e 10 = r8 ∧ OB 2010 g w 138 (o0 : Vector Int 2) r8 ∧ e 11 = .int .i64 (u3) ∧ e 12 = c8 ∧ OB 2012 g w 83 (j1 : BoxPick) c8 ∧ e 13 = .int .i64 (u7) ∧ e 14 = .int .i64 (j7)) (fun X707 yF zI h => ?_) ?_))
    ·refine E_seq (E_region (EL_mw (.int .i64 (u7)) rfl rfl ?_))
     refine EL_in (.bool ((u7 == (0 : Int)))) rfl rfl rfl rfl ?_
     refine EL_mw (.int .i64 (j7)) rfl rfl ?_
     refine EL_in (.bool ((j7 == (0 : Int)))) rfl rfl rfl rfl ?_
     refine EL_p (.bool (((u7 == (0 : Int)) == (j7 == (0 : Int))))) (P_bool Try.underlying4 rfl rfl rfl) rfl ?_
     refine EL_nil (thn_n ?_)
     rcases csome h with ⟨vC, h⟩ | ⟨vC, h⟩
     ·refine E_ct vC rfl ?_
      refine E_exit ?_
      refine thn_e ?_
      refine blk_hit ?_
      obtain ⟨rfl, rfl, rfl, rfl, rfl⟩ := pairs5 h
      exact hQ _ _ ⟨oG, (t5), (x6), hfr, aE, uA, x5, xA, i6, bE, g8, i8, cE, k8, l8, yA, l5, dE, jC, m7, t9⟩
     ·refine E_cf vC rfl ?_
      exact E_skip (thn_n (zI () _ _ ⟨oG, hfr, aE, uA, x5, xA, i6, bE, g8, i8, cE, k8, l8, yA, l5, dE, jC, m7, t9, rfl, b644, rfl, rfl⟩ h))
    ·rintro _ bM xM ⟨pG, hfr, qG, rG, z3, sG, z4, tG, t8, v8, uG, a7, c7, nB, oB, vG, o8, j3, iF, d7, i3, kC, lC⟩ h
     refine E_seq (E_region (EL_p (fPtr c8 0) (P_fieldAddr at_83_0 d7 (OB.ptr i3)) rfl ?_))
     refine EL_do .plain rfl (D_loadF (g := pG) part_BoxPick_0.1 Try.isAgg3 Try.sizeOf3 rfl i3 fun yM dK => ?_)
     obtain rfl := RV_int.1 dK
     refine EL_mv lC rfl ?_
     obtain ⟨tF, vE, h⟩ := bsome h
     obtain ⟨hi713, he713⟩ := vat_idx vE
     refine EL_p (fPtr p3 (((0 : Int) : Int).toNat * 4)) (P_indexAddrA (α := Vector Int 4) Try.underlying76 Try.sizeOf75 nB (OB.ptr oB) rfl vE) rfl ?_
     obtain ⟨kJ, xE, h⟩ := bsome h
     obtain ⟨hi715, he715⟩ := vat_idx xE
     refine EL_p (fPtr p3 ((((0 : Int) : Int).toNat * 4) + ((j1).Left : Int).toNat * 1)) (P_indexAddrA2 (α := Int) (o1 := (((0 : Int) : Int).toNat * 4)) rfl Try.underlying75 Try.sizeOf3 rfl (OB.ptr oB) rfl xE) rfl ?_
     refine EL_do .plain rfl (D_storeFc (g := pG) (SubS.at_ (SubS.dynC hi713 (SubS.dyn hi715) rfl) (by first | rfl | exact Nat.add_assoc _ _ _ | simp only [Nat.add_assoc, Nat.zero_add] | omega)) Try.sizeOf3 rfl oB rfl (RV_int.2 rfl) fun xG zM hs b716 rst hos => ?_)
     clear rst hos
     have hfr := hfr.stp hs
     have z3 := z3.stp hs
     have z4 := z4.stp hs
     have t8 := t8.stp hs
     have v8 := v8.stp hs rfl
     have a7 := a7.stp hs
     have c7 := c7.stp hs rfl
     have j3 := j3.stp hs rfl
     have i3 := i3.stp hs rfl
     refine EL_nil (thn_n (E_seq (E_region (EL_p (fPtr c8 1) (P_fieldAddr at_83_1 d7 (OB.ptr i3)) rfl ?_))))
     refine EL_do .plain rfl (D_loadF (g := xG) part_BoxPick_1.1 Try.isAgg3 Try.sizeOf3 rfl i3 fun bN eK => ?_)
     obtain rfl := RV_int.1 eK
     refine EL_mv kC rfl ?_
     obtain ⟨uF, yE, h⟩ := bsome h
     obtain ⟨hi720, he720⟩ := vat_idx yE
     refine EL_p (fPtr p3 (((1 : Int) : Int).toNat * 4)) (P_indexAddrA (α := Vector Int 4) Try.underlying76 Try.sizeOf75 nB (OB.ptr b716) rfl yE) rfl ?_
     obtain ⟨lJ, zE, h⟩ := bsome h
     obtain ⟨hi722, he722⟩ := vat_idx zE
     refine EL_p (fPtr p3 ((((1 : Int) : Int).toNat * 4) + ((j1).Right : Int).toNat * 1)) (P_indexAddrA2 (α := Int) (o1 := (((1 : Int) : Int).toNat * 4)) rfl Try.underlying75 Try.sizeOf3 rfl (OB.ptr b716) rfl zE) rfl ?_
     refine EL_do .plain rfl (D_storeFc (g := xG) (SubS.at_ (SubS.dynC hi720 (SubS.dyn hi722) rfl) (by first | rfl | exact Nat.add_assoc _ _ _ | simp only [Nat.add_assoc, Nat.zero_add] | omega)) Try.sizeOf3 rfl b716 rfl (RV_int.2 rfl) fun yG cN hs b723 rst hos => ?_)
     clear rst hos
     have hfr := hfr.stp hs
     have z3 := z3.stp hs
     have z4 := z4.stp hs
     have t8 := t8.stp hs
     have v8 := v8.stp hs rfl
     have a7 := a7.stp hs
     have c7 := c7.stp hs rfl
     have j3 := j3.stp hs rfl
     have i3 := i3.stp hs rfl
     refine EL_nil (thn_n (E_seq (E_region (EL_mv tG rfl ?_))))
     refine EL_do .plain rfl (D_loadO (g := yG) Try.isAgg83 Try.sizeOf83 d7 i3 fun lK mK => ?_)
     refine EL_do .plain rfl (D_buildSlice (g := yG) 3090 (xs := ([j1] : List BoxPick)) (vs := [lK]) Try.underlying30 Try.sizeOf83 Try.zeroValue83 rfl rfl (.cons rfl .nil) (RVs.cons mK RVs.nil) rfl rfl fun nK dN eN hs o725 oK hxt hfl => ?_)
     have hfr := hfr.stp hs
     have z3 := z3.stp hs
     have z4 := z4.stp hs
     have t8 := t8.stp hs
     have v8 := v8.stp hs rfl
     have a7 := a7.stp hs
     have c7 := c7.stp hs rfl
     have b723 := b723.stp hs rfl
     have j3 := j3.stp hs rfl
     have i3 := i3.stp hs rfl
     obtain ⟨vF, aJ, h⟩ := bsome h
     refine EL_do .plain rfl (D_append (g := nK) (i := 1006) Try.underlying30 info_83 rfl rfl v8 t8 rfl oK aJ fun pK gN zG hs o726 mA _ => ?_)
     have hfr := hfr.stp hs
     have z3 := z3.stp hs
     have z4 := z4.stp hs
     have a7 := a7.stp hs
     have c7 := c7.stp hs rfl
     have b723 := b723.stp hs rfl
     have j3 := j3.stp hs rfl
     have i3 := i3.stp hs rfl
     refine EL_mv uG rfl ?_
     refine EL_mv kC rfl ?_
     refine EL_mv lC rfl ?_
     refine EL_in (.int .i64 ((w64 (u7 + j7)))) rfl rfl rfl rfl ?_
     refine EL_in (.int .i64 ((w64 ((w64 (u7 + j7)) - (1 : Int))))) rfl rfl rfl rfl ?_
     refine EL_do .plain rfl (D_buildSlice (g := pK) 3097 (xs := ([(w64 ((w64 (u7 + j7)) - (1 : Int)))] : List Int)) (vs := [.int .i64 ((w64 ((w64 (u7 + j7)) - (1 : Int))))]) Try.underlying22 Try.sizeOf3 Try.zeroValue3 rfl rfl (.cons rfl .nil) (RVs.cons (RV_int.2 rfl) RVs.nil) rfl rfl fun qK iN jN hs o728 sK hxt hfl => ?_)
     have hfr := hfr.stp hs
     have z3 := z3.stp hs
     have z4 := z4.stp hs
     have a7 := a7.stp hs
     have c7 := c7.stp hs rfl
     have b723 := b723.stp hs rfl
     have j3 := j3.stp hs rfl
     have i3 := i3.stp hs rfl
     have mA := mA.stp hs
     have o726 := o726.stp hs rfl
     obtain ⟨xF, bJ, h⟩ := bsome h
     refine EL_do .plain rfl (D_append (g := qK) (i := 1007) Try.underlying22 info_3 rfl rfl c7 a7 rfl sK bJ fun m8 tK aH hs o729 kE _ => ?_)
     have hfr := hfr.stp hs
     have z3 := z3.stp hs
     have z4 := z4.stp hs
     have b723 := b723.stp hs rfl
     have j3 := j3.stp hs rfl
     have i3 := i3.stp hs rfl
     have mA := mA.stp hs
     have o726 := o726.stp hs rfl
     refine EL_at zG rfl rfl ?_
     refine EL_at aH rfl rfl ?_
     refine EL_nil (thn_n (E_seq (E_region (EL_mv vG rfl ?_))))
     refine EL_p (fPtr r8 0) (P_indexAddrA (α := Int) (i := (0 : Int)) Try.underlying138 Try.sizeOf3 o8 (OB.ptr j3) rfl (idx_vec (v := o0) (i := 0) (by decide))) rfl ?_
     refine EL_do .plain rfl (D_loadF (g := m8) (SubS.vec (β := Int) (n := 2) (i := 0) (by decide)).1 Try.isAgg3 Try.sizeOf3 rfl j3 fun kN uK => ?_)
     obtain rfl := RV_int.1 uK
     refine EL_p (fPtr c8 0) (P_fieldAddr at_83_0 d7 (OB.ptr i3)) rfl ?_
     refine EL_do .plain rfl (D_loadF (g := m8) part_BoxPick_0.1 Try.isAgg3 Try.sizeOf3 rfl i3 fun lN vK => ?_)
     obtain rfl := RV_int.1 vK
     refine EL_p (.int .i64 (max64 (o0)[0] (j1).Left)) (P_max rfl rfl) rfl ?_
     refine EL_p (fPtr r8 0) (P_indexAddrA (α := Int) (i := (0 : Int)) Try.underlying138 Try.sizeOf3 o8 (OB.ptr j3) rfl (idx_vec (v := o0) (i := 0) (by decide))) rfl ?_
     refine EL_do .plain rfl (D_loadF (g := m8) (SubS.vec (β := Int) (n := 2) (i := 0) (by decide)).1 Try.isAgg3 Try.sizeOf3 rfl j3 fun mN xK => ?_)
     obtain rfl := RV_int.1 xK
     refine EL_p (fPtr c8 0) (P_fieldAddr at_83_0 d7 (OB.ptr i3)) rfl ?_
     refine EL_do .plain rfl (D_loadF (g := m8) part_BoxPick_0.1 Try.isAgg3 Try.sizeOf3 rfl i3 fun nN yK => ?_)
     obtain rfl := RV_int.1 yK
     refine EL_p (.int .i64 (min64 (o0)[0] (j1).Left)) (P_min rfl rfl) rfl ?_
     refine EL_in (.int .i64 ((w64 ((max64 (o0)[0] (j1).Left) - (min64 (o0)[0] (j1).Left))))) rfl rfl rfl rfl ?_
     refine EL_p (fPtr r8 1) (P_indexAddrA (α := Int) (i := (1 : Int)) Try.underlying138 Try.sizeOf3 o8 (OB.ptr j3) rfl (idx_vec (v := o0) (i := 1) (by decide))) rfl ?_
     refine EL_do .plain rfl (D_loadF (g := m8) (SubS.vec (β := Int) (n := 2) (i := 1) (by decide)).1 Try.isAgg3 Try.sizeOf3 rfl j3 fun oN zK => ?_)
     obtain rfl := RV_int.1 zK
     refine EL_p (fPtr c8 1) (P_fieldAddr at_83_1 d7 (OB.ptr i3)) rfl ?_
     refine EL_do .plain rfl (D_loadF (g := m8) part_BoxPick_1.1 Try.isAgg3 Try.sizeOf3 rfl i3 fun pN aL => ?_)
     obtain rfl := RV_int.1 aL
     refine EL_p (.int .i64 (max64 (o0)[1] (j1).Right)) (P_max rfl rfl) rfl ?_
     refine EL_p (.int .i64 ((w64 ((w64 ((max64 (o0)[0] (j1).Left) - (min64 (o0)[0] (j1).Left))) + (max64 (o0)[1] (j1).Right))))) (P_int rfl rfl rfl) rfl ?_
     refine EL_p (fPtr r8 1) (P_indexAddrA (α := Int) (i := (1 : Int)) Try.underlying138 Try.sizeOf3 o8 (OB.ptr j3) rfl (idx_vec (v := o0) (i := 1) (by decide))) rfl ?_
     refine EL_do .plain rfl (D_loadF (g := m8) (SubS.vec (β := Int) (n := 2) (i := 1) (by decide)).1 Try.isAgg3 Try.sizeOf3 rfl j3 fun qN bL => ?_)
     obtain rfl := RV_int.1 bL
     refine EL_p (fPtr c8 1) (P_fieldAddr at_83_1 d7 (OB.ptr i3)) rfl ?_
     refine EL_do .plain rfl (D_loadF (g := m8) part_BoxPick_1.1 Try.isAgg3 Try.sizeOf3 rfl i3 fun rN cL => ?_)
     obtain rfl := RV_int.1 cL
     refine EL_p (.int .i64 (min64 (o0)[1] (j1).Right)) (P_min rfl rfl) rfl ?_
     refine EL_p (.int .i64 ((w64 ((w64 ((w64 ((max64 (o0)[0] (j1).Left) - (min64 (o0)[0] (j1).Left))) + (max64 (o0)[1] (j1).Right))) - (min64 (o0)[1] (j1).Right))))) (P_int rfl rfl rfl) rfl ?_
     refine EL_p (.int .i64 ((w64 (o7 + (w64 ((w64 ((w64 ((max64 (o0)[0] (j1).Left) - (min64 (o0)[0] (j1).Left))) + (max64 (o0)[1] (j1).Right))) - (min64 (o0)[1] (j1).Right))))))) (P_int rfl rfl rfl) rfl ?_
     refine EL_p (.int .i64 ((w64 (o7 + (w64 ((w64 ((w64 ((max64 (o0)[0] (j1).Left) - (min64 (o0)[0] (j1).Left))) + (max64 (o0)[1] (j1).Right))) - (min64 (o0)[1] (j1).Right))))))) (P_assign rfl) rfl ?_
     refine EL_nil (thn_n (E_region (EL_p (fPtr c8 0) (P_fieldAddr at_83_0 d7 (OB.ptr i3)) rfl ?_)))
     refine EL_do .plain rfl (D_loadF (g := m8) part_BoxPick_0.1 Try.isAgg3 Try.sizeOf3 rfl i3 fun sN dL => ?_)
     obtain rfl := RV_int.1 dL
     refine EL_p (fPtr c8 1) (P_fieldAddr at_83_1 d7 (OB.ptr i3)) rfl ?_
     refine EL_do .plain rfl (D_loadF (g := m8) part_BoxPick_1.1 Try.isAgg3 Try.sizeOf3 rfl i3 fun tN eL => ?_)
     obtain rfl := RV_int.1 eL
     have bH : RV m8.m tK (⟨List.toArray [(j1).Left, (j1).Right], rfl⟩ : Vector Int 2) (.agg (setCh [[.int .i64 0], [.int .i64 0]] [(0, .int .i64 ((j1).Left)), (1, .int .i64 ((j1).Right))]).flatten.toArray) := RV_build rfl (rep_vec (flat_chunk rfl (flat_chunk rfl flat_nil)) rfl)
     generalize cJ : (Value.agg (setCh [[.int .i64 0], [.int .i64 0]] [(0, .int .i64 ((j1).Left)), (1, .int .i64 ((j1).Right))]).flatten.toArray) = cH at bH
     refine EL_p cH (cJ ▸ P_buildA (vs := [(0, .int .i64 ((j1).Left)), (1, .int .i64 ((j1).Right))]) [[.int .i64 0], [.int .i64 0]] Try.underlying138 layA_138 szA_3 rfl (by simp) (.cons rfl (.cons rfl .nil)) ⟨⟨_, rfl, rfl⟩, ⟨⟨_, rfl, rfl⟩, trivial⟩⟩) rfl ?_
     refine EL_do .plain rfl (D_storeOc (g := m8) (v := cH) Try.sizeOf138 o8 j3 rfl bH fun gL uN hs b748 cb => ?_)
     clear cb
     have hfr := hfr.stp hs
     have z3 := z3.stp hs
     have z4 := z4.stp hs
     have mA := mA.stp hs
     have o726 := o726.stp hs rfl
     have kE := kE.stp hs
     have o729 := o729.stp hs rfl
     have b723 := b723.stp hs rfl
     refine EL_nil (blk_n ?_)
     obtain ⟨rfl, rfl, rfl, rfl, rfl⟩ := pairs5 h
     exact hQ _ _ ⟨gL, (zG), (aH), hfr, qG, rG, z3, sG, z4, rfl, mA, o726, rfl, kE, o729, nB, b723, rfl, o8, b748, iF⟩
   ·clear hx
    obtain ⟨iL, dH, gH, hfr, iH, jH, kH, lH, mH, nH, oH, pH, qH, sH, tH, uH, vH, xH, nF, oF, pF⟩ := hR
    refine E_region (EL_mv pF rfl ?_)
    refine EL_in (.int .i64 ((w64 (u3 + (1 : Int))))) rfl rfl rfl rfl ?_
    refine EL_at (.int .i64 ((w64 (u3 + (1 : Int))))) rfl rfl ?_
    exact EL_nil (thn_n (bI (a9, d9, nA, oA, o9, (w64 (u3 + (1 : Int)))) _ _ ⟨iL, (dH), (gH), hfr, iH, jH, kH, lH, mH, nH, oH, pH, qH, sH, tH, uH, vH, xH, nF, oF, rfl⟩ h))
 ·clear hx
  obtain ⟨jL, tB, vB, hfr, yH, xB, tL, zH, yB, uL, zB, zA, aI⟩ := hR
  refine E_seq (L_selfO Try.isAgg76 Try.sizeOf76 rfl zA fun lL dJ eJ => ?_)
  refine E_drawL (g := jL) (n := 8) [(6, (fun _ _ _ => True))] [0, 1, 2, 3, 4, 5, 6, 7] rfl mixed (by kernel_rfl) (⟨fun _ => (fun _ _ _ _ _ _ => trivial), trivial⟩) ?_
  refine L_p tB rfl rfl (P_move yH) ?_
  refine L_p vB rfl rfl (P_move zH) ?_
  refine L_ld (c := lL) rfl rfl .plain (fun _ _ h => ⟨h.ch, fun b hb _ => h.below.block b hb⟩) (dJ _) zB ?_
  refine L_p (.int .i64 (y8)) rfl rfl (P_move aI) ?_
  refine L_p tB rfl rfl (P_assign rfl) ?_
  refine L_p vB rfl rfl (P_assign rfl) ?_
  refine L_do (φ := fun _ _ _ => True) rfl rfl .plain (fun g w hd => eJ _ _ _ g w ⟨hd.1.ch, fun b hb _ => hd.1.below.block b hb⟩ zB rfl) (fun vN hv => ?_)
  clear hv
  refine L_p (.int .i64 (y8)) rfl rfl (P_assign rfl) ?_
  refine L_nl fun xN yN hs => ?_
  have hfr := hfr.ext hs
  have xB := xB.ext hs
  have yB := yB.ext hs
  have zA := zA.ext hs
  clear hs
  refine EL_nil (thn_n (E_ret ?_))
  obtain rfl := sinj h
  obtain ⟨ad762, cv762, hp762, gJ, cr762⟩ := ob_read Try.isAgg76 Try.sizeOf76 zA
  exact endm_ttct rfl rfl (show _ = tB from rfl) (show _ = vB from rfl) ((show _ = p3 from zB).trans hp762) gJ (show _ = .int .i64 (y8) from rfl) ⟨_, hfr, _, _, _, _, rfl, xB, yB, cr762, rfl⟩
def f64 (x0 : List (List Int)) (x1 : (List Int) → Option Bool) : Option (Bool) :=
 (f90 x0 x1).bind fun y2 =>
 some ((decide (y2 ≥ (0 : Int))))
def f66 (x0 : List (List Int)) : Option ((List Int)) :=
 Option.bind (α := Int) (
  lp (σ := Int × Int) (fun gA (i3, o0) =>
   bif (decide (o0 < ((x0).length : Int))) then
    Option.bind (α := Int) (
     (idx x0 o0).bind fun z3 =>
     bif (decide ((w64 (i3 + ((z3).length : Int))) < (0 : Int))) then
      none
     else
      some ((w64 (i3 + ((z3).length : Int))))
     ) fun z4 =>
    gA (z4, (w64 (o0 + (1 : Int))))
   else
    some (i3)
   ) big ((0 : Int), (0 : Int))
  ) fun i5 =>
 (f91 i5).bind fun iA =>
 Option.bind (α := (List Int)) (
  lp (σ := (List Int) × Int) (fun jA (j6, j1) =>
   bif (decide (j1 < ((x0).length : Int))) then
    Option.bind (α := (List Int)) (
     (idx x0 j1).bind fun lA =>
     (apnd 8 j6 lA).bind fun mA =>
     some (mA)
     ) fun u3 =>
    jA (u3, (w64 (j1 + (1 : Int))))
   else
    some (j6)
   ) big (iA, (0 : Int))
  ) fun l5 =>
 some (l5)
def f86 (x0 : List BoxShuttle) (x1 : BoxShuttle → Option Bool) : Option (Bool) :=
 (f102 x0 x1).bind fun y2 =>
 some ((decide (y2 ≥ (0 : Int))))
theorem en86 : Enters Try.prog 86 := enters_of Try.func86 (by kernel_rfl) rfl
theorem wk86 {gI : Gh} {wI : World} {x0 : List BoxShuttle} {x1 : BoxShuttle → Option Bool} {up0 : Value} (rp0 : RV gI.m wI x0 up0) {up1 : Value} (rp1 : FnV1 Try.prog x1 up1 gI wI) {r : Bool} (h : f86 x0 x1 = some r) : Fn Try.prog 86 #[up0, up1] gI wI (fun _ _ v => v = .bool (r)) := by
 unfold f86 at h
 refine fn_of_E Try.func86 rfl (Nat.le_of_ble_eq_true rfl) fun g0 hm hfr => ?_
 have rp0 : RV g0.m wI x0 up0 := hm ▸ rp0
 obtain ⟨ff1, fa1, fc1, rfl, fen1, fcl1⟩ := rp1
 show E _ 9 none _ _ _ _ _
 refine E_seq (E_region (EL_at (.bool false) rfl rfl ?_))
 refine EL_nil (thn_n (E_seq (E_region (EL_mw up0 rfl rfl ?_))))
 refine EL_mw ((.func (.func ff1) fa1 fc1)) rfl rfl ?_
 obtain ⟨y2, hy2, h⟩ := bsome h
 refine EL_do .plain rfl (D_call (g := g0) (vs := [up0, (.func (.func ff1) fa1 fc1)]) en102 (.cons rfl (.cons rfl .nil)) (wk102 rp0 (FnV1.ch ⟨_, _, _, rfl, fen1, fcl1⟩ hfr.ch) hy2) fun g1 w1_ v1 hs hr => ?_)
 have hfr := hfr.ext hs
 subst hr
 refine EL_in (.bool ((decide (y2 ≥ (0 : Int))))) rfl rfl rfl rfl ?_
 refine EL_at (.bool ((decide (y2 ≥ (0 : Int))))) rfl rfl ?_
 refine EL_nil (thn_n (E_ret ?_))
 obtain rfl := sinj h
 exact end1 rfl rfl (show _ = .bool ((decide (y2 ≥ (0 : Int)))) from rfl) ⟨_, hfr, rfl⟩
def f87 (x0 : Int) (x1 : Int) (x2 : List Int) : Option (Bool) :=
 (f103 x2 ((fun a0 => f104 a0 x0 x1))).bind fun y4 =>
 some ((!y4))
theorem en87 : Enters Try.prog 87 := enters_of Try.func87 (by kernel_rfl) rfl
theorem wk87 {gI : Gh} {wI : World} {x0 : Int} {x1 : Int} {x2 : List Int} {up2 : Value} (rp2 : RV gI.m wI x2 up2) {r : Bool} (h : f87 x0 x1 x2 = some r) : Fn Try.prog 87 #[.int .i64 (x0), .int .i64 (x1), up2] gI wI (fun _ _ v => v = .bool (r)) := by
 unfold f87 at h
 refine fn_of_E Try.func87 rfl (Nat.le_of_ble_eq_true rfl) fun g0 hm hfr => ?_
 have rp2 : RV g0.m wI x2 up2 := hm ▸ rp2
 show E _ 11 none _ _ _ _ _
 refine E_seq (E_region (EL_do .plain rfl (D_box (g := g0) rfl (RV_int.2 rfl) fun g1 w1 p1 hs q1 => ?_)))
 have hfr := hfr.ext hs
 have rp2 := rp2.ext hs
 refine EL_do .plain rfl (D_box (g := g1) rfl (RV_int.2 rfl) fun g2 w2 p2 hs q2 => ?_)
 have hfr := hfr.ext hs
 have rp2 := rp2.ext hs
 have q1 := q1.ext hs
 refine EL_at (.bool false) rfl rfl ?_
 refine EL_nil (thn_n (E_seq (E_region (EL_mw up2 rfl rfl ?_))))
 refine EL_p ((.func (.func 104) #[] #[p1, p2])) (P_makeFunc (capf_0_2 (show ev _ _ = p1 from rfl) (show ev _ _ = p2 from rfl))) rfl ?_
 obtain ⟨y4, o0, h⟩ := bsome h
 refine EL_do .plain rfl (D_call (g := g2) (vs := [up2, (.func (.func 104) #[] #[p1, p2])]) en103 (.cons rfl (.cons rfl .nil)) (wk103 rp2 ⟨104, #[], #[p1, p2], rfl, en104, fun g' w' hch a0 b0 r hu0 hr => by obtain rfl := RV_int.1 hu0; exact Fn.mono (wk104  (q1.ch hch) (q2.ch hch) hr) fun _ _ _ h => RV_bool.2 h⟩ o0) fun g3 w3_ v3 hs hr => ?_)
 have hfr := hfr.ext hs
 subst hr
 refine EL_p (.bool (!y4)) (P_not rfl) rfl ?_
 refine EL_at (.bool (!y4)) rfl rfl ?_
 refine EL_nil (thn_n (E_ret ?_))
 obtain rfl := sinj h
 exact end1 rfl rfl (show _ = .bool (!y4) from rfl) ⟨_, hfr, rfl⟩
def f95 (x0 : BoxPick) (z0 : BoxBoxLoom) : Option (Bool) :=
 Option.bind (α := Bool) (
  (idx (((z0).BoxLoom).Boxes) (0 : Int)).bind fun z3 =>
  (f87 ((0 : Int)) ((w64 (z3 - (1 : Int)))) (([(x0).Left] : List Int))).bind fun j3 =>
  bif (!j3) then
   some (true)
  else
   (idx (((z0).BoxLoom).Boxes) (1 : Int)).bind fun z4 =>
   (f87 ((0 : Int)) ((w64 (z4 - (1 : Int)))) (([(x0).Right] : List Int))).bind fun y135 =>
   some ((!y135))
  ) fun u3 =>
 some (u3)
theorem en95 : Enters Try.prog 95 := enters_of Try.func95 (by kernel_rfl) rfl
theorem wk95 {gI : Gh} {wI : World} {x0 : BoxPick} {z0 : BoxBoxLoom} {up0 : Value} (rp0 : RV gI.m wI x0 up0) {pf0 : Value} (qf0 : PT gI.m wI z0 pf0) {r : Bool} (h : f95 x0 z0 = some r) : Fn Try.prog 95 #[up0, pf0] gI wI (fun _ _ v => v = .bool (r)) := by
 unfold f95 at h
 refine fn_of_E Try.func95 rfl (Nat.le_of_ble_eq_true rfl) fun g0 hm hfr => ?_
 have qf0 : PT g0.m wI z0 pf0 := hm ▸ qf0
 have rp0 : RV g0.m wI x0 up0 := hm ▸ rp0
 show E _ 28 none _ _ _ _ _
 refine E_seq (E_region (EL_do .plain rfl (D_box (g := g0) rfl rp0 fun g1 w1 p1 hs q1 => ?_)))
 have hfr := hfr.ext hs
 have qf0 := qf0.ext hs
 refine EL_at (.bool false) rfl rfl ?_
 refine EL_nil (thn_n ?_)
 obtain ⟨u3, hx, h⟩ := bsome h
 refine E_join (fun e w => ∃ (g : Gh) , Fr gI wI g w ∧ e 3 = .bool (u3)) (fun Q' hQ => ?_) (fun t8 v8 hR => ?_)
 ·replace h := hx
  clear hx
  have x5 := PT_field (part_BoxBoxLoom_0).1 qf0
  have k8 := PT_field (part_BoxLoom_0).1 x5
  refine L_load (x := .tmp 5) Try.isAgg22 Try.sizeOf22 k8 fun l5 i6 j6 => ?_
  obtain ⟨z3, i5, h⟩ := bsome h
  have l8 := PT_idx i6 i5
  refine L_load (x := .tmp 7) Try.isAgg3 Try.sizeOf3 l8 fun o9 m8 v6 => ?_
  obtain rfl := RV_int.1 m8
  have n8 := PT_field (part_BoxPick_0).1 q1
  refine L_load (x := .tmp 10) Try.isAgg3 Try.sizeOf3 n8 fun t9 o8 x6 => ?_
  obtain rfl := RV_int.1 o8
  obtain ⟨j3, y6, h⟩ := bsome h
  rcases csome h with ⟨j1, h⟩ | ⟨j1, h⟩
  ·refine E_drawL (g := g1) (n := 25) [(8, (fun v g w => RV g.m w ([(x0).Left] : List Int) v ∧ OS 3012 g w 3 ([(x0).Left] : List Int) v ∧ FullV v)), (9, (fun v g w => v = .bool (j3)))] [0, 1, 2, 3, 4, 5, 6, 7, 8, 9, 10, 11, 12, 13, 14, 15, 16, 17, 18, 19, 20, 21, 22, 23, 24] rfl mixed (by kernel_rfl) (⟨fun _ => up_and up_rv (up_and up_os (up_eq _)), fun _ => up_eq _, trivial⟩) ?_
   refine L_p (fPtr pf0 0) rfl rfl (P_fieldAddr at_102_0 rfl (PT.ptr qf0)) ?_
   refine L_p (fPtr (fPtr pf0 0) 0) rfl rfl (P_fieldAddr at_25_0 rfl (PT.ptr x5)) ?_
   refine L_ld (c := l5) rfl rfl .plain (fun _ _ h => h.ch) j6 rfl ?_
   refine L_p (ePtr l5 (0 : Int) 1) rfl rfl (P_indexAddr (α := Int) Try.underlying22 Try.sizeOf3 rfl i6 rfl i5) ?_
   refine L_ld (c := .int .i64 (z3)) rfl rfl .plain (fun _ _ h => h.ch) v6 rfl ?_
   refine L_p (.int .i64 ((w64 (z3 - (1 : Int))))) rfl rfl (P_int rfl rfl rfl) ?_
   refine L_p (fPtr p1 0) rfl rfl (P_fieldAddr at_83_0 rfl (PT.ptr q1)) ?_
   refine L_ld (c := .int .i64 ((x0).Left)) rfl rfl .plain (fun _ _ h => h.ch) x6 rfl ?_
   refine L_do (φ := fun v g w => RV g.m w ([(x0).Left] : List Int) v ∧ OS 3012 g w 3 ([(x0).Left] : List Int) v ∧ FullV v) rfl rfl .plain (fun g w hd => D_buildSlice (g := g) 3012 (xs := ([(x0).Left] : List Int)) (vs := [.int .i64 ((x0).Left)]) Try.underlying22 Try.sizeOf3 Try.zeroValue3 rfl rfl (.cons rfl .nil) (RVs.cons (RV_int.2 rfl) RVs.nil) rfl rfl fun g' w' v hs o r hxt hfl => ⟨g', hxt, r, o, hfl⟩) (fun o0 hv => ?_)
   clear hv
   refine L_do (φ := fun v g w => v = .bool (j3)) rfl rfl .plain (fun g w hd => D_call (g := g) (vs := [.int .i64 (0), .int .i64 ((w64 (z3 - (1 : Int)))), o0]) en87 (.cons rfl (.cons rfl (.cons rfl .nil))) (wk87 (word (A := fun g w => RV g.m w ([(x0).Left] : List Int) o0 ∧ OS 3012 g w 3 ([(x0).Left] : List Int) o0 ∧ FullV o0) 8 rfl rfl (deps_of hd)).1 y6) fun g' w' v hs hr => ⟨g', hs, hr⟩) (fun q8 hv => ?_)
   obtain ⟨_, _, _, rfl⟩ := hv
   refine L_p (.bool (!j3)) rfl rfl (P_not rfl) ?_
   refine L_p (.bool (!j3)) rfl rfl (P_move rfl) ?_
   iterate 11 refine L_s rfl rfl rfl j1 rfl ?_
   refine L_p (.bool true) rfl rfl (P_pick (b := (!j3)) rfl (pick_t j1 rfl)) ?_
   refine L_p (.bool true) rfl rfl (P_assign rfl) ?_
   refine L_nil fun r8 u9 hall => ?_
   have hs := hall.1
   have hfr := hfr.ext hs
   have x8 := (word_all (A := fun g w => RV g.m w ([(x0).Left] : List Int) o0 ∧ OS 3012 g w 3 ([(x0).Left] : List Int) o0 ∧ FullV o0) 8 rfl hall).1
   have o109 := (word_all (A := fun g w => RV g.m w ([(x0).Left] : List Int) o0 ∧ OS 3012 g w 3 ([(x0).Left] : List Int) o0 ∧ FullV o0) 8 rfl hall).2.1
   clear hs hall
   refine EL_nil ?_
   obtain rfl := sinj h
   exact hQ _ _ ⟨r8, hfr, rfl⟩
  ·have a7 := PT_field (part_BoxBoxLoom_0).1 qf0
   have o7 := PT_field (part_BoxLoom_0).1 a7
   refine L_load (x := .tmp 17) Try.isAgg22 Try.sizeOf22 o7 fun b7 c7 g7 => ?_
   obtain ⟨z4, t5, h⟩ := bsome h
   have u7 := PT_idx c7 t5
   refine L_load (x := .tmp 19) Try.isAgg3 Try.sizeOf3 u7 fun y8 v7 i7 => ?_
   obtain rfl := RV_int.1 v7
   have c8 := PT_field (part_BoxPick_1).1 q1
   refine L_load (x := .tmp 22) Try.isAgg3 Try.sizeOf3 c8 fun a9 g8 j7 => ?_
   obtain rfl := RV_int.1 g8
   obtain ⟨y135, m7, h⟩ := bsome h
   refine E_drawL (g := g1) (n := 25) [(8, (fun v g w => RV g.m w ([(x0).Left] : List Int) v ∧ OS 3012 g w 3 ([(x0).Left] : List Int) v ∧ FullV v)), (9, (fun v g w => v = .bool (j3))), (20, (fun v g w => RV g.m w ([(x0).Right] : List Int) v ∧ OS 3024 g w 3 ([(x0).Right] : List Int) v ∧ FullV v)), (21, (fun v g w => v = .bool (y135)))] [0, 1, 2, 3, 4, 5, 6, 7, 8, 9, 10, 11, 12, 13, 14, 15, 16, 17, 18, 19, 20, 21, 22, 23, 24] rfl mixed (by kernel_rfl) (⟨fun _ => up_and up_rv (up_and up_os (up_eq _)), fun _ => up_eq _, fun _ => up_and up_rv (up_and up_os (up_eq _)), fun _ => up_eq _, trivial⟩) ?_
   refine L_p (fPtr pf0 0) rfl rfl (P_fieldAddr at_102_0 rfl (PT.ptr qf0)) ?_
   refine L_p (fPtr (fPtr pf0 0) 0) rfl rfl (P_fieldAddr at_25_0 rfl (PT.ptr x5)) ?_
   refine L_ld (c := l5) rfl rfl .plain (fun _ _ h => h.ch) j6 rfl ?_
   refine L_p (ePtr l5 (0 : Int) 1) rfl rfl (P_indexAddr (α := Int) Try.underlying22 Try.sizeOf3 rfl i6 rfl i5) ?_
   refine L_ld (c := .int .i64 (z3)) rfl rfl .plain (fun _ _ h => h.ch) v6 rfl ?_
   refine L_p (.int .i64 ((w64 (z3 - (1 : Int))))) rfl rfl (P_int rfl rfl rfl) ?_
   refine L_p (fPtr p1 0) rfl rfl (P_fieldAddr at_83_0 rfl (PT.ptr q1)) ?_
   refine L_ld (c := .int .i64 ((x0).Left)) rfl rfl .plain (fun _ _ h => h.ch) x6 rfl ?_
   refine L_do (φ := fun v g w => RV g.m w ([(x0).Left] : List Int) v ∧ OS 3012 g w 3 ([(x0).Left] : List Int) v ∧ FullV v) rfl rfl .plain (fun g w hd => D_buildSlice (g := g) 3012 (xs := ([(x0).Left] : List Int)) (vs := [.int .i64 ((x0).Left)]) Try.underlying22 Try.sizeOf3 Try.zeroValue3 rfl rfl (.cons rfl .nil) (RVs.cons (RV_int.2 rfl) RVs.nil) rfl rfl fun g' w' v hs o r hxt hfl => ⟨g', hxt, r, o, hfl⟩) (fun o0 hv => ?_)
   clear hv
   refine L_do (φ := fun v g w => v = .bool (j3)) rfl rfl .plain (fun g w hd => D_call (g := g) (vs := [.int .i64 (0), .int .i64 ((w64 (z3 - (1 : Int)))), o0]) en87 (.cons rfl (.cons rfl (.cons rfl .nil))) (wk87 (word (A := fun g w => RV g.m w ([(x0).Left] : List Int) o0 ∧ OS 3012 g w 3 ([(x0).Left] : List Int) o0 ∧ FullV o0) 8 rfl rfl (deps_of hd)).1 y6) fun g' w' v hs hr => ⟨g', hs, hr⟩) (fun q8 hv => ?_)
   obtain ⟨_, _, _, rfl⟩ := hv
   refine L_p (.bool (!j3)) rfl rfl (P_not rfl) ?_
   refine L_p (.bool (!j3)) rfl rfl (P_move rfl) ?_
   refine L_y (fPtr pf0 0) rfl rfl rfl rfl j1 (P_fieldAddr at_102_0 rfl (PT.ptr qf0)) ?_
   refine L_y (fPtr (fPtr pf0 0) 0) rfl rfl rfl rfl j1 (P_fieldAddr at_25_0 rfl (PT.ptr a7)) ?_
   refine L_ld (c := b7) rfl rfl (.yes2 rfl rfl j1) (fun _ _ h => h.ch) g7 rfl ?_
   refine L_y (ePtr b7 (1 : Int) 1) rfl rfl rfl rfl j1 (P_indexAddr (α := Int) Try.underlying22 Try.sizeOf3 rfl c7 rfl t5) ?_
   refine L_ld (c := .int .i64 (z4)) rfl rfl (.yes2 rfl rfl j1) (fun _ _ h => h.ch) i7 rfl ?_
   refine L_y (.int .i64 ((w64 (z4 - (1 : Int))))) rfl rfl rfl rfl j1 (P_int rfl rfl rfl) ?_
   refine L_y (fPtr p1 1) rfl rfl rfl rfl j1 (P_fieldAddr at_83_1 rfl (PT.ptr q1)) ?_
   refine L_ld (c := .int .i64 ((x0).Right)) rfl rfl (.yes2 rfl rfl j1) (fun _ _ h => h.ch) j7 rfl ?_
   refine L_do (φ := fun v g w => RV g.m w ([(x0).Right] : List Int) v ∧ OS 3024 g w 3 ([(x0).Right] : List Int) v ∧ FullV v) rfl rfl (.yes2 rfl rfl j1) (fun g w hd => D_buildSlice (g := g) 3024 (xs := ([(x0).Right] : List Int)) (vs := [.int .i64 ((x0).Right)]) Try.underlying22 Try.sizeOf3 Try.zeroValue3 rfl rfl (.cons rfl .nil) (RVs.cons (RV_int.2 rfl) RVs.nil) rfl rfl fun g' w' v hs o r hxt hfl => ⟨g', hxt, r, o, hfl⟩) (fun i3 hv => ?_)
   clear hv
   refine L_do (φ := fun v g w => v = .bool (y135)) rfl rfl (.yes2 rfl rfl j1) (fun g w hd => D_call (g := g) (vs := [.int .i64 (0), .int .i64 ((w64 (z4 - (1 : Int)))), i3]) en87 (.cons rfl (.cons rfl (.cons rfl .nil))) (wk87 (word (A := fun g w => RV g.m w ([(x0).Right] : List Int) i3 ∧ OS 3024 g w 3 ([(x0).Right] : List Int) i3 ∧ FullV i3) 20 rfl rfl (deps_of hd)).1 m7) fun g' w' v hs hr => ⟨g', hs, hr⟩) (fun d9 hv => ?_)
   obtain ⟨_, _, _, rfl⟩ := hv
   refine L_y (.bool (!y135)) rfl rfl rfl rfl j1 (P_not rfl) ?_
   refine L_p (.bool (!y135)) rfl rfl (P_pick (b := (!j3)) rfl (pick_f j1 rfl)) ?_
   refine L_p (.bool (!y135)) rfl rfl (P_assign rfl) ?_
   refine L_nil fun i8 i9 hall => ?_
   have hs := hall.1
   have hfr := hfr.ext hs
   have k9 := (word_all (A := fun g w => RV g.m w ([(x0).Left] : List Int) o0 ∧ OS 3012 g w 3 ([(x0).Left] : List Int) o0 ∧ FullV o0) 8 rfl hall).1
   have o149 := (word_all (A := fun g w => RV g.m w ([(x0).Left] : List Int) o0 ∧ OS 3012 g w 3 ([(x0).Left] : List Int) o0 ∧ FullV o0) 8 rfl hall).2.1
   have l9 := (word_all (A := fun g w => RV g.m w ([(x0).Right] : List Int) i3 ∧ OS 3024 g w 3 ([(x0).Right] : List Int) i3 ∧ FullV i3) 20 rfl hall).1
   have o161 := (word_all (A := fun g w => RV g.m w ([(x0).Right] : List Int) i3 ∧ OS 3024 g w 3 ([(x0).Right] : List Int) i3 ∧ FullV i3) 20 rfl hall).2.1
   clear hs hall
   refine EL_nil ?_
   obtain rfl := sinj h
   exact hQ _ _ ⟨i8, hfr, rfl⟩
 ·clear hx
  obtain ⟨n9, hfr, d7⟩ := hR
  refine E_ret ?_
  obtain rfl := sinj h
  exact end1 rfl rfl (show _ = .bool (u3) from d7) ⟨_, hfr, rfl⟩
def f96 (x0 : List BoxPick) (x1 : BoxPick → Option Bool) : Option (Bool) :=
 (f105 x0 x1).bind fun y2 =>
 some ((decide (y2 ≥ (0 : Int))))
theorem en96 : Enters Try.prog 96 := enters_of Try.func96 (by kernel_rfl) rfl
theorem wk96 {gI : Gh} {wI : World} {x0 : List BoxPick} {x1 : BoxPick → Option Bool} {up0 : Value} (rp0 : RV gI.m wI x0 up0) {up1 : Value} (rp1 : FnV1 Try.prog x1 up1 gI wI) {r : Bool} (h : f96 x0 x1 = some r) : Fn Try.prog 96 #[up0, up1] gI wI (fun _ _ v => v = .bool (r)) := by
 unfold f96 at h
 refine fn_of_E Try.func96 rfl (Nat.le_of_ble_eq_true rfl) fun g0 hm hfr => ?_
 have rp0 : RV g0.m wI x0 up0 := hm ▸ rp0
 obtain ⟨ff1, fa1, fc1, rfl, fen1, fcl1⟩ := rp1
 show E _ 9 none _ _ _ _ _
 refine E_seq (E_region (EL_at (.bool false) rfl rfl ?_))
 refine EL_nil (thn_n (E_seq (E_region (EL_mw up0 rfl rfl ?_))))
 refine EL_mw ((.func (.func ff1) fa1 fc1)) rfl rfl ?_
 obtain ⟨y2, hy2, h⟩ := bsome h
 refine EL_do .plain rfl (D_call (g := g0) (vs := [up0, (.func (.func ff1) fa1 fc1)]) en105 (.cons rfl (.cons rfl .nil)) (wk105 rp0 (FnV1.ch ⟨_, _, _, rfl, fen1, fcl1⟩ hfr.ch) hy2) fun g1 w1_ v1 hs hr => ?_)
 have hfr := hfr.ext hs
 subst hr
 refine EL_in (.bool ((decide (y2 ≥ (0 : Int))))) rfl rfl rfl rfl ?_
 refine EL_at (.bool ((decide (y2 ≥ (0 : Int))))) rfl rfl ?_
 refine EL_nil (thn_n (E_ret ?_))
 obtain rfl := sinj h
 exact end1 rfl rfl (show _ = .bool ((decide (y2 ≥ (0 : Int)))) from rfl) ⟨_, hfr, rfl⟩
def f97 (x0 : BoxRace) (x1 : BoxPick) : Option (BoxRace × Int × Int) :=
 (idx ((x0).boxes).toList (0 : Int)).bind fun y7 =>
 (idx (y7).toList (x1).Left).bind fun y9 =>
 (idx ((x0).boxes).toList (1 : Int)).bind fun c8 =>
 (idx (c8).toList (x1).Right).bind fun i3 =>
 jn (σ := BoxRace) (fun u7 =>
  (f106 (((x0).at_).Left) ((x1).Left)).bind fun z3 =>
  (f106 (((x0).at_).Right) ((x1).Right)).bind fun z4 =>
  (idx ((x0).boxes).toList (0 : Int)).bind fun g8 =>
  (idx (g8).toList (x1).Left).bind fun bA =>
  (idx (({ x0 with boxes := (vmod ((x0).boxes) ((0 : Int)) (fun b => (vset b ((x1).Left) i3))) }).boxes).toList (1 : Int)).bind fun i8 =>
  (idx (i8).toList (x1).Right).bind fun n8 =>
  some ({ { { x0 with boxes := (vmod ((x0).boxes) ((0 : Int)) (fun b => (vset b ((x1).Left) i3))) } with boxes := (vmod (({ x0 with boxes := (vmod ((x0).boxes) ((0 : Int)) (fun b => (vset b ((x1).Left) i3))) }).boxes) ((1 : Int)) (fun b => (vset b ((x1).Right) y9))) } with at_ := x1 }, (w64 (y9 + i3)), (w64 (z3 + z4)))
  ) fun k8 =>
 bif ((y9 == (0 : Int)) == (i3 == (0 : Int))) then
  some (x0, (0 : Int), (0 : Int))
 else
  k8 ((⟨(⟨List.toArray [(⟨List.toArray [0, 0, 0, 0], rfl⟩ : Vector Int 4), (⟨List.toArray [0, 0, 0, 0], rfl⟩ : Vector Int 4)], rfl⟩ : Vector (Vector Int 4) 2), ⟨0, 0⟩⟩ : BoxRace))
theorem en97 : Enters Try.prog 97 := enters_of Try.func97 (by kernel_rfl) rfl
theorem wk97 {gI : Gh} {wI : World} {x0 : BoxRace} {x1 : BoxPick} {up0 : Value} (rp0 : RV gI.m wI x0 up0) {up1 : Value} (rp1 : RV gI.m wI x1 up1) {r : BoxRace × Int × Int} (h : f97 x0 x1 = some r) : Fn Try.prog 97 #[up0, up1] gI wI (fun m w v => ∃ y0 y1 y2, v = .tuple #[y0, y1, y2] ∧ RV m w (r.1) y0 ∧ y1 = .int .i64 (r.2.1) ∧ y2 = .int .i64 (r.2.2)) := by
 unfold f97 at h
 refine fn_of_E Try.func97 rfl (Nat.le_of_ble_eq_true rfl) fun g0 hm hfr => ?_
 have rp0 : RV g0.m wI x0 up0 := hm ▸ rp0
 have rp1 : RV g0.m wI x1 up1 := hm ▸ rp1
 show E _ 59 none _ _ _ _ _
 refine E_seq (E_region (EL_do .plain rfl (D_boxO (g := g0) 2002 rfl rp0 fun g1 w1 p1 hs b1 => ?_)))
 have hfr := hfr.stp hs
 have rp0 := rp0.stp hs
 have rp1 := rp1.stp hs
 refine EL_do .plain rfl (D_box (g := g1) rfl rp1 fun g2 w2 p2 hs q2 => ?_)
 have hfr := hfr.ext hs
 have rp0 := rp0.ext hs
 have rp1 := rp1.ext hs
 have b1 := b1.ext hs
 refine EL_do .plain rfl (D_allocOc (g := g2) 2004 (⟨(⟨List.toArray [(⟨List.toArray [0, 0, 0, 0], rfl⟩ : Vector Int 4), (⟨List.toArray [0, 0, 0, 0], rfl⟩ : Vector Int 4)], rfl⟩ : Vector (Vector Int 4) 2), ⟨0, 0⟩⟩ : BoxRace) Try.zeroValue108 (fun m w => ⟨_, (rep_two (rep_vec (flat_chunk (rep_vec (flat_chunk rep_int (flat_chunk rep_int (flat_chunk rep_int (flat_chunk rep_int flat_nil)))) rfl) (flat_chunk (rep_vec (flat_chunk rep_int (flat_chunk rep_int (flat_chunk rep_int (flat_chunk rep_int flat_nil)))) rfl) flat_nil)) rfl) (rep_two rep_int rep_int)), rfl⟩) fun g3 w3 p3 hs b3 cb => ?_)
 have hfr := hfr.stp hs
 have rp0 := rp0.stp hs
 have rp1 := rp1.stp hs
 have b1 := b1.stp hs rfl
 have q2 := q2.stp hs
 clear cb
 refine EL_at (.int .i64 (0)) rfl rfl ?_
 refine EL_at (.int .i64 (0)) rfl rfl ?_
 refine EL_nil (thn_n (E_seq ?_))
 have q4 := PT_field (part_BoxPick_0).1 q2
 refine L_load (x := .tmp 9) Try.isAgg3 Try.sizeOf3 q4 fun v5 r5 gA => ?_
 obtain rfl := RV_int.1 r5
 obtain ⟨y7, l8, h⟩ := bsome h
 obtain ⟨hi8, he8⟩ := vat_idx l8
 obtain ⟨y9, m8, h⟩ := bsome h
 obtain ⟨hi10, he10⟩ := vat_idx m8
 refine L_loadOD (off := ((0 + ((0 : Int) : Int).toNat * 4) + ((x1).Left : Int).toNat * 1)) (x := .tmp 13) (SubS.at_ (SubS.comp part_BoxRace_0 (SubS.dynC hi8 (SubS.dyn hi10) rfl) rfl) (by first | rfl | exact Nat.add_assoc _ _ _ | simp only [Nat.add_assoc, Nat.zero_add] | omega)).1 ((congrArg (vat _ hi10) he8).trans he10) Try.isAgg3 Try.sizeOf3 b1 fun jB iA o8 => ?_
 obtain rfl := RV_int.1 iA
 have x6 := PT_field (part_BoxPick_1).1 q2
 refine L_load (x := .tmp 15) Try.isAgg3 Try.sizeOf3 x6 fun lB jA q8 => ?_
 obtain rfl := RV_int.1 jA
 obtain ⟨c8, y6, h⟩ := bsome h
 obtain ⟨hi16, he16⟩ := vat_idx y6
 obtain ⟨i3, a7, h⟩ := bsome h
 obtain ⟨hi18, he18⟩ := vat_idx a7
 refine L_loadOD (off := ((0 + ((1 : Int) : Int).toNat * 4) + ((x1).Right : Int).toNat * 1)) (x := .tmp 19) (SubS.at_ (SubS.comp part_BoxRace_0 (SubS.dynC hi16 (SubS.dyn hi18) rfl) rfl) (by first | rfl | exact Nat.add_assoc _ _ _ | simp only [Nat.add_assoc, Nat.zero_add] | omega)).1 ((congrArg (vat _ hi18) he16).trans he18) Try.isAgg3 Try.sizeOf3 b1 fun mB lA r8 => ?_
 obtain rfl := RV_int.1 lA
 refine E_drawL (g := g3) (n := 14) [] [0, 1, 2, 3, 4, 5, 6, 7, 8, 9, 10, 11, 12, 13] rfl mixed (by kernel_rfl) trivial ?_
 refine L_p (fPtr p2 0) rfl rfl (P_fieldAddr at_83_0 rfl (PT.ptr q2)) ?_
 refine L_ld (c := .int .i64 ((x1).Left)) rfl rfl .plain (fun _ _ h => h.ch) gA rfl ?_
 refine L_p (fPtr p1 0) rfl rfl (P_fieldAddr at_108_0 rfl (OB.ptr b1)) ?_
 refine L_p (fPtr p1 (0 + ((0 : Int) : Int).toNat * 4)) rfl rfl (P_indexAddrA2 (α := Vector Int 4) (o1 := 0) rfl Try.underlying76 Try.sizeOf75 rfl (OB.ptr b1) rfl l8) ?_
 refine L_p (fPtr p1 ((0 + ((0 : Int) : Int).toNat * 4) + ((x1).Left : Int).toNat * 1)) rfl rfl (P_indexAddrA2 (α := Int) (o1 := (0 + ((0 : Int) : Int).toNat * 4)) rfl Try.underlying75 Try.sizeOf3 rfl (OB.ptr b1) rfl m8) ?_
 refine L_ld (c := .int .i64 (y9)) rfl rfl .plain (fun _ _ h => ⟨h.ch, fun b hb _ => h.below.block b hb⟩) o8 rfl ?_
 refine L_p (fPtr p2 1) rfl rfl (P_fieldAddr at_83_1 rfl (PT.ptr q2)) ?_
 refine L_ld (c := .int .i64 ((x1).Right)) rfl rfl .plain (fun _ _ h => h.ch) q8 rfl ?_
 refine L_p (fPtr p1 0) rfl rfl (P_fieldAddr at_108_0 rfl (OB.ptr b1)) ?_
 refine L_p (fPtr p1 (0 + ((1 : Int) : Int).toNat * 4)) rfl rfl (P_indexAddrA2 (α := Vector Int 4) (o1 := 0) rfl Try.underlying76 Try.sizeOf75 rfl (OB.ptr b1) rfl y6) ?_
 refine L_p (fPtr p1 ((0 + ((1 : Int) : Int).toNat * 4) + ((x1).Right : Int).toNat * 1)) rfl rfl (P_indexAddrA2 (α := Int) (o1 := (0 + ((1 : Int) : Int).toNat * 4)) rfl Try.underlying75 Try.sizeOf3 rfl (OB.ptr b1) rfl a7) ?_
 refine L_ld (c := .int .i64 (i3)) rfl rfl .plain (fun _ _ h => ⟨h.ch, fun b hb _ => h.below.block b hb⟩) r8 rfl ?_
 refine L_p (.int .i64 (y9)) rfl rfl (P_assign rfl) ?_
 refine L_p (.int .i64 (i3)) rfl rfl (P_assign rfl) ?_
 refine L_nl fun b7 nB hs => ?_
 have hfr := hfr.ext hs
 have rp0 := rp0.ext hs
 have rp1 := rp1.ext hs
 have b1 := b1.ext hs
 have q2 := q2.ext hs
 have b3 := b3.ext hs
 have q4 := q4.ext hs
 have x6 := x6.ext hs
 clear hs
 refine EL_nil (thn_n (E_joinC h (fun (s : BoxRace) e w => ∃ (g : Gh) , Fr gI wI g w ∧ e 2 = p1 ∧ OB 2002 g w 108 (x0 : BoxRace) p1 ∧ e 3 = p2 ∧ PT g.m w (x1 : BoxPick) p2 ∧ e 4 = p3 ∧ OB 2004 g w 108 (s : BoxRace) p3 ∧ e 7 = .int .i64 (y9) ∧ e 8 = .int .i64 (i3)) (fun X46 k8 t8 h => ?_) ?_))
 ·refine E_seq (E_region (EL_mw (.int .i64 (y9)) rfl rfl ?_))
  refine EL_in (.bool ((y9 == (0 : Int)))) rfl rfl rfl rfl ?_
  refine EL_mw (.int .i64 (i3)) rfl rfl ?_
  refine EL_in (.bool ((i3 == (0 : Int)))) rfl rfl rfl rfl ?_
  refine EL_p (.bool (((y9 == (0 : Int)) == (i3 == (0 : Int))))) (P_bool Try.underlying4 rfl rfl rfl) rfl ?_
  refine EL_nil (thn_n ?_)
  rcases csome h with ⟨t5, h⟩ | ⟨t5, h⟩
  ·refine E_ct t5 rfl ?_
   refine E_seq (E_region (EL_do .plain rfl (D_loadO (g := b7) Try.isAgg108 Try.sizeOf108 rfl b1 fun mA nA => ?_)))
   refine EL_do .plain rfl (D_storeOc (g := b7) (v := mA) Try.sizeOf108 rfl b3 rfl nA fun oB tB hs b49 cb => ?_)
   clear cb
   have hfr := hfr.stp hs
   refine EL_at (.int .i64 (0)) rfl rfl ?_
   refine EL_at (.int .i64 (0)) rfl rfl ?_
   refine EL_nil (thn_n (E_ret (thn_r ?_)))
   obtain rfl := sinj h
   obtain ⟨ad50, cv50, hp50, v8, cr50⟩ := ob_read Try.isAgg108 Try.sizeOf108 b49
   exact endm_ctt rfl rfl ((show _ = p3 from rfl).trans hp50) v8 (show _ = .int .i64 (0) from rfl) (show _ = .int .i64 (0) from rfl) ⟨_, hfr, _, _, _, rfl, cr50, rfl, rfl⟩
  ·refine E_cf t5 rfl ?_
   exact E_skip (thn_n (t8 ((⟨(⟨List.toArray [(⟨List.toArray [0, 0, 0, 0], rfl⟩ : Vector Int 4), (⟨List.toArray [0, 0, 0, 0], rfl⟩ : Vector Int 4)], rfl⟩ : Vector (Vector Int 4) 2), ⟨0, 0⟩⟩ : BoxRace)) _ _ ⟨b7, hfr, rfl, b1, rfl, q2, rfl, b3, rfl, rfl⟩ h))
 ·rintro u7 zA vB ⟨oA, hfr, u3, o0, i5, j1, x5, j3, i6, j6⟩ h
  refine E_seq (L_loadO (x := .tmp 28) (SubS.comp part_BoxRace_1 part_BoxPick_0 rfl).1 Try.isAgg3 Try.sizeOf3 o0 fun xB pA x8 => ?_)
  obtain rfl := RV_int.1 pA
  have l5 := PT_field (part_BoxPick_0).1 j1
  refine L_load (x := .tmp 30) Try.isAgg3 Try.sizeOf3 l5 fun yB qA y8 => ?_
  obtain rfl := RV_int.1 qA
  obtain ⟨z3, a9, h⟩ := bsome h
  refine L_loadO (x := .tmp 34) (SubS.comp part_BoxRace_1 part_BoxPick_1 rfl).1 Try.isAgg3 Try.sizeOf3 o0 fun zB rA d9 => ?_
  obtain rfl := RV_int.1 rA
  have q62 := PT_field (part_BoxPick_1).1 j1
  refine L_load (x := .tmp 36) Try.isAgg3 Try.sizeOf3 q62 fun aC uA i9 => ?_
  obtain rfl := RV_int.1 uA
  obtain ⟨z4, k9, h⟩ := bsome h
  refine E_drawL (g := oA) (n := 14) [(5, (fun v g w => v = .int .i64 (z3))), (11, (fun v g w => v = .int .i64 (z4)))] [0, 1, 2, 3, 4, 5, 6, 7, 8, 9, 10, 11, 12, 13] rfl mixed (by kernel_rfl) (⟨fun _ => up_eq _, fun _ => up_eq _, trivial⟩) ?_
  refine L_p (fPtr p1 8) rfl rfl (P_fieldAddr at_108_1 u3 (OB.ptr o0)) ?_
  refine L_p (fPtr p1 8) rfl rfl (P_fieldAddr2 (o1 := 8) rfl at_83_0 rfl (OB.ptr o0)) ?_
  refine L_ld (c := .int .i64 (((x0).at_).Left)) rfl rfl .plain (fun _ _ h => ⟨h.ch, fun b hb _ => h.below.block b hb⟩) x8 rfl ?_
  refine L_p (fPtr p2 0) rfl rfl (P_fieldAddr at_83_0 i5 (PT.ptr j1)) ?_
  refine L_ld (c := .int .i64 ((x1).Left)) rfl rfl .plain (fun _ _ h => h.ch) y8 rfl ?_
  refine L_do (φ := fun v g w => v = .int .i64 (z3)) rfl rfl .plain (fun g w hd => D_call (g := g) (vs := [.int .i64 (((x0).at_).Left), .int .i64 ((x1).Left)]) en106 (.cons rfl (.cons rfl .nil)) (wk106  a9) fun g' w' v hs hr => ⟨g', hs, hr⟩) (fun cC hv => ?_)
  obtain ⟨_, _, _, rfl⟩ := hv
  refine L_p (fPtr p1 8) rfl rfl (P_fieldAddr at_108_1 u3 (OB.ptr o0)) ?_
  refine L_p (fPtr p1 9) rfl rfl (P_fieldAddr2 (o1 := 8) rfl at_83_1 rfl (OB.ptr o0)) ?_
  refine L_ld (c := .int .i64 (((x0).at_).Right)) rfl rfl .plain (fun _ _ h => ⟨h.ch, fun b hb _ => h.below.block b hb⟩) d9 rfl ?_
  refine L_p (fPtr p2 1) rfl rfl (P_fieldAddr at_83_1 i5 (PT.ptr j1)) ?_
  refine L_ld (c := .int .i64 ((x1).Right)) rfl rfl .plain (fun _ _ h => h.ch) i9 rfl ?_
  refine L_do (φ := fun v g w => v = .int .i64 (z4)) rfl rfl .plain (fun g w hd => D_call (g := g) (vs := [.int .i64 (((x0).at_).Right), .int .i64 ((x1).Right)]) en106 (.cons rfl (.cons rfl .nil)) (wk106  k9) fun g' w' v hs hr => ⟨g', hs, hr⟩) (fun dC hv => ?_)
  obtain ⟨_, _, _, rfl⟩ := hv
  refine L_p (.int .i64 ((w64 (z3 + z4)))) rfl rfl (P_int rfl rfl rfl) ?_
  refine L_p (.int .i64 ((w64 (z3 + z4)))) rfl rfl (P_assign rfl) ?_
  refine L_nl fun eC iC hs => ?_
  have hfr := hfr.ext hs
  have o0 := o0.ext hs
  have j1 := j1.ext hs
  have j3 := j3.ext hs
  have l5 := l5.ext hs
  have q62 := q62.ext hs
  clear hs
  refine EL_nil (thn_n (E_seq ?_))
  have c7 := PT_field (part_BoxPick_0).1 j1
  refine L_load (x := .tmp 40) Try.isAgg3 Try.sizeOf3 c7 fun jC xA l9 => ?_
  obtain rfl := RV_int.1 xA
  have d7 := PT_field (part_BoxPick_1).1 j1
  refine L_load (x := .tmp 42) Try.isAgg3 Try.sizeOf3 d7 fun kC yA n9 => ?_
  obtain rfl := RV_int.1 yA
  obtain ⟨g8, g7, h⟩ := bsome h
  obtain ⟨hi93, he93⟩ := vat_idx g7
  obtain ⟨bA, i7, h⟩ := bsome h
  obtain ⟨hi95, he95⟩ := vat_idx i7
  obtain ⟨i8, j7, h⟩ := bsome h
  obtain ⟨hi100, he100⟩ := vat_idx j7
  obtain ⟨n8, v6, h⟩ := bsome h
  obtain ⟨hi102, he102⟩ := vat_idx v6
  refine E_drawB (a0 := (x0 : BoxRace)) (a1 := ({ x0 with boxes := (vmod ((x0).boxes) ((0 : Int)) (fun b => (vset b ((x1).Left) i3))) } : BoxRace)) o0 (n := 13) [(9, (fun _ g w => OB 2002 g w 108 ({ x0 with boxes := (vmod ((x0).boxes) ((0 : Int)) (fun b => (vset b ((x1).Left) i3))) } : BoxRace) p1))] [0, 1, 2, 3, 4, 5, 6, 7, 8, 9, 10, 11, 12] rfl mixed (by kernel_rfl) (⟨fun _ => up_box, trivial⟩) ?_
  refine L_p (fPtr p2 0) rfl rfl (P_fieldAddr at_83_0 i5 (PT.ptr j1)) ?_
  refine L_ld (c := .int .i64 ((x1).Left)) rfl rfl .plain (fun _ _ h => h.1.ch) l9 rfl ?_
  refine L_p (fPtr p2 1) rfl rfl (P_fieldAddr at_83_1 i5 (PT.ptr j1)) ?_
  refine L_ld (c := .int .i64 ((x1).Right)) rfl rfl .plain (fun _ _ h => h.1.ch) n9 rfl ?_
  refine L_p (.int .i64 (i3)) rfl rfl (P_move j6) ?_
  refine L_p (.int .i64 (y9)) rfl rfl (P_move i6) ?_
  refine L_p (fPtr p1 0) rfl rfl (P_fieldAddr at_108_0 u3 (OB.ptr o0)) ?_
  refine L_p (fPtr p1 (0 + ((0 : Int) : Int).toNat * 4)) rfl rfl (P_indexAddrA2 (α := Vector Int 4) (o1 := 0) rfl Try.underlying76 Try.sizeOf75 rfl (OB.ptr o0) rfl g7) ?_
  refine L_p (fPtr p1 ((0 + ((0 : Int) : Int).toNat * 4) + ((x1).Left : Int).toNat * 1)) rfl rfl (P_indexAddrA2 (α := Int) (o1 := (0 + ((0 : Int) : Int).toNat * 4)) rfl Try.underlying75 Try.sizeOf3 rfl (OB.ptr o0) rfl i7) ?_
  refine L_do (φ := fun _ g w => OB 2002 g w 108 ({ x0 with boxes := (vmod ((x0).boxes) ((0 : Int)) (fun b => (vset b ((x1).Left) i3))) } : BoxRace) p1) rfl rfl .plain (fun g w hd => D_storeR (g := g) (by rfl) (by exact (congrArg (fun y => { x0 with boxes := y }) (vmod_vmod (h := fun b => (vset b ((x1).Left) i3)) fun b => (vset_vset _ _ _)))) (SubS.at_ (SubS.comp part_BoxRace_0 (SubS.dynC hi93 (SubS.dyn hi95) rfl) rfl) (by first | rfl | exact Nat.add_assoc _ _ _ | simp only [Nat.add_assoc, Nat.zero_add] | omega)) Try.sizeOf3 rfl hd.1.2 rfl (RV_int.2 rfl)) (fun lC hv => ?_)
  clear hv
  refine L_p (fPtr p1 0) rfl rfl (P_fieldAddr at_108_0 u3 (OB.ptr o0)) ?_
  refine L_p (fPtr p1 (0 + ((1 : Int) : Int).toNat * 4)) rfl rfl (P_indexAddrA2 (α := Vector Int 4) (o1 := 0) rfl Try.underlying76 Try.sizeOf75 rfl (OB.ptr o0) rfl j7) ?_
  refine L_p (fPtr p1 ((0 + ((1 : Int) : Int).toNat * 4) + ((x1).Right : Int).toNat * 1)) rfl rfl (P_indexAddrA2 (α := Int) (o1 := (0 + ((1 : Int) : Int).toNat * 4)) rfl Try.underlying75 Try.sizeOf3 rfl (OB.ptr o0) rfl v6) ?_
  refine L_nil fun o9 aB hall => ?_
  have hs := hall.1.1
  have hfr := hfr.stp hs
  have j1 := j1.stp hs
  have j3 := j3.stp hs rfl
  have l5 := l5.stp hs
  have q62 := q62.stp hs
  have c7 := c7.stp hs
  have d7 := d7.stp hs
  have b104 := (word_all (A := fun g w => OB 2002 g w 108 ({ x0 with boxes := (vmod ((x0).boxes) ((0 : Int)) (fun b => (vset b ((x1).Left) i3))) } : BoxRace) p1) 9 rfl hall)
  clear hs hall
  refine EL_do .plain rfl (D_storeFc (g := o9) (SubS.at_ (SubS.comp part_BoxRace_0 (SubS.dynC hi100 (SubS.dyn hi102) rfl) rfl) (by first | rfl | exact Nat.add_assoc _ _ _ | simp only [Nat.add_assoc, Nat.zero_add] | omega)) Try.sizeOf3 rfl b104 rfl (RV_int.2 rfl) fun m7 bB hs b135 rst hos => ?_)
  clear rst hos
  have hfr := hfr.stp hs
  have j1 := j1.stp hs
  have j3 := j3.stp hs rfl
  refine EL_nil (thn_n (E_seq (E_region (EL_do .plain rfl (D_load (g := m7) Try.isAgg83 Try.sizeOf83 i5 j1 fun cB t9 => ?_)))))
  refine EL_p (fPtr p1 8) (P_fieldAddr at_108_1 u3 (OB.ptr b135)) rfl ?_
  refine EL_do .plain rfl (D_storeFc (g := m7) part_BoxRace_1 Try.sizeOf83 rfl b135 rfl t9 fun o7 dB hs b138 rst hos => ?_)
  clear rst hos
  have hfr := hfr.stp hs
  have j3 := j3.stp hs rfl
  refine EL_nil (thn_n (E_seq (E_region (EL_do .plain rfl (D_loadO (g := o7) Try.isAgg108 Try.sizeOf108 u3 b138 fun u9 z9 => ?_)))))
  refine EL_mv i6 rfl ?_
  refine EL_mv j6 rfl ?_
  refine EL_in (.int .i64 ((w64 (y9 + i3)))) rfl rfl rfl rfl ?_
  refine EL_mw (.int .i64 ((w64 (z3 + z4)))) rfl rfl ?_
  refine EL_do .plain rfl (D_storeOc (g := o7) (v := u9) Try.sizeOf108 x5 j3 rfl z9 fun eB iB hs b140 cb => ?_)
  clear cb
  have hfr := hfr.stp hs
  refine EL_at (.int .i64 ((w64 (y9 + i3)))) rfl rfl ?_
  refine EL_at (.int .i64 ((w64 (z3 + z4)))) rfl rfl ?_
  refine EL_nil (thn_n (E_ret ?_))
  obtain rfl := sinj h
  obtain ⟨ad141, cv141, hp141, v7, cr141⟩ := ob_read Try.isAgg108 Try.sizeOf108 b140
  exact endm_ctt rfl rfl ((show _ = p3 from x5).trans hp141) v7 (show _ = .int .i64 ((w64 (y9 + i3))) from rfl) (show _ = .int .i64 ((w64 (z3 + z4))) from rfl) ⟨_, hfr, _, _, _, rfl, cr141, rfl, rfl⟩
def f116 (x0 : Int) (x1 : Int) : Option (Bool) :=
 Option.bind (α := Bool) (
  (f126 x0).bind fun y8 =>
  bif y8 then
   (f126 x1).bind fun y11 =>
   bif (!y11) then
    some (true)
   else
    some ((decide (x0 < x1)))
  else
   some ((decide (x0 < x1)))
  ) fun i3 =>
 some (i3)
end Go.Proofs.Ytmpjooneiaiffaa
