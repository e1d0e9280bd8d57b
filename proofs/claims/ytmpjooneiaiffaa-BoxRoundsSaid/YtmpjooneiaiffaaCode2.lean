import Derived.Test.YtmpjooneiaiffaaCode1
set_option maxRecDepth 8000
set_option maxHeartbeats 4000000
namespace Go.Proofs.Ytmpjooneiaiffaa
open Go.RowKit
def f93 (x0 : List Int) (x1 : Int → Option Bool) : Option (Int) :=
 jn (σ := Unit) (fun _ =>
  some ((-1 : Int))
  ) fun k18 =>
 lp (σ := Int) (fun k19 o0 =>
  bif (decide (o0 < ((x0).length : Int))) then
   jn (σ := Unit) (fun _ =>
    k19 ((w64 (o0 + (1 : Int))))
    ) fun k28 =>
   (idx x0 o0).bind fun l5 =>
   (x1 l5).bind fun a7 =>
   bif a7 then
    some (o0)
   else
    k28 ()
  else
   k18 ()
  ) big ((0 : Int))
theorem en93 : Enters Try.prog 93 := enters_of Try.func93 (by kernel_rfl) rfl
theorem wk93 {gI : Gh} {wI : World} {x0 : List Int} {x1 : Int → Option Bool} {up0 : Value} (rp0 : RV gI.m wI x0 up0) {up1 : Value} (rp1 : FnV1 Try.prog x1 up1 gI wI) {r : Int} (h : f93 x0 x1 = some r) : Fn Try.prog 93 #[up0, up1] gI wI (fun _ _ v => v = .int .i64 (r)) := by
 unfold f93 at h
 refine fn_of_E Try.func93 rfl (Nat.le_of_ble_eq_true rfl) fun g0 hm hfr => ?_
 have rp0 : RV g0.m wI x0 up0 := hm ▸ rp0
 obtain ⟨ff1, fa1, fc1, rfl, fen1, fcl1⟩ := rp1
 show E _ 19 none _ _ _ _ _
 refine E_seq (E_region (EL_at (.int .i64 (0)) rfl rfl ?_))
 refine EL_nil (thn_n (E_joinC h (fun (s : Unit) e w => ∃ (g : Gh) , Fr gI wI g w) (fun X18 k18 b7 h => ?_) ?_))
 ·refine E_seq (E_region (EL_mw up0 rfl rfl ?_))
  refine EL_p (.int .i64 ((x0).length : Int)) (P_len Try.underlying22 rfl rp0) rfl ?_
  refine EL_mw (.int .i64 (0)) rfl rfl ?_
  refine EL_nil (thn_n (E_block ?_))
  refine E_lp h (fun (s : Int) e w => ∃ (g : Gh) , Fr gI wI g w ∧ e 0 = up0 ∧ RV g.m w (x0 : List Int) up0 ∧ e 1 = (.func (.func ff1) fa1 fc1) ∧ e 7 = .int .i64 (((x0).length : Int)) ∧ e 8 = .int .i64 (s)) ⟨g0, hfr, rfl, rp0, rfl, rfl, rfl⟩ (fun X19 k19 c7 => ?_)
  rintro o0 u7 g8 ⟨t5, hfr, z3, j1, z4, i5, i3⟩ h
  refine E_seq (E_region (EL_in (.bool ((decide (o0 < ((x0).length : Int))))) i3 i5 rfl rfl ?_))
  refine EL_nil (thn_n (E_seq ?_))
  rcases csome h with ⟨j3, h⟩ | ⟨j3, h⟩
  ·refine E_ct j3 rfl ?_
   refine E_skip (thn_n (E_joinC h (fun (s : Unit) e w => ∃ (g : Gh) , Fr gI wI g w ∧ e 0 = up0 ∧ RV g.m w (x0 : List Int) up0 ∧ e 1 = (.func (.func ff1) fa1 fc1) ∧ e 7 = .int .i64 (((x0).length : Int)) ∧ e 8 = .int .i64 (o0)) (fun X28 k28 d7 h => ?_) ?_))
   ·refine E_block ?_
    refine E_seq (E_region (EL_mv i3 rfl ?_))
    refine EL_at (.int .i64 (o0)) rfl rfl ?_
    refine EL_nil (thn_n (E_seq (E_region (EL_mv z4 rfl ?_))))
    refine EL_mv z3 rfl ?_
    refine EL_mw (.int .i64 (o0)) rfl rfl ?_
    obtain ⟨l5, x5, h⟩ := bsome h
    refine EL_p (ePtr up0 o0 1) (P_indexAddr (α := Int) Try.underlying22 Try.sizeOf3 rfl j1 rfl x5) rfl ?_
    have i7 := PT_idx j1 x5
    refine EL_do .plain rfl (D_load (g := t5) Try.isAgg3 Try.sizeOf3 rfl i7 fun i8 j7 => ?_)
    obtain rfl := RV_int.1 j7
    obtain ⟨a7, g7, h⟩ := bsome h
    refine EL_do .plain rfl (D_callv (g := t5) (vs := [.int .i64 (l5)]) rfl fen1 (.cons rfl .nil) (fcl1 _ _ hfr.ch _ _ _  (RV_int.2 rfl) g7) fun m7 k8 l8 hs hr => ?_)
    have hfr := hfr.ext hs
    have j1 := j1.ext hs
    obtain rfl := RV_bool.1 hr
    refine EL_nil (thn_n ?_)
    rcases csome h with ⟨u3, h⟩ | ⟨u3, h⟩
    ·refine E_ct u3 rfl ?_
     refine E_seq (E_region (EL_mw (.int .i64 (o0)) rfl rfl ?_))
     refine EL_at (.int .i64 (o0)) rfl rfl ?_
     refine EL_nil (thn_n (E_ret (blk_r ?_)))
     refine thn_r ?_
     refine thn_r ?_
     refine blk_r ?_
     refine thn_r ?_
     obtain rfl := sinj h
     exact end1 rfl rfl (show _ = .int .i64 (o0) from rfl) ⟨_, hfr, rfl⟩
    ·refine E_cf u3 rfl ?_
     exact E_skip (blk_n (thn_n (d7 () _ _ ⟨m7, hfr, z3, j1, z4, i5, i3⟩ h)))
   ·rintro _ v7 m8 ⟨o7, hfr, i6, j6, v6, x6, y6⟩ h
    refine E_region (EL_in (.int .i64 ((w64 (o0 + (1 : Int))))) y6 rfl rfl rfl ?_)
    refine EL_mw (.int .i64 ((w64 (o0 + (1 : Int))))) rfl rfl ?_
    exact EL_nil (thn_n (c7 ((w64 (o0 + (1 : Int)))) _ _ ⟨o7, hfr, i6, j6, v6, x6, rfl⟩ h))
  ·refine E_cf j3 rfl ?_
   refine E_exit ?_
   refine thn_e ?_
   refine thn_e ?_
   refine blk_hit ?_
   exact thn_n (b7 () _ _ ⟨t5, hfr⟩ h)
 ·rintro _ c8 n8 ⟨o8, hfr⟩ h
  refine E_seq (E_region (EL_at (.int .i64 (-1)) rfl rfl ?_))
  refine EL_nil (thn_n (E_ret ?_))
  obtain rfl := sinj h
  exact end1 rfl rfl (show _ = .int .i64 (-1) from rfl) ⟨_, hfr, rfl⟩
def f102 (x0 : List BoxShuttle) (x1 : BoxShuttle → Option Bool) : Option (Int) :=
 jn (σ := Unit) (fun _ =>
  some ((-1 : Int))
  ) fun k18 =>
 lp (σ := Int) (fun k19 o0 =>
  bif (decide (o0 < ((x0).length : Int))) then
   jn (σ := Unit) (fun _ =>
    k19 ((w64 (o0 + (1 : Int))))
    ) fun k28 =>
   (idx x0 o0).bind fun y6 =>
   (x1 y6).bind fun a7 =>
   bif a7 then
    some (o0)
   else
    k28 ()
  else
   k18 ()
  ) big ((0 : Int))
theorem en102 : Enters Try.prog 102 := enters_of Try.func102 (by kernel_rfl) rfl
theorem wk102 {gI : Gh} {wI : World} {x0 : List BoxShuttle} {x1 : BoxShuttle → Option Bool} {up0 : Value} (rp0 : RV gI.m wI x0 up0) {up1 : Value} (rp1 : FnV1 Try.prog x1 up1 gI wI) {r : Int} (h : f102 x0 x1 = some r) : Fn Try.prog 102 #[up0, up1] gI wI (fun _ _ v => v = .int .i64 (r)) := by
 unfold f102 at h
 refine fn_of_E Try.func102 rfl (Nat.le_of_ble_eq_true rfl) fun g0 hm hfr => ?_
 have rp0 : RV g0.m wI x0 up0 := hm ▸ rp0
 obtain ⟨ff1, fa1, fc1, rfl, fen1, fcl1⟩ := rp1
 show E _ 19 none _ _ _ _ _
 refine E_seq (E_region (EL_at (.int .i64 (0)) rfl rfl ?_))
 refine EL_nil (thn_n (E_joinC h (fun (s : Unit) e w => ∃ (g : Gh) , Fr gI wI g w) (fun X18 k18 b7 h => ?_) ?_))
 ·refine E_seq (E_region (EL_mw up0 rfl rfl ?_))
  refine EL_p (.int .i64 ((x0).length : Int)) (P_len Try.underlying23 rfl rp0) rfl ?_
  refine EL_mw (.int .i64 (0)) rfl rfl ?_
  refine EL_nil (thn_n (E_block ?_))
  refine E_lp h (fun (s : Int) e w => ∃ (g : Gh) , Fr gI wI g w ∧ e 0 = up0 ∧ RV g.m w (x0 : List BoxShuttle) up0 ∧ e 1 = (.func (.func ff1) fa1 fc1) ∧ e 7 = .int .i64 (((x0).length : Int)) ∧ e 8 = .int .i64 (s)) ⟨g0, hfr, rfl, rp0, rfl, rfl, rfl⟩ (fun X19 k19 c7 => ?_)
  rintro o0 v7 i8 ⟨l5, hfr, z3, j1, z4, i5, i3⟩ h
  refine E_seq (E_region (EL_in (.bool ((decide (o0 < ((x0).length : Int))))) i3 i5 rfl rfl ?_))
  refine EL_nil (thn_n (E_seq ?_))
  rcases csome h with ⟨j3, h⟩ | ⟨j3, h⟩
  ·refine E_ct j3 rfl ?_
   refine E_skip (thn_n (E_joinC h (fun (s : Unit) e w => ∃ (g : Gh) , Fr gI wI g w ∧ e 0 = up0 ∧ RV g.m w (x0 : List BoxShuttle) up0 ∧ e 1 = (.func (.func ff1) fa1 fc1) ∧ e 7 = .int .i64 (((x0).length : Int)) ∧ e 8 = .int .i64 (o0)) (fun X28 k28 d7 h => ?_) ?_))
   ·refine E_block ?_
    refine E_seq (E_region (EL_mv i3 rfl ?_))
    refine EL_at (.int .i64 (o0)) rfl rfl ?_
    refine EL_nil (thn_n (E_seq (E_region (EL_mv z4 rfl ?_))))
    refine EL_mv z3 rfl ?_
    refine EL_mw (.int .i64 (o0)) rfl rfl ?_
    obtain ⟨y6, t5, h⟩ := bsome h
    refine EL_p (ePtr up0 o0 5) (P_indexAddr (α := BoxShuttle) Try.underlying23 Try.sizeOf87 rfl j1 rfl t5) rfl ?_
    have i7 := PT_idx j1 t5
    refine EL_do .plain rfl (D_load (g := l5) Try.isAgg87 Try.sizeOf87 rfl i7 fun j7 m7 => ?_)
    obtain ⟨a7, g7, h⟩ := bsome h
    refine EL_do .plain rfl (D_callv (g := l5) (vs := [j7]) rfl fen1 (.cons rfl .nil) (fcl1 _ _ hfr.ch _ _ _  m7 g7) fun o7 k8 l8 hs hr => ?_)
    have hfr := hfr.ext hs
    have j1 := j1.ext hs
    obtain rfl := RV_bool.1 hr
    refine EL_nil (thn_n ?_)
    rcases csome h with ⟨u3, h⟩ | ⟨u3, h⟩
    ·refine E_ct u3 rfl ?_
     refine E_seq (E_region (EL_mw (.int .i64 (o0)) rfl rfl ?_))
     refine EL_at (.int .i64 (o0)) rfl rfl ?_
     refine EL_nil (thn_n (E_ret (blk_r ?_)))
     refine thn_r ?_
     refine thn_r ?_
     refine blk_r ?_
     refine thn_r ?_
     obtain rfl := sinj h
     exact end1 rfl rfl (show _ = .int .i64 (o0) from rfl) ⟨_, hfr, rfl⟩
    ·refine E_cf u3 rfl ?_
     exact E_skip (blk_n (thn_n (d7 () _ _ ⟨o7, hfr, z3, j1, z4, i5, i3⟩ h)))
   ·rintro _ c8 m8 ⟨u7, hfr, x5, i6, j6, v6, x6⟩ h
    refine E_region (EL_in (.int .i64 ((w64 (o0 + (1 : Int))))) x6 rfl rfl rfl ?_)
    refine EL_mw (.int .i64 ((w64 (o0 + (1 : Int))))) rfl rfl ?_
    exact EL_nil (thn_n (c7 ((w64 (o0 + (1 : Int)))) _ _ ⟨u7, hfr, x5, i6, j6, v6, rfl⟩ h))
  ·refine E_cf j3 rfl ?_
   refine E_exit ?_
   refine thn_e ?_
   refine thn_e ?_
   refine blk_hit ?_
   exact thn_n (b7 () _ _ ⟨l5, hfr⟩ h)
 ·rintro _ g8 n8 ⟨o8, hfr⟩ h
  refine E_seq (E_region (EL_at (.int .i64 (-1)) rfl rfl ?_))
  refine EL_nil (thn_n (E_ret ?_))
  obtain rfl := sinj h
  exact end1 rfl rfl (show _ = .int .i64 (-1) from rfl) ⟨_, hfr, rfl⟩
def f103 (x0 : List Int) (x1 : Int → Option Bool) : Option (Bool) :=
 (f93 x0 x1).bind fun y2 =>
 some ((decide (y2 ≥ (0 : Int))))
theorem en103 : Enters Try.prog 103 := enters_of Try.func103 (by kernel_rfl) rfl
theorem wk103 {gI : Gh} {wI : World} {x0 : List Int} {x1 : Int → Option Bool} {up0 : Value} (rp0 : RV gI.m wI x0 up0) {up1 : Value} (rp1 : FnV1 Try.prog x1 up1 gI wI) {r : Bool} (h : f103 x0 x1 = some r) : Fn Try.prog 103 #[up0, up1] gI wI (fun _ _ v => v = .bool (r)) := by
 unfold f103 at h
 refine fn_of_E Try.func103 rfl (Nat.le_of_ble_eq_true rfl) fun g0 hm hfr => ?_
 have rp0 : RV g0.m wI x0 up0 := hm ▸ rp0
 obtain ⟨ff1, fa1, fc1, rfl, fen1, fcl1⟩ := rp1
 show E _ 9 none _ _ _ _ _
 refine E_seq (E_region (EL_at (.bool false) rfl rfl ?_))
 refine EL_nil (thn_n (E_seq (E_region (EL_mw up0 rfl rfl ?_))))
 refine EL_mw ((.func (.func ff1) fa1 fc1)) rfl rfl ?_
 obtain ⟨y2, hy2, h⟩ := bsome h
 refine EL_do .plain rfl (D_call (g := g0) (vs := [up0, (.func (.func ff1) fa1 fc1)]) en93 (.cons rfl (.cons rfl .nil)) (wk93 rp0 (FnV1.ch ⟨_, _, _, rfl, fen1, fcl1⟩ hfr.ch) hy2) fun g1 w1_ v1 hs hr => ?_)
 have hfr := hfr.ext hs
 subst hr
 refine EL_in (.bool ((decide (y2 ≥ (0 : Int))))) rfl rfl rfl rfl ?_
 refine EL_at (.bool ((decide (y2 ≥ (0 : Int))))) rfl rfl ?_
 refine EL_nil (thn_n (E_ret ?_))
 obtain rfl := sinj h
 exact end1 rfl rfl (show _ = .bool ((decide (y2 ≥ (0 : Int)))) from rfl) ⟨_, hfr, rfl⟩
def f104 (x0 : Int) (z0 : Int) (z1 : Int) : Option (Bool) :=
 Option.bind (α := Bool) (
  bif (decide (x0 < z0)) then
   some (true)
  else
   some ((decide (x0 > z1)))
  ) fun o0 =>
 some (o0)
theorem en104 : Enters Try.prog 104 := enters_of Try.func104 (by kernel_rfl) rfl
theorem wk104 {gI : Gh} {wI : World} {x0 : Int} {z0 : Int} {z1 : Int} {pf0 : Value} (qf0 : PT gI.m wI z0 pf0) {pf1 : Value} (qf1 : PT gI.m wI z1 pf1) {r : Bool} (h : f104 x0 z0 z1 = some r) : Fn Try.prog 104 #[.int .i64 (x0), pf0, pf1] gI wI (fun _ _ v => v = .bool (r)) := by
 unfold f104 at h
 refine fn_of_E Try.func104 rfl (Nat.le_of_ble_eq_true rfl) fun g0 hm hfr => ?_
 have qf0 : PT g0.m wI z0 pf0 := hm ▸ qf0
 have qf1 : PT g0.m wI z1 pf1 := hm ▸ qf1
 show E _ 13 none _ _ _ _ _
 refine E_seq (E_region (EL_at (.bool false) rfl rfl ?_))
 refine EL_nil (thn_n ?_)
 obtain ⟨o0, hx, h⟩ := bsome h
 refine E_join (fun e w => ∃ (g : Gh) , Fr gI wI g w ∧ e 4 = .bool (o0)) (fun Q' hQ => ?_) (fun i3 w7 hR => ?_)
 ·replace h := hx
  clear hx
  refine E_region (EL_mw (.int .i64 (x0)) rfl rfl ?_)
  refine EL_do .plain rfl (D_load (g := g0) Try.isAgg3 Try.sizeOf3 rfl qf0 fun v4 r4 => ?_)
  obtain rfl := RV_int.1 r4
  refine EL_in (.bool ((decide (x0 < z0)))) rfl rfl rfl rfl ?_
  refine EL_mw (.bool ((decide (x0 < z0)))) rfl rfl ?_
  rcases csome h with ⟨hc5, h⟩ | ⟨hc5, h⟩
  ·refine EL_s rfl rfl hc5 rfl rfl ?_
   refine EL_s rfl rfl hc5 rfl rfl ?_
   refine EL_s rfl rfl hc5 rfl rfl ?_
   refine EL_p (.bool true) (P_pick (b := (decide (x0 < z0))) rfl (pick_t hc5 rfl)) rfl ?_
   refine EL_at (.bool true) rfl rfl ?_
   refine EL_nil ?_
   obtain rfl := sinj h
   exact hQ _ _ ⟨g0, hfr, rfl⟩
  ·refine EL_y (.int .i64 (x0)) (P_move rfl) rfl rfl hc5 rfl ?_
   refine EL_do (.yes2 rfl rfl hc5) rfl (D_load (g := g0) Try.isAgg3 Try.sizeOf3 rfl qf1 fun v6 r6 => ?_)
   obtain rfl := RV_int.1 r6
   refine EL_y (.bool ((decide (x0 > z1)))) (P_int rfl rfl rfl) rfl rfl hc5 rfl ?_
   refine EL_p (.bool ((decide (x0 > z1)))) (P_pick (b := (decide (x0 < z0))) rfl (pick_f hc5 rfl)) rfl ?_
   refine EL_at (.bool ((decide (x0 > z1)))) rfl rfl ?_
   refine EL_nil ?_
   obtain rfl := sinj h
   exact hQ _ _ ⟨g0, hfr, rfl⟩
 ·clear hx
  obtain ⟨g7, hfr, j1⟩ := hR
  refine E_ret ?_
  obtain rfl := sinj h
  exact end1 rfl rfl (show _ = .bool (o0) from j1) ⟨_, hfr, rfl⟩
def f105 (x0 : List BoxPick) (x1 : BoxPick → Option Bool) : Option (Int) :=
 jn (σ := Unit) (fun _ =>
  some ((-1 : Int))
  ) fun k18 =>
 lp (σ := Int) (fun k19 o0 =>
  bif (decide (o0 < ((x0).length : Int))) then
   jn (σ := Unit) (fun _ =>
    k19 ((w64 (o0 + (1 : Int))))
    ) fun k28 =>
   (idx x0 o0).bind fun y6 =>
   (x1 y6).bind fun a7 =>
   bif a7 then
    some (o0)
   else
    k28 ()
  else
   k18 ()
  ) big ((0 : Int))
theorem en105 : Enters Try.prog 105 := enters_of Try.func105 (by kernel_rfl) rfl
theorem wk105 {gI : Gh} {wI : World} {x0 : List BoxPick} {x1 : BoxPick → Option Bool} {up0 : Value} (rp0 : RV gI.m wI x0 up0) {up1 : Value} (rp1 : FnV1 Try.prog x1 up1 gI wI) {r : Int} (h : f105 x0 x1 = some r) : Fn Try.prog 105 #[up0, up1] gI wI (fun _ _ v => v = .int .i64 (r)) := by
 unfold f105 at h
 refine fn_of_E Try.func105 rfl (Nat.le_of_ble_eq_true rfl) fun g0 hm hfr => ?_
 have rp0 : RV g0.m wI x0 up0 := hm ▸ rp0
 obtain ⟨ff1, fa1, fc1, rfl, fen1, fcl1⟩ := rp1
 show E _ 19 none _ _ _ _ _
 refine E_seq (E_region (EL_at (.int .i64 (0)) rfl rfl ?_))
 refine EL_nil (thn_n (E_joinC h (fun (s : Unit) e w => ∃ (g : Gh) , Fr gI wI g w) (fun X18 k18 b7 h => ?_) ?_))
 ·refine E_seq (E_region (EL_mw up0 rfl rfl ?_))
  refine EL_p (.int .i64 ((x0).length : Int)) (P_len Try.underlying30 rfl rp0) rfl ?_
  refine EL_mw (.int .i64 (0)) rfl rfl ?_
  refine EL_nil (thn_n (E_block ?_))
  refine E_lp h (fun (s : Int) e w => ∃ (g : Gh) , Fr gI wI g w ∧ e 0 = up0 ∧ RV g.m w (x0 : List BoxPick) up0 ∧ e 1 = (.func (.func ff1) fa1 fc1) ∧ e 7 = .int .i64 (((x0).length : Int)) ∧ e 8 = .int .i64 (s)) ⟨g0, hfr, rfl, rp0, rfl, rfl, rfl⟩ (fun X19 k19 c7 => ?_)
  rintro o0 v7 i8 ⟨l5, hfr, z3, j1, z4, i5, i3⟩ h
  refine E_seq (E_region (EL_in (.bool ((decide (o0 < ((x0).length : Int))))) i3 i5 rfl rfl ?_))
  refine EL_nil (thn_n (E_seq ?_))
  rcases csome h with ⟨j3, h⟩ | ⟨j3, h⟩
  ·refine E_ct j3 rfl ?_
   refine E_skip (thn_n (E_joinC h (fun (s : Unit) e w => ∃ (g : Gh) , Fr gI wI g w ∧ e 0 = up0 ∧ RV g.m w (x0 : List BoxPick) up0 ∧ e 1 = (.func (.func ff1) fa1 fc1) ∧ e 7 = .int .i64 (((x0).length : Int)) ∧ e 8 = .int .i64 (o0)) (fun X28 k28 d7 h => ?_) ?_))
   ·refine E_block ?_
    refine E_seq (E_region (EL_mv i3 rfl ?_))
    refine EL_at (.int .i64 (o0)) rfl rfl ?_
    refine EL_nil (thn_n (E_seq (E_region (EL_mv z4 rfl ?_))))
    refine EL_mv z3 rfl ?_
    refine EL_mw (.int .i64 (o0)) rfl rfl ?_
    obtain ⟨y6, t5, h⟩ := bsome h
    refine EL_p (ePtr up0 o0 2) (P_indexAddr (α := BoxPick) Try.underlying30 Try.sizeOf83 rfl j1 rfl t5) rfl ?_
    have i7 := PT_idx j1 t5
    refine EL_do .plain rfl (D_load (g := l5) Try.isAgg83 Try.sizeOf83 rfl i7 fun j7 m7 => ?_)
    obtain ⟨a7, g7, h⟩ := bsome h
    refine EL_do .plain rfl (D_callv (g := l5) (vs := [j7]) rfl fen1 (.cons rfl .nil) (fcl1 _ _ hfr.ch _ _ _  m7 g7) fun o7 k8 l8 hs hr => ?_)
    have hfr := hfr.ext hs
    have j1 := j1.ext hs
    obtain rfl := RV_bool.1 hr
    refine EL_nil (thn_n ?_)
    rcases csome h with ⟨u3, h⟩ | ⟨u3, h⟩
    ·refine E_ct u3 rfl ?_
     refine E_seq (E_region (EL_mw (.int .i64 (o0)) rfl rfl ?_))
     refine EL_at (.int .i64 (o0)) rfl rfl ?_
     refine EL_nil (thn_n (E_ret (blk_r ?_)))
     refine thn_r ?_
     refine thn_r ?_
     refine blk_r ?_
     refine thn_r ?_
     obtain rfl := sinj h
     exact end1 rfl rfl (show _ = .int .i64 (o0) from rfl) ⟨_, hfr, rfl⟩
    ·refine E_cf u3 rfl ?_
     exact E_skip (blk_n (thn_n (d7 () _ _ ⟨o7, hfr, z3, j1, z4, i5, i3⟩ h)))
   ·rintro _ c8 m8 ⟨u7, hfr, x5, i6, j6, v6, x6⟩ h
    refine E_region (EL_in (.int .i64 ((w64 (o0 + (1 : Int))))) x6 rfl rfl rfl ?_)
    refine EL_mw (.int .i64 ((w64 (o0 + (1 : Int))))) rfl rfl ?_
    exact EL_nil (thn_n (c7 ((w64 (o0 + (1 : Int)))) _ _ ⟨u7, hfr, x5, i6, j6, v6, rfl⟩ h))
  ·refine E_cf j3 rfl ?_
   refine E_exit ?_
   refine thn_e ?_
   refine thn_e ?_
   refine blk_hit ?_
   exact thn_n (b7 () _ _ ⟨l5, hfr⟩ h)
 ·rintro _ g8 n8 ⟨o8, hfr⟩ h
  refine E_seq (E_region (EL_at (.int .i64 (-1)) rfl rfl ?_))
  refine EL_nil (thn_n (E_ret ?_))
  obtain rfl := sinj h
  exact end1 rfl rfl (show _ = .int .i64 (-1) from rfl) ⟨_, hfr, rfl⟩
def f106 (x0 : Int) (x1 : Int) : Option (Int) :=
 some ((w64 ((max64 x0 x1) - (min64 x0 x1))))
theorem en106 : Enters Try.prog 106 := enters_of Try.func106 (by kernel_rfl) rfl
theorem wk106 {gI : Gh} {wI : World} {x0 : Int} {x1 : Int}  {r : Int} (h : f106 x0 x1 = some r) : Fn Try.prog 106 #[.int .i64 (x0), .int .i64 (x1)] gI wI (fun _ _ v => v = .int .i64 (r)) := by
 unfold f106 at h
 refine fn_of_E Try.func106 rfl (Nat.le_of_ble_eq_true rfl) fun g0 hm hfr => ?_
 show E _ 12 none _ _ _ _ _
 refine E_seq (E_region (EL_at (.int .i64 (0)) rfl rfl ?_))
 refine EL_nil (thn_n (E_seq (E_region (EL_mw (.int .i64 (x0)) rfl rfl ?_))))
 refine EL_mw (.int .i64 (x1)) rfl rfl ?_
 refine EL_p (.int .i64 (max64 x0 x1)) (P_max rfl rfl) rfl ?_
 refine EL_mw (.int .i64 (x0)) rfl rfl ?_
 refine EL_mw (.int .i64 (x1)) rfl rfl ?_
 refine EL_p (.int .i64 (min64 x0 x1)) (P_min rfl rfl) rfl ?_
 refine EL_in (.int .i64 ((w64 ((max64 x0 x1) - (min64 x0 x1))))) rfl rfl rfl rfl ?_
 refine EL_at (.int .i64 ((w64 ((max64 x0 x1) - (min64 x0 x1))))) rfl rfl ?_
 refine EL_nil (thn_n (E_ret ?_))
 obtain rfl := sinj h
 exact end1 rfl rfl (show _ = .int .i64 ((w64 ((max64 x0 x1) - (min64 x0 x1)))) from rfl) ⟨_, hfr, rfl⟩
def f107 (x1 : It Int) : Option ((List Int)) :=
 Option.bind (α := (List Int)) (
  (x1 ((List Int)) (fun i5 j3 =>
   (apnd 8 i5 (([j3] : List Int))).bind fun t5 =>
   some (true, (t5))
   ) ((([] : List Int) : List Int))).bind fun l5 =>
  some (l5)
  ) fun u3 =>
 some (u3)
def f114 (x0 : List Int) (x1 : Int) (x2 : Int) : Option ((List Int)) :=
 lp (σ := (List Int) × Int × Int) (fun k1 (i3, o0, j1) =>
  jn (σ := Unit) (fun _ =>
   (idx i3 j1).bind fun y7 =>
   (idx i3 o0).bind fun y9 =>
   (idx i3 o0).bind fun y11 =>
   (idx ((List.set i3 (Int.toNat o0) y7)) j1).bind fun c7 =>
   k1 ((List.set ((List.set i3 (Int.toNat o0) y7)) (Int.toNat j1) y9), (w64 (o0 + (1 : Int))), (w64 (j1 - (1 : Int))))
   ) fun k4 =>
  bif (decide (o0 < j1)) then
   k4 ()
  else
   some (i3)
  ) big (x0, x1, (w64 (x2 - (1 : Int))))
def f126 (x0 : Int) : Option (Bool) :=
 some ((x0 != x0))
def f15 (x0 : BoxLoom) : Option (BoxLoom) :=
 (f50 x0).bind fun y5 =>
 some (y5)
theorem en15 : Enters Try.prog 15 := enters_of Try.func15 (by kernel_rfl) rfl
theorem wk15 {gI : Gh} {wI : World} {x0 : BoxLoom} {up0 : Value} (rp0 : RV gI.m wI x0 up0) {r : BoxLoom} (h : f15 x0 = some r) : Fn Try.prog 15 #[up0] gI wI (fun m w v => RV m w (r) v) := by
 unfold f15 at h
 refine fn_of_E Try.func15 rfl (Nat.le_of_ble_eq_true rfl) fun g0 hm hfr => ?_
 have rp0 : RV g0.m wI x0 up0 := hm ▸ rp0
 show E _ 5 none _ _ _ _ _
 refine E_seq (E_region (EL_do .plain rfl (D_box (g := g0) rfl rp0 fun g1 w1 p1 hs q1 => ?_)))
 have hfr := hfr.ext hs
 refine EL_do .plain rfl (D_allocOc (g := g1) 2002 (⟨[], [], []⟩ : BoxLoom) Try.zeroValue25 (fun m w => ⟨_, (rep_two rep_nil (rep_two rep_nil rep_nil)), rfl⟩) fun g2 w2 p2 hs b2 cb => ?_)
 have hfr := hfr.stp hs
 have q1 := q1.stp hs
 have o0 : OSF 2002 60200 0 g2 w2 3 25 ([] : List Int) p2 := cb.osf (by rfl)
 have j1 : OSF 2002 60201 1 g2 w2 3 25 ([] : List Int) p2 := cb.osf (by rfl)
 have i3 : OSF 2002 60202 2 g2 w2 87 25 ([] : List BoxShuttle) p2 := cb.osf (by rfl)
 clear cb
 refine EL_nil (thn_n (E_seq (E_region (EL_do .plain rfl (D_load (g := g2) Try.isAgg25 Try.sizeOf25 rfl q1 fun v3 r3 => ?_)))))
 obtain ⟨y5, hy5, h⟩ := bsome h
 refine EL_do .plain rfl (D_call (g := g2) (vs := [v3]) en50 (.cons rfl .nil) (wk50 r3 hy5) fun g4 w4_ v4 hs hr => ?_)
 have hfr := hfr.ext hs
 have b2 := b2.ext hs
 have r4 := hr
 refine EL_do .plain rfl (D_storeOc (g := g4) (v := v4) Try.sizeOf25 rfl b2 rfl r4 fun g6 w6 hs b6 cb => ?_)
 clear cb
 have hfr := hfr.stp hs
 refine EL_nil (thn_n (E_ret ?_))
 obtain rfl := sinj h
 obtain ⟨ad7, cv7, hp7, hl7, cr7⟩ := ob_read Try.isAgg25 Try.sizeOf25 b6
 exact endm_c rfl rfl ((show _ = p2 from rfl).trans hp7) hl7 ⟨_, hfr, cr7⟩
def f18 (x0 : BoxLoom) (x1 : BoxLoom) : Option (Bool) :=
 jn (σ := Unit) (fun _ =>
  jn (σ := Unit) (fun _ =>
   some (true)
   ) fun o7 =>
  lp (σ := Int) (fun u7 o0 =>
   jn (σ := Unit) (fun _ =>
    jn (σ := Unit) (fun _ =>
     u7 ((w64 (o0 + (1 : Int))))
     ) fun v7 =>
    (idx ((x0).Shuttles) o0).bind fun y186 =>
    (idx ((x1).Shuttles) o0).bind fun b7 =>
    bif (!(decide (y186 = b7))) then
     some (false)
    else
     v7 ()
    ) fun c8 =>
   bif (decide (o0 < (((x0).Shuttles).length : Int))) then
    c8 ()
   else
    o7 ()
   ) big ((0 : Int))
  ) fun jA =>
 Option.bind (α := Bool) (
  (f19 ((x0).Boxes) ((x1).Boxes)).bind fun t5 =>
  bif (!t5) then
   some (true)
  else
   (f19 ((x0).At) ((x1).At)).bind fun z4 =>
   bif (!z4) then
    some (true)
   else
    some (((((x0).Shuttles).length : Int) != (((x1).Shuttles).length : Int)))
  ) fun j3 =>
 bif j3 then
  some (false)
 else
  jA ()
theorem en18 : Enters Try.prog 18 := enters_of Try.func18 (by kernel_rfl) rfl
theorem wk18 {gI : Gh} {wI : World} {x0 : BoxLoom} {x1 : BoxLoom} {up0 : Value} (rp0 : RV gI.m wI x0 up0) {up1 : Value} (rp1 : RV gI.m wI x1 up1) {r : Bool} (h : f18 x0 x1 = some r) : Fn Try.prog 18 #[up0, up1] gI wI (fun _ _ v => v = .bool (r)) := by
 unfold f18 at h
 refine fn_of_E Try.func18 rfl (Nat.le_of_ble_eq_true rfl) fun g0 hm hfr => ?_
 have rp0 : RV g0.m wI x0 up0 := hm ▸ rp0
 have rp1 : RV g0.m wI x1 up1 := hm ▸ rp1
 show E _ 47 none _ _ _ _ _
 refine E_seq (E_region (EL_do .plain rfl (D_box (g := g0) rfl rp0 fun g1 w1 p1 hs q1 => ?_)))
 have hfr := hfr.ext hs
 have rp1 := rp1.ext hs
 refine EL_do .plain rfl (D_box (g := g1) rfl rp1 fun g2 w2 p2 hs q2 => ?_)
 have hfr := hfr.ext hs
 have q1 := q1.ext hs
 refine EL_at (.bool false) rfl rfl ?_
 refine EL_nil (thn_n (E_joinC h (fun (s : Unit) e w => ∃ (g : Gh) , Fr gI wI g w ∧ e 2 = p1 ∧ PT g.m w (x0 : BoxLoom) p1 ∧ e 3 = p2 ∧ PT g.m w (x1 : BoxLoom) p2) (fun X41 jA lA h => ?_) ?_))
 ·obtain ⟨j3, hx, h⟩ := bsome h
  refine E_join (fun e w => ∃ (g : Gh) , Fr gI wI g w ∧ e 2 = p1 ∧ PT g.m w (x0 : BoxLoom) p1 ∧ e 3 = p2 ∧ PT g.m w (x1 : BoxLoom) p2 ∧ e 28 = .bool (j3)) (fun Q' hQ => ?_) (fun rC iD hR => ?_)
  ·replace h := hx
   clear hx
   refine E_region (EL_p (fPtr p1 0) (P_fieldAddr at_25_0 rfl (PT.ptr q1)) rfl ?_)
   have iB := PT_field (part_BoxLoom_0).1 q1
   refine EL_do .plain rfl (D_load (g := g2) Try.isAgg22 Try.sizeOf22 rfl iB fun jB lB => ?_)
   refine EL_p (fPtr p2 0) (P_fieldAddr at_25_0 rfl (PT.ptr q2)) rfl ?_
   have q62 := PT_field (part_BoxLoom_0).1 q2
   refine EL_do .plain rfl (D_load (g := g2) Try.isAgg22 Try.sizeOf22 rfl q62 fun mB nB => ?_)
   obtain ⟨t5, mA, h⟩ := bsome h
   refine EL_do .plain rfl (D_call (g := g2) (vs := [jB, mB]) en19 (.cons rfl (.cons rfl .nil)) (wk19 lB nB mA) fun g7 tC jD hs hr => ?_)
   have hfr := hfr.ext hs
   have q1 := q1.ext hs
   have q2 := q2.ext hs
   subst hr
   refine EL_p (.bool (!t5)) (P_not rfl) rfl ?_
   refine EL_mw (.bool (!t5)) rfl rfl ?_
   rcases csome h with ⟨i3, h⟩ | ⟨i3, h⟩
   ·refine EL_s rfl rfl i3 rfl rfl ?_
    iterate 5 refine EL_s rfl rfl i3 rfl rfl ?_
    refine EL_p (.bool true) (P_pick (b := (!t5)) rfl (pick_t i3 rfl)) rfl ?_
    refine EL_dead 9 rfl ?_
    refine EL_nil ?_
    obtain rfl := sinj h
    exact hQ _ _ ⟨g7, hfr, rfl, q1, rfl, q2, rfl⟩
   ·refine EL_y (fPtr p1 1) (P_fieldAddr at_25_1 rfl (PT.ptr q1)) rfl rfl i3 rfl ?_
    have oB := PT_field (part_BoxLoom_1).1 q1
    refine EL_do (.yes2 rfl rfl i3) rfl (D_load (g := g7) Try.isAgg22 Try.sizeOf22 rfl oB fun tB vB => ?_)
    refine EL_y (fPtr p2 1) (P_fieldAddr at_25_1 rfl (PT.ptr q2)) rfl rfl i3 rfl ?_
    have xB := PT_field (part_BoxLoom_1).1 q2
    refine EL_do (.yes2 rfl rfl i3) rfl (D_load (g := g7) Try.isAgg22 Try.sizeOf22 rfl xB fun yB zB => ?_)
    obtain ⟨z4, nA, h⟩ := bsome h
    refine EL_do (.yes2 rfl rfl i3) rfl (D_call (g := g7) (vs := [tB, yB]) en19 (.cons rfl (.cons rfl .nil)) (wk19 vB zB nA) fun i7 uC kD hs hr => ?_)
    have hfr := hfr.ext hs
    have q1 := q1.ext hs
    have q2 := q2.ext hs
    subst hr
    refine EL_y (.bool (!z4)) (P_not rfl) rfl rfl i3 rfl ?_
    refine EL_p (.bool (!z4)) (P_pick (b := (!t5)) rfl (pick_f i3 rfl)) rfl ?_
    refine EL_mw (.bool (!z4)) rfl rfl ?_
    rcases csome h with ⟨j1, h⟩ | ⟨j1, h⟩
    ·refine EL_s rfl rfl j1 rfl rfl ?_
     iterate 6 refine EL_s rfl rfl j1 rfl rfl ?_
     refine EL_p (.bool true) (P_pick (b := (!z4)) rfl (pick_t j1 rfl)) rfl ?_
     refine EL_nil ?_
     obtain rfl := sinj h
     exact hQ _ _ ⟨i7, hfr, rfl, q1, rfl, q2, rfl⟩
    ·refine EL_y (fPtr p1 2) (P_fieldAddr at_25_2 rfl (PT.ptr q1)) rfl rfl j1 rfl ?_
     have aC := PT_field (part_BoxLoom_2).1 q1
     refine EL_do (.yes2 rfl rfl j1) rfl (D_load (g := i7) Try.isAgg23 Try.sizeOf23 rfl aC fun lD cC => ?_)
     refine EL_y (.int .i64 (((x0).Shuttles).length : Int)) (P_len Try.underlying23 rfl cC) rfl rfl j1 rfl ?_
     refine EL_y (fPtr p2 2) (P_fieldAddr at_25_2 rfl (PT.ptr q2)) rfl rfl j1 rfl ?_
     have dC := PT_field (part_BoxLoom_2).1 q2
     refine EL_do (.yes2 rfl rfl j1) rfl (D_load (g := i7) Try.isAgg23 Try.sizeOf23 rfl dC fun mD eC => ?_)
     refine EL_y (.int .i64 (((x1).Shuttles).length : Int)) (P_len Try.underlying23 rfl eC) rfl rfl j1 rfl ?_
     refine EL_y (.bool (((((x0).Shuttles).length : Int) != (((x1).Shuttles).length : Int)))) (P_int rfl rfl rfl) rfl rfl j1 rfl ?_
     refine EL_p (.bool (((((x0).Shuttles).length : Int) != (((x1).Shuttles).length : Int)))) (P_pick (b := (!z4)) rfl (pick_f j1 rfl)) rfl ?_
     refine EL_nil ?_
     obtain rfl := sinj h
     exact hQ _ _ ⟨i7, hfr, rfl, q1, rfl, q2, rfl⟩
  ·clear hx
   obtain ⟨iC, hfr, x8, y8, a9, d9, j6⟩ := hR
   rcases csome h with ⟨c7, h⟩ | ⟨c7, h⟩
   ·refine E_cond_true (Eq.trans (show ev _ _ = .bool (j3) from j6) (congrArg Value.bool c7)) ?_
    refine E_seq (E_region (EL_at (.bool false) rfl rfl ?_))
    refine EL_nil (thn_n (E_ret (thn_r ?_)))
    obtain rfl := sinj h
    exact end1 rfl rfl (show _ = .bool false from rfl) ⟨_, hfr, rfl⟩
   ·refine E_cond_false (Eq.trans (show ev _ _ = .bool (j3) from j6) (congrArg Value.bool c7)) ?_
    exact E_skip (thn_n (lA () _ _ ⟨iC, hfr, x8, y8, a9, d9⟩ h))
 ·rintro _ vC nD ⟨jC, hfr, i9, k9, l9, n9⟩ h
  refine E_joinC h (fun (s : Unit) e w => ∃ (g : Gh) , Fr gI wI g w) (fun X146 o7 o9 h => ?_) ?_
  ·refine E_seq (E_region (EL_at (.int .i64 (0)) rfl rfl ?_))
   refine EL_nil (thn_n (E_block ?_))
   refine E_lp h (fun (s : Int) e w => ∃ (g : Gh) , Fr gI wI g w ∧ e 2 = p1 ∧ PT g.m w (x0 : BoxLoom) p1 ∧ e 3 = p2 ∧ PT g.m w (x1 : BoxLoom) p2 ∧ e 5 = .int .i64 (s)) ⟨jC, hfr, i9, k9, l9, n9, rfl⟩ (fun X147 u7 t9 => ?_)
   rintro o0 kC xC ⟨d7, hfr, v6, i5, g8, i8, x6⟩ h
   refine E_joinC h (fun (s : Unit) e w => ∃ (g : Gh) , Fr gI wI g w ∧ e 2 = p1 ∧ PT g.m w (x0 : BoxLoom) p1 ∧ e 3 = p2 ∧ PT g.m w (x1 : BoxLoom) p2 ∧ e 5 = .int .i64 (o0)) (fun X152 c8 u9 h => ?_) ?_
   ·refine E_seq (E_region (EL_mv x6 rfl ?_))
    refine EL_p (fPtr p1 2) (P_fieldAddr at_25_2 v6 (PT.ptr i5)) rfl ?_
    have oA := PT_field (part_BoxLoom_2).1 i5
    refine EL_do .plain rfl (D_load (g := d7) Try.isAgg23 Try.sizeOf23 rfl oA fun yC pA => ?_)
    refine EL_p (.int .i64 (((x0).Shuttles).length : Int)) (P_len Try.underlying23 rfl pA) rfl ?_
    refine EL_p (.bool ((decide (o0 < (((x0).Shuttles).length : Int))))) (P_int rfl rfl rfl) rfl ?_
    refine EL_nil (thn_n ?_)
    rcases csome h with ⟨x5, h⟩ | ⟨x5, h⟩
    ·refine E_ct x5 rfl ?_
     exact E_skip (thn_n (u9 () _ _ ⟨d7, hfr, v6, i5, g8, i8, x6⟩ h))
    ·refine E_cf x5 rfl ?_
     refine E_exit ?_
     refine thn_e ?_
     refine thn_e ?_
     refine blk_hit ?_
     exact thn_n (o9 () _ _ ⟨d7, hfr⟩ h)
   ·rintro _ lC aD ⟨qA, hfr, y6, u3, a7, z3, l5⟩ h
    refine E_joinC h (fun (s : Unit) e w => ∃ (g : Gh) , Fr gI wI g w ∧ e 2 = p1 ∧ PT g.m w (x0 : BoxLoom) p1 ∧ e 3 = p2 ∧ PT g.m w (x1 : BoxLoom) p2 ∧ e 5 = .int .i64 (o0)) (fun X183 v7 y9 h => ?_) ?_
    ·refine E_block ?_
     refine E_seq ?_
     have rA := PT_field (part_BoxLoom_2).1 u3
     refine L_load (x := .tmp 36) Try.isAgg23 Try.sizeOf23 rA fun k8 l8 z9 => ?_
     obtain ⟨y186, j7, h⟩ := bsome h
     have uA := PT_idx l8 j7
     refine L_load (x := .tmp 39) Try.isAgg87 Try.sizeOf87 uA fun xA yA bA => ?_
     have zA := PT_field (part_BoxLoom_2).1 z3
     refine L_load (x := .tmp 41) Try.isAgg23 Try.sizeOf23 zA fun m8 n8 gA => ?_
     obtain ⟨b7, m7, h⟩ := bsome h
     have aB := PT_idx n8 m7
     refine L_load (x := .tmp 44) Try.isAgg87 Try.sizeOf87 aB fun bB cB iA => ?_
     refine E_drawL (g := qA) (n := 11) [] [0, 1, 2, 3, 4, 5, 6, 7, 8, 9, 10] rfl mixed (by kernel_rfl) trivial ?_
     refine L_p (fPtr p1 2) rfl rfl (P_fieldAddr at_25_2 y6 (PT.ptr u3)) ?_
     refine L_ld (c := k8) rfl rfl .plain (fun _ _ h => h.ch) z9 rfl ?_
     refine L_p (.int .i64 (o0)) rfl rfl (P_move l5) ?_
     refine L_p (ePtr k8 o0 5) rfl rfl (P_indexAddr (α := BoxShuttle) Try.underlying23 Try.sizeOf87 rfl l8 rfl j7) ?_
     refine L_ld (c := xA) rfl rfl .plain (fun _ _ h => h.ch) bA rfl ?_
     refine L_p (fPtr p2 2) rfl rfl (P_fieldAddr at_25_2 a7 (PT.ptr z3)) ?_
     refine L_ld (c := m8) rfl rfl .plain (fun _ _ h => h.ch) gA rfl ?_
     refine L_p (.int .i64 (o0)) rfl rfl (P_move l5) ?_
     refine L_p (ePtr m8 o0 5) rfl rfl (P_indexAddr (α := BoxShuttle) Try.underlying23 Try.sizeOf87 rfl n8 rfl m7) ?_
     refine L_ld (c := bB) rfl rfl .plain (fun _ _ h => h.ch) iA rfl ?_
     refine L_p (.bool ((!(decide (y186 = b7))))) rfl rfl (P_neD eqd_87 rfl rfl eg_87 rfl rfl yA cB) ?_
     refine L_nl fun dB bD hs => ?_
     have hfr := hfr.ext hs
     have u3 := u3.ext hs
     have z3 := z3.ext hs
     clear hs
     refine EL_nil (thn_n ?_)
     rcases csome h with ⟨i6, h⟩ | ⟨i6, h⟩
     ·refine E_ct i6 rfl ?_
      refine E_seq (E_region (EL_at (.bool false) rfl rfl ?_))
      refine EL_nil (thn_n (E_ret (blk_r ?_)))
      refine thn_r ?_
      refine thn_r ?_
      refine blk_r ?_
      refine thn_r ?_
      obtain rfl := sinj h
      exact end1 rfl rfl (show _ = .bool false from rfl) ⟨_, hfr, rfl⟩
     ·refine E_cf i6 rfl ?_
      exact E_skip (blk_n (thn_n (y9 () _ _ ⟨dB, hfr, y6, u3, a7, z3, l5⟩ h)))
    ·rintro _ mC cD ⟨eB, hfr, o8, q8, r8, t8, v8⟩ h
     refine E_region (EL_mv v8 rfl ?_)
     refine EL_in (.int .i64 ((w64 (o0 + (1 : Int))))) rfl rfl rfl rfl ?_
     refine EL_at (.int .i64 ((w64 (o0 + (1 : Int))))) rfl rfl ?_
     exact EL_nil (thn_n (t9 ((w64 (o0 + (1 : Int)))) _ _ ⟨eB, hfr, o8, q8, r8, t8, rfl⟩ h))
  ·rintro _ qC eD ⟨gD, hfr⟩ h
   refine E_seq (E_region (EL_at (.bool true) rfl rfl ?_))
   refine EL_nil (thn_n (E_ret ?_))
   obtain rfl := sinj h
   exact end1 rfl rfl (show _ = .bool true from rfl) ⟨_, hfr, rfl⟩
def f20 (x0 : BoxLoom) : Option (Int) :=
 jn (σ := Unit) (fun _ =>
  jn (σ := Unit) (fun _ =>
   jn (σ := Unit) (fun _ =>
    jn (σ := Unit) (fun _ =>
     jn (σ := Unit) (fun _ =>
      jn (σ := Unit) (fun _ =>
       some ((0 : Int))
       ) fun vD =>
      lp (σ := Int) (fun xD i3 =>
       jn (σ := Unit) (fun _ =>
        jn (σ := Unit) (fun _ =>
         xD ((w64 (i3 + (1 : Int))))
         ) fun yD =>
        lp (σ := Int) (fun zD u3 =>
         jn (σ := Unit) (fun _ =>
          jn (σ := Unit) (fun _ =>
           zD ((w64 (u3 + (1 : Int))))
           ) fun aE =>
          Option.bind (α := Bool) (
           (idx ((x0).Shuttles) i3).bind fun i7 =>
           (idx ((x0).Shuttles) u3).bind fun j7 =>
           bif ((i7).Side == (j7).Side) then
            (idx ((x0).Shuttles) i3).bind fun a9 =>
            (idx ((x0).Shuttles) u3).bind fun d9 =>
            some (((a9).Box == (d9).Box))
           else
            some (false)
           ) fun m7 =>
          bif m7 then
           some ((6 : Int))
          else
           aE ()
          ) fun bE =>
         bif (decide (u3 < i3)) then
          bE ()
         else
          yD ()
         ) big ((0 : Int))
        ) fun cE =>
       bif (decide (i3 < (((x0).Shuttles).length : Int))) then
        cE ()
       else
        vD ()
       ) big ((0 : Int))
      ) fun dE =>
     bif ((((x0).Shuttles).length : Int) == (0 : Int)) then
      some ((2 : Int))
     else
      dE ()
     ) fun eE =>
    lp (σ := Int) (fun gE x6 =>
     jn (σ := Unit) (fun _ =>
      jn (σ := Unit) (fun _ =>
       gE ((w64 (x6 + (1 : Int))))
       ) fun iE =>
      (idx ((x0).Shuttles) x6).bind fun o0 =>
      Option.bind (α := Bool) (
       (f59 ((o0).Colour) ((0 : Int)) ((9 : Int))).bind fun z4 =>
       bif (!z4) then
        some (true)
       else
        (f59 ((o0).Side) ((0 : Int)) ((1 : Int))).bind fun i5 =>
        bif (!i5) then
         some (true)
        else
         (idx ((x0).Boxes) (o0).Side).bind fun g7 =>
         (f59 ((o0).Box) ((0 : Int)) ((w64 (g7 - (1 : Int))))).bind fun v6 =>
         bif (!v6) then
          some (true)
         else
          (f59 (((o0).Yarn).Low) ((0 : Int)) (((o0).Yarn).High)).bind fun b7 =>
          bif (!b7) then
           some (true)
          else
           some ((decide (((o0).Yarn).High > (1000 : Int))))
       ) fun c8 =>
      bif c8 then
       some ((2 : Int))
      else
       iE ()
      ) fun jE =>
     bif (decide (x6 < (((x0).Shuttles).length : Int))) then
      jE ()
     else
      eE ()
     ) big ((0 : Int))
    ) fun iG =>
   bif (decide ((((x0).Shuttles).length : Int) > (6 : Int))) then
    some ((5 : Int))
   else
    iG ()
   ) fun jG =>
  lp (σ := Int) (fun kG l5 =>
   jn (σ := Unit) (fun _ =>
    jn (σ := Unit) (fun _ =>
     kG ((w64 (l5 + (1 : Int))))
     ) fun lG =>
    Option.bind (α := Bool) (
     (idx ((x0).Boxes) l5).bind fun o9 =>
     (f59 o9 ((1 : Int)) ((4 : Int))).bind fun u7 =>
     bif (!u7) then
      some (true)
     else
      (idx ((x0).At) l5).bind fun xB =>
      (idx ((x0).Boxes) l5).bind fun lA =>
      (f59 xB ((0 : Int)) ((w64 (lA - (1 : Int))))).bind fun t9 =>
      some ((!t9))
     ) fun g8 =>
    bif g8 then
     some ((3 : Int))
    else
     lG ()
    ) fun mG =>
   bif (decide (l5 < (2 : Int))) then
    mG ()
   else
    jG ()
   ) big ((0 : Int))
  ) fun aL =>
 Option.bind (α := Bool) (
  bif ((((x0).Boxes).length : Int) != (2 : Int)) then
   some (true)
  else
   some (((((x0).At).length : Int) != (2 : Int)))
  ) fun o8 =>
 bif o8 then
  some ((4 : Int))
 else
  aL ()
theorem en20 : Enters Try.prog 20 := enters_of Try.func20 (by kernel_rfl) rfl
theorem wk20 {gI : Gh} {wI : World} {x0 : BoxLoom} {up0 : Value} (rp0 : RV gI.m wI x0 up0) {r : Int} (h : f20 x0 = some r) : Fn Try.prog 20 #[up0] gI wI (fun _ _ v => v = .int .i64 (r)) := by
 unfold f20 at h
 refine fn_of_E Try.func20 rfl (Nat.le_of_ble_eq_true rfl) fun g0 hm hfr => ?_
 have rp0 : RV g0.m wI x0 up0 := hm ▸ rp0
 show E _ 143 none _ _ _ _ _
 refine E_seq (E_region (EL_do .plain rfl (D_box (g := g0) rfl rp0 fun g1 w1 p1 hs q1 => ?_)))
 have hfr := hfr.ext hs
 refine EL_at (.int .i64 (0)) rfl rfl ?_
 refine EL_nil (thn_n (E_joinC h (fun (s : Unit) e w => ∃ (g : Gh) , Fr gI wI g w ∧ e 1 = p1 ∧ PT g.m w (x0 : BoxLoom) p1) (fun X14 aL bL h => ?_) ?_))
 ·obtain ⟨o8, hx, h⟩ := bsome h
  refine E_join (fun e w => ∃ (g : Gh) , Fr gI wI g w ∧ e 1 = p1 ∧ PT g.m w (x0 : BoxLoom) p1 ∧ e 17 = .bool (o8)) (fun Q' hQ => ?_) (fun vO nP hR => ?_)
  ·replace h := hx
   clear hx
   refine E_region (EL_p (fPtr p1 0) (P_fieldAddr at_25_0 rfl (PT.ptr q1)) rfl ?_)
   have yL := PT_field (part_BoxLoom_0).1 q1
   refine EL_do .plain rfl (D_load (g := g1) Try.isAgg22 Try.sizeOf22 rfl yL fun oP zL => ?_)
   refine EL_p (.int .i64 (((x0).Boxes).length : Int)) (P_len Try.underlying22 rfl zL) rfl ?_
   refine EL_in (.bool (((((x0).Boxes).length : Int) != (2 : Int)))) rfl rfl rfl rfl ?_
   refine EL_mw (.bool (((((x0).Boxes).length : Int) != (2 : Int)))) rfl rfl ?_
   rcases csome h with ⟨n8, h⟩ | ⟨n8, h⟩
   ·refine EL_s rfl rfl n8 rfl rfl ?_
    iterate 3 refine EL_s rfl rfl n8 rfl rfl ?_
    refine EL_p (.bool true) (P_pick (b := ((((x0).Boxes).length : Int) != (2 : Int))) rfl (pick_t n8 rfl)) rfl ?_
    refine EL_nil ?_
    obtain rfl := sinj h
    exact hQ _ _ ⟨g1, hfr, rfl, q1, rfl⟩
   ·refine EL_y (fPtr p1 1) (P_fieldAddr at_25_1 rfl (PT.ptr q1)) rfl rfl n8 rfl ?_
    have aM := PT_field (part_BoxLoom_1).1 q1
    refine EL_do (.yes2 rfl rfl n8) rfl (D_load (g := g1) Try.isAgg22 Try.sizeOf22 rfl aM fun pP bM => ?_)
    refine EL_y (.int .i64 (((x0).At).length : Int)) (P_len Try.underlying22 rfl bM) rfl rfl n8 rfl ?_
    refine EL_y (.bool (((((x0).At).length : Int) != (2 : Int)))) (P_int rfl rfl rfl) rfl rfl n8 rfl ?_
    refine EL_p (.bool (((((x0).At).length : Int) != (2 : Int)))) (P_pick (b := ((((x0).Boxes).length : Int) != (2 : Int))) rfl (pick_f n8 rfl)) rfl ?_
    refine EL_nil ?_
    obtain rfl := sinj h
    exact hQ _ _ ⟨g1, hfr, rfl, q1, rfl⟩
  ·clear hx
   obtain ⟨cM, hfr, zH, aI, xC⟩ := hR
   rcases csome h with ⟨tD, h⟩ | ⟨tD, h⟩
   ·refine E_cond_true (Eq.trans (show ev _ _ = .bool (o8) from xC) (congrArg Value.bool tD)) ?_
    refine E_seq (E_region (EL_at (.int .i64 (4)) rfl rfl ?_))
    refine EL_nil (thn_n (E_ret (thn_r ?_)))
    obtain rfl := sinj h
    exact end1 rfl rfl (show _ = .int .i64 (4) from rfl) ⟨_, hfr, rfl⟩
   ·refine E_cond_false (Eq.trans (show ev _ _ = .bool (o8) from xC) (congrArg Value.bool tD)) ?_
    exact E_skip (thn_n (bL () _ _ ⟨cM, hfr, zH, aI⟩ h))
 ·rintro _ xO sP ⟨dM, hfr, bI, cI⟩ h
  refine E_joinC h (fun (s : Unit) e w => ∃ (g : Gh) , Fr gI wI g w ∧ e 1 = p1 ∧ PT g.m w (x0 : BoxLoom) p1) (fun X321 jG dI h => ?_) ?_
  ·refine E_seq (E_region (EL_at (.int .i64 (0)) rfl rfl ?_))
   refine EL_nil (thn_n (E_block ?_))
   refine E_lp h (fun (s : Int) e w => ∃ (g : Gh) , Fr gI wI g w ∧ e 1 = p1 ∧ PT g.m w (x0 : BoxLoom) p1 ∧ e 3 = .int .i64 (s)) ⟨dM, hfr, bI, cI, rfl⟩ (fun X322 kG iI => ?_)
   rintro l5 vM yO ⟨nG, hfr, yC, aD, bD⟩ h
   refine E_joinC h (fun (s : Unit) e w => ∃ (g : Gh) , Fr gI wI g w ∧ e 1 = p1 ∧ PT g.m w (x0 : BoxLoom) p1 ∧ e 3 = .int .i64 (l5)) (fun X325 mG jI h => ?_) ?_
   ·refine E_seq (E_region (EL_mv bD rfl ?_))
    refine EL_in (.bool ((decide (l5 < (2 : Int))))) rfl rfl rfl rfl ?_
    refine EL_nil (thn_n ?_)
    rcases csome h with ⟨yB, h⟩ | ⟨yB, h⟩
    ·refine E_ct yB rfl ?_
     exact E_skip (thn_n (jI () _ _ ⟨nG, hfr, yC, aD, bD⟩ h))
    ·refine E_cf yB rfl ?_
     refine E_exit ?_
     refine thn_e ?_
     refine thn_e ?_
     refine blk_hit ?_
     exact thn_n (dI () _ _ ⟨nG, hfr, yC, aD⟩ h)
   ·rintro _ xM zO ⟨oG, hfr, i8, a7, k8⟩ h
    refine E_joinC h (fun (s : Unit) e w => ∃ (g : Gh) , Fr gI wI g w ∧ e 1 = p1 ∧ PT g.m w (x0 : BoxLoom) p1 ∧ e 3 = .int .i64 (l5)) (fun X470 lG kI h => ?_) ?_
    ·refine E_block ?_
     obtain ⟨g8, hx, h⟩ := bsome h
     refine E_join (fun e w => ∃ (g : Gh) , Fr gI wI g w ∧ e 1 = p1 ∧ PT g.m w (x0 : BoxLoom) p1 ∧ e 3 = .int .i64 (l5) ∧ e 43 = .bool (g8)) (fun Q' hQ => ?_) (fun yM aP hR => ?_)
     ·replace h := hx
      clear hx
      have cL := PT_field (part_BoxLoom_0).1 a7
      refine L_load (x := .tmp 22) Try.isAgg22 Try.sizeOf22 cL fun zB uD kE => ?_
      obtain ⟨o9, aC, h⟩ := bsome h
      have dL := PT_idx uD aC
      refine L_load (x := .tmp 25) Try.isAgg3 Try.sizeOf3 dL fun bP eL lE => ?_
      obtain rfl := RV_int.1 eL
      obtain ⟨u7, mE, h⟩ := bsome h
      rcases csome h with ⟨y6, h⟩ | ⟨y6, h⟩
      ·refine E_drawL (g := oG) (n := 22) [(5, (fun v g w => v = .bool (u7)))] [0, 1, 2, 3, 4, 5, 6, 7, 8, 9, 10, 11, 12, 13, 14, 15, 16, 17, 18, 19, 20, 21] rfl mixed (by kernel_rfl) (⟨fun _ => up_eq _, trivial⟩) ?_
       refine L_p (fPtr p1 0) rfl rfl (P_fieldAddr at_25_0 i8 (PT.ptr a7)) ?_
       refine L_ld (c := zB) rfl rfl .plain (fun _ _ h => h.ch) kE rfl ?_
       refine L_p (.int .i64 (l5)) rfl rfl (P_move k8) ?_
       refine L_p (ePtr zB l5 1) rfl rfl (P_indexAddr (α := Int) Try.underlying22 Try.sizeOf3 rfl uD rfl aC) ?_
       refine L_ld (c := .int .i64 (o9)) rfl rfl .plain (fun _ _ h => h.ch) lE rfl ?_
       refine L_do (φ := fun v g w => v = .bool (u7)) rfl rfl .plain (fun g w hd => D_call (g := g) (vs := [.int .i64 (o9), .int .i64 (1), .int .i64 (4)]) en59 (.cons rfl (.cons rfl (.cons rfl .nil))) (wk59  mE) fun g' w' v hs hr => ⟨g', hs, hr⟩) (fun gL hv => ?_)
       obtain ⟨_, _, _, rfl⟩ := hv
       refine L_p (.bool (!u7)) rfl rfl (P_not rfl) ?_
       refine L_p (.bool (!u7)) rfl rfl (P_move rfl) ?_
       iterate 13 refine L_s rfl rfl rfl y6 rfl ?_
       refine L_p (.bool true) rfl rfl (P_pick (b := (!u7)) rfl (pick_t y6 rfl)) ?_
       refine L_nl fun iL cP hs => ?_
       have hfr := hfr.ext hs
       have a7 := a7.ext hs
       clear hs
       refine EL_nil ?_
       obtain rfl := sinj h
       exact hQ _ _ ⟨iL, hfr, i8, a7, k8, rfl⟩
      ·have jL := PT_field (part_BoxLoom_1).1 a7
       refine L_load (x := .tmp 30) Try.isAgg22 Try.sizeOf22 jL fun pG qG lI => ?_
       obtain ⟨xB, nE, h⟩ := bsome h
       have lL := PT_idx qG nE
       refine L_load (x := .tmp 33) Try.isAgg3 Try.sizeOf3 lL fun dP mL mI => ?_
       obtain rfl := RV_int.1 mL
       have nL := PT_field (part_BoxLoom_0).1 a7
       refine L_load (x := .tmp 35) Try.isAgg22 Try.sizeOf22 nL fun rG sG nI => ?_
       obtain ⟨lA, oE, h⟩ := bsome h
       have oL := PT_idx sG oE
       refine L_load (x := .tmp 38) Try.isAgg3 Try.sizeOf3 oL fun eP pL pI => ?_
       obtain rfl := RV_int.1 pL
       obtain ⟨t9, qI, h⟩ := bsome h
       refine E_drawL (g := oG) (n := 22) [(5, (fun v g w => v = .bool (u7))), (19, (fun v g w => v = .bool (t9)))] [0, 1, 2, 3, 4, 5, 6, 7, 8, 9, 10, 11, 12, 13, 14, 15, 16, 17, 18, 19, 20, 21] rfl mixed (by kernel_rfl) (⟨fun _ => up_eq _, fun _ => up_eq _, trivial⟩) ?_
       refine L_p (fPtr p1 0) rfl rfl (P_fieldAddr at_25_0 i8 (PT.ptr a7)) ?_
       refine L_ld (c := zB) rfl rfl .plain (fun _ _ h => h.ch) kE rfl ?_
       refine L_p (.int .i64 (l5)) rfl rfl (P_move k8) ?_
       refine L_p (ePtr zB l5 1) rfl rfl (P_indexAddr (α := Int) Try.underlying22 Try.sizeOf3 rfl uD rfl aC) ?_
       refine L_ld (c := .int .i64 (o9)) rfl rfl .plain (fun _ _ h => h.ch) lE rfl ?_
       refine L_do (φ := fun v g w => v = .bool (u7)) rfl rfl .plain (fun g w hd => D_call (g := g) (vs := [.int .i64 (o9), .int .i64 (1), .int .i64 (4)]) en59 (.cons rfl (.cons rfl (.cons rfl .nil))) (wk59  mE) fun g' w' v hs hr => ⟨g', hs, hr⟩) (fun gL hv => ?_)
       obtain ⟨_, _, _, rfl⟩ := hv
       refine L_p (.bool (!u7)) rfl rfl (P_not rfl) ?_
       refine L_p (.bool (!u7)) rfl rfl (P_move rfl) ?_
       refine L_y (fPtr p1 1) rfl rfl rfl rfl y6 (P_fieldAddr at_25_1 i8 (PT.ptr a7)) ?_
       refine L_ld (c := pG) rfl rfl (.yes2 rfl rfl y6) (fun _ _ h => h.ch) lI rfl ?_
       refine L_y (.int .i64 (l5)) rfl rfl rfl rfl y6 (P_move k8) ?_
       refine L_y (ePtr pG l5 1) rfl rfl rfl rfl y6 (P_indexAddr (α := Int) Try.underlying22 Try.sizeOf3 rfl qG rfl nE) ?_
       refine L_ld (c := .int .i64 (xB)) rfl rfl (.yes2 rfl rfl y6) (fun _ _ h => h.ch) mI rfl ?_
       refine L_y (fPtr p1 0) rfl rfl rfl rfl y6 (P_fieldAddr at_25_0 i8 (PT.ptr a7)) ?_
       refine L_ld (c := rG) rfl rfl (.yes2 rfl rfl y6) (fun _ _ h => h.ch) nI rfl ?_
       refine L_y (.int .i64 (l5)) rfl rfl rfl rfl y6 (P_move k8) ?_
       refine L_y (ePtr rG l5 1) rfl rfl rfl rfl y6 (P_indexAddr (α := Int) Try.underlying22 Try.sizeOf3 rfl sG rfl oE) ?_
       refine L_ld (c := .int .i64 (lA)) rfl rfl (.yes2 rfl rfl y6) (fun _ _ h => h.ch) pI rfl ?_
       refine L_y (.int .i64 ((w64 (lA - (1 : Int))))) rfl rfl rfl rfl y6 (P_int rfl rfl rfl) ?_
       refine L_do (φ := fun v g w => v = .bool (t9)) rfl rfl (.yes2 rfl rfl y6) (fun g w hd => D_call (g := g) (vs := [.int .i64 (xB), .int .i64 (0), .int .i64 ((w64 (lA - (1 : Int))))]) en59 (.cons rfl (.cons rfl (.cons rfl .nil))) (wk59  qI) fun g' w' v hs hr => ⟨g', hs, hr⟩) (fun gP hv => ?_)
       obtain ⟨_, _, _, rfl⟩ := hv
       refine L_y (.bool (!t9)) rfl rfl rfl rfl y6 (P_not rfl) ?_
       refine L_p (.bool (!t9)) rfl rfl (P_pick (b := (!u7)) rfl (pick_f y6 rfl)) ?_
       refine L_nl fun qL iP hs => ?_
       have hfr := hfr.ext hs
       have a7 := a7.ext hs
       clear hs
       refine EL_nil ?_
       obtain rfl := sinj h
       exact hQ _ _ ⟨qL, hfr, i8, a7, k8, rfl⟩
     ·clear hx
      obtain ⟨rL, hfr, tG, uG, vG, iB⟩ := hR
      rcases csome h with ⟨cC, h⟩ | ⟨cC, h⟩
      ·refine E_cond_true (Eq.trans (show ev _ _ = .bool (g8) from iB) (congrArg Value.bool cC)) ?_
       refine E_seq (E_region (EL_at (.int .i64 (3)) rfl rfl ?_))
       refine EL_nil (thn_n (E_ret (blk_r ?_)))
       refine thn_r ?_
       refine thn_r ?_
       refine blk_r ?_
       refine thn_r ?_
       obtain rfl := sinj h
       exact end1 rfl rfl (show _ = .int .i64 (3) from rfl) ⟨_, hfr, rfl⟩
      ·refine E_cond_false (Eq.trans (show ev _ _ = .bool (g8) from iB) (congrArg Value.bool cC)) ?_
       exact E_skip (blk_n (thn_n (kI () _ _ ⟨rL, hfr, tG, uG, vG⟩ h)))
    ·rintro _ zM jP ⟨tL, hfr, xG, yG, zG⟩ h
     refine E_region (EL_mv zG rfl ?_)
     refine EL_in (.int .i64 ((w64 (l5 + (1 : Int))))) rfl rfl rfl rfl ?_
     refine EL_at (.int .i64 ((w64 (l5 + (1 : Int))))) rfl rfl ?_
     exact EL_nil (thn_n (iI ((w64 (l5 + (1 : Int)))) _ _ ⟨tL, hfr, xG, yG, rfl⟩ h))
  ·rintro _ bN kP ⟨aH, hfr, cD, mA⟩ h
   refine E_joinC h (fun (s : Unit) e w => ∃ (g : Gh) , Fr gI wI g w ∧ e 1 = p1 ∧ PT g.m w (x0 : BoxLoom) p1) (fun X618 iG rI h => ?_) ?_
   ·refine E_seq (E_region (EL_p (fPtr p1 2) (P_fieldAddr at_25_2 cD (PT.ptr mA)) rfl ?_))
    have uL := PT_field (part_BoxLoom_2).1 mA
    refine EL_do .plain rfl (D_load (g := aH) Try.isAgg23 Try.sizeOf23 rfl uL fun lP vL => ?_)
    refine EL_p (.int .i64 (((x0).Shuttles).length : Int)) (P_len Try.underlying23 rfl vL) rfl ?_
    refine EL_p (.bool ((decide ((((x0).Shuttles).length : Int) > (6 : Int))))) (P_int rfl rfl rfl) rfl ?_
    refine EL_nil (thn_n ?_)
    rcases csome h with ⟨dC, h⟩ | ⟨dC, h⟩
    ·refine E_ct dC rfl ?_
     refine E_seq (E_region (EL_at (.int .i64 (5)) rfl rfl ?_))
     refine EL_nil (thn_n (E_ret (thn_r ?_)))
     obtain rfl := sinj h
     exact end1 rfl rfl (show _ = .int .i64 (5) from rfl) ⟨_, hfr, rfl⟩
    ·refine E_cf dC rfl ?_
     exact E_skip (thn_n (rI () _ _ ⟨aH, hfr, cD, mA⟩ h))
   ·rintro _ cN mP ⟨xL, hfr, bH, cH⟩ h
    refine E_joinC h (fun (s : Unit) e w => ∃ (g : Gh) , Fr gI wI g w ∧ e 1 = p1 ∧ PT g.m w (x0 : BoxLoom) p1) (fun X1749 eE dH h => ?_) ?_
    ·refine E_seq (E_region (EL_at (.int .i64 (0)) rfl rfl ?_))
     refine EL_nil (thn_n (E_block ?_))
     refine E_lp h (fun (s : Int) e w => ∃ (g : Gh) , Fr gI wI g w ∧ e 1 = p1 ∧ PT g.m w (x0 : BoxLoom) p1 ∧ e 4 = .int .i64 (s)) ⟨xL, hfr, bH, cH, rfl⟩ (fun X1750 gE gH => ?_)
     rintro x6 eM dN ⟨eC, hfr, u9, t8, jB⟩ h
     refine E_joinC h (fun (s : Unit) e w => ∃ (g : Gh) , Fr gI wI g w ∧ e 1 = p1 ∧ PT g.m w (x0 : BoxLoom) p1 ∧ e 4 = .int .i64 (x6)) (fun X1755 jE iH h => ?_) ?_
     ·refine E_seq (E_region (EL_mv jB rfl ?_))
      refine EL_p (fPtr p1 2) (P_fieldAddr at_25_2 u9 (PT.ptr t8)) rfl ?_
      have sI := PT_field (part_BoxLoom_2).1 t8
      refine EL_do .plain rfl (D_load (g := eC) Try.isAgg23 Try.sizeOf23 rfl sI fun eN tI => ?_)
      refine EL_p (.int .i64 (((x0).Shuttles).length : Int)) (P_len Try.underlying23 rfl tI) rfl ?_
      refine EL_p (.bool ((decide (x6 < (((x0).Shuttles).length : Int))))) (P_int rfl rfl rfl) rfl ?_
      refine EL_nil (thn_n ?_)
      rcases csome h with ⟨nA, h⟩ | ⟨nA, h⟩
      ·refine E_ct nA rfl ?_
       exact E_skip (thn_n (iH () _ _ ⟨eC, hfr, u9, t8, jB⟩ h))
      ·refine E_cf nA rfl ?_
       refine E_exit ?_
       refine thn_e ?_
       refine thn_e ?_
       refine blk_hit ?_
       exact thn_n (dH () _ _ ⟨eC, hfr, u9, t8⟩ h)
     ·rintro _ gM gN ⟨iC, hfr, c7, j3, v7⟩ h
      refine E_joinC h (fun (s : Unit) e w => ∃ (g : Gh) , Fr gI wI g w ∧ e 1 = p1 ∧ PT g.m w (x0 : BoxLoom) p1 ∧ e 4 = .int .i64 (x6)) (fun X2317 iE jH h => ?_) ?_
      ·refine E_block ?_
       refine E_seq (E_region (EL_p (fPtr p1 2) (P_fieldAddr at_25_2 c7 (PT.ptr j3)) rfl ?_))
       have uI := PT_field (part_BoxLoom_2).1 j3
       refine EL_do .plain rfl (D_load (g := iC) Try.isAgg23 Try.sizeOf23 rfl uI fun vI rE => ?_)
       refine EL_mv v7 rfl ?_
       obtain ⟨o0, eD, h⟩ := bsome h
       refine EL_p (ePtr vI x6 5) (P_indexAddr (α := BoxShuttle) Try.underlying23 Try.sizeOf87 rfl rE rfl eD) rfl ?_
       have xI := PT_idx rE eD
       refine EL_do .plain rfl (D_load (g := iC) Try.isAgg87 Try.sizeOf87 rfl xI fun yI jC => ?_)
       refine EL_do .plain rfl (D_allocOc (g := iC) 2005 (⟨0, 0, 0, ⟨0, 0⟩⟩ : BoxShuttle) Try.zeroValue87 (fun m w => ⟨_, (rep_two rep_int (rep_two rep_int (rep_two rep_int (rep_two rep_int rep_int)))), rfl⟩) fun zI iN x5 hs b2323 cb => ?_)
       have hfr := hfr.stp hs
       have j3 := j3.stp hs
       have jC := jC.stp hs
       clear cb
       refine EL_do .plain rfl (D_storeOc (g := zI) (v := yI) Try.sizeOf87 rfl b2323 rfl jC fun i9 jN hs b2324 cb => ?_)
       clear cb
       have hfr := hfr.stp hs
       have j3 := j3.stp hs
       refine EL_nil (thn_n ?_)
       obtain ⟨c8, hx, h⟩ := bsome h
       refine E_join (fun e w => ∃ (g : Gh) , Fr gI wI g w ∧ e 1 = p1 ∧ PT g.m w (x0 : BoxLoom) p1 ∧ e 4 = .int .i64 (x6) ∧ e 98 = .bool (c8)) (fun Q' hQ => ?_) (fun iM kN hR => ?_)
       ·replace h := hx
        clear hx
        refine L_loadO (x := .tmp 60) part_BoxShuttle_0.1 Try.isAgg3 Try.sizeOf3 b2324 fun lN aJ q8 => ?_
        obtain rfl := RV_int.1 aJ
        obtain ⟨z4, r8, h⟩ := bsome h
        rcases csome h with ⟨z3, h⟩ | ⟨z3, h⟩
        ·refine E_drawL (g := i9) (n := 39) [(2, (fun v g w => v = .bool (z4)))] [0, 1, 2, 3, 4, 5, 6, 7, 8, 9, 10, 11, 12, 13, 14, 15, 16, 17, 18, 19, 20, 21, 22, 23, 24, 25, 26, 27, 28, 29, 30, 31, 32, 33, 34, 35, 36, 37, 38] rfl mixed (by kernel_rfl) (⟨fun _ => up_eq _, trivial⟩) ?_
         refine L_p (fPtr x5 0) rfl rfl (P_fieldAddr at_87_0 rfl (OB.ptr b2324)) ?_
         refine L_ld (c := .int .i64 ((o0).Colour)) rfl rfl .plain (fun _ _ h => ⟨h.ch, fun b hb _ => h.below.block b hb⟩) q8 rfl ?_
         refine L_do (φ := fun v g w => v = .bool (z4)) rfl rfl .plain (fun g w hd => D_call (g := g) (vs := [.int .i64 ((o0).Colour), .int .i64 (0), .int .i64 (9)]) en59 (.cons rfl (.cons rfl (.cons rfl .nil))) (wk59  r8) fun g' w' v hs hr => ⟨g', hs, hr⟩) (fun iA hv => ?_)
         obtain ⟨_, _, _, rfl⟩ := hv
         refine L_p (.bool (!z4)) rfl rfl (P_not rfl) ?_
         refine L_p (.bool (!z4)) rfl rfl (P_move rfl) ?_
         iterate 4 refine L_s rfl rfl rfl z3 rfl ?_
         refine L_p (.bool true) rfl rfl (P_pick (b := (!z4)) rfl (pick_t z3 rfl)) ?_
         refine L_dead (fun _ => rfl) 29 rfl ?_
         refine L_nl fun bJ mN hs => ?_
         have hfr := hfr.ext hs
         have j3 := j3.ext hs
         clear hs
         refine EL_nil ?_
         obtain rfl := sinj h
         exact hQ _ _ ⟨bJ, hfr, c7, j3, v7, rfl⟩
        ·refine L_loadO (x := .tmp 65) part_BoxShuttle_1.1 Try.isAgg3 Try.sizeOf3 b2324 fun nN cJ k9 => ?_
         obtain rfl := RV_int.1 cJ
         obtain ⟨i5, l9, h⟩ := bsome h
         rcases csome h with ⟨j1, h⟩ | ⟨j1, h⟩
         ·refine E_drawL (g := i9) (n := 39) [(2, (fun v g w => v = .bool (z4))), (7, (fun v g w => v = .bool (i5)))] [0, 1, 2, 3, 4, 5, 6, 7, 8, 9, 10, 11, 12, 13, 14, 15, 16, 17, 18, 19, 20, 21, 22, 23, 24, 25, 26, 27, 28, 29, 30, 31, 32, 33, 34, 35, 36, 37, 38] rfl mixed (by kernel_rfl) (⟨fun _ => up_eq _, fun _ => up_eq _, trivial⟩) ?_
          refine L_p (fPtr x5 0) rfl rfl (P_fieldAddr at_87_0 rfl (OB.ptr b2324)) ?_
          refine L_ld (c := .int .i64 ((o0).Colour)) rfl rfl .plain (fun _ _ h => ⟨h.ch, fun b hb _ => h.below.block b hb⟩) q8 rfl ?_
          refine L_do (φ := fun v g w => v = .bool (z4)) rfl rfl .plain (fun g w hd => D_call (g := g) (vs := [.int .i64 ((o0).Colour), .int .i64 (0), .int .i64 (9)]) en59 (.cons rfl (.cons rfl (.cons rfl .nil))) (wk59  r8) fun g' w' v hs hr => ⟨g', hs, hr⟩) (fun iA hv => ?_)
          obtain ⟨_, _, _, rfl⟩ := hv
          refine L_p (.bool (!z4)) rfl rfl (P_not rfl) ?_
          refine L_p (.bool (!z4)) rfl rfl (P_move rfl) ?_
          refine L_y (fPtr x5 1) rfl rfl rfl rfl z3 (P_fieldAddr at_87_1 rfl (OB.ptr b2324)) ?_
          refine L_ld (c := .int .i64 ((o0).Side)) rfl rfl (.yes2 rfl rfl z3) (fun _ _ h => ⟨h.ch, fun b hb _ => h.below.block b hb⟩) k9 rfl ?_
          refine L_do (φ := fun v g w => v = .bool (i5)) rfl rfl (.yes2 rfl rfl z3) (fun g w hd => D_call (g := g) (vs := [.int .i64 ((o0).Side), .int .i64 (0), .int .i64 (1)]) en59 (.cons rfl (.cons rfl (.cons rfl .nil))) (wk59  l9) fun g' w' v hs hr => ⟨g', hs, hr⟩) (fun kC hv => ?_)
          obtain ⟨_, _, _, rfl⟩ := hv
          refine L_y (.bool (!i5)) rfl rfl rfl rfl z3 (P_not rfl) ?_
          refine L_p (.bool (!i5)) rfl rfl (P_pick (b := (!z4)) rfl (pick_f z3 rfl)) ?_
          refine L_p (.bool (!i5)) rfl rfl (P_move rfl) ?_
          iterate 11 refine L_s rfl rfl rfl j1 rfl ?_
          refine L_p (.bool true) rfl rfl (P_pick (b := (!i5)) rfl (pick_t j1 rfl)) ?_
          refine L_dead (fun _ => rfl) 16 rfl ?_
          refine L_nl fun dJ oN hs => ?_
          have hfr := hfr.ext hs
          have j3 := j3.ext hs
          clear hs
          refine EL_nil ?_
          obtain rfl := sinj h
          exact hQ _ _ ⟨dJ, hfr, c7, j3, v7, rfl⟩
         ·refine L_loadO (x := .tmp 71) part_BoxShuttle_2.1 Try.isAgg3 Try.sizeOf3 b2324 fun pN eJ oA => ?_
          obtain rfl := RV_int.1 eJ
          have gJ := PT_field (part_BoxLoom_0).1 j3
          refine L_load (x := .tmp 73) Try.isAgg22 Try.sizeOf22 gJ fun v8 jA pA => ?_
          refine L_loadO (x := .tmp 75) part_BoxShuttle_1.1 Try.isAgg3 Try.sizeOf3 b2324 fun qN iJ qA => ?_
          obtain rfl := RV_int.1 iJ
          obtain ⟨g7, n9, h⟩ := bsome h
          have jJ := PT_idx jA n9
          refine L_load (x := .tmp 77) Try.isAgg3 Try.sizeOf3 jJ fun rN kJ rA => ?_
          obtain rfl := RV_int.1 kJ
          obtain ⟨v6, uA, h⟩ := bsome h
          rcases csome h with ⟨t5, h⟩ | ⟨t5, h⟩
          ·refine E_drawL (g := i9) (n := 39) [(2, (fun v g w => v = .bool (z4))), (7, (fun v g w => v = .bool (i5))), (20, (fun v g w => v = .bool (v6)))] [0, 1, 2, 3, 4, 5, 6, 7, 8, 9, 10, 11, 12, 13, 14, 15, 16, 17, 18, 19, 20, 21, 22, 23, 24, 25, 26, 27, 28, 29, 30, 31, 32, 33, 34, 35, 36, 37, 38] rfl mixed (by kernel_rfl) (⟨fun _ => up_eq _, fun _ => up_eq _, fun _ => up_eq _, trivial⟩) ?_
           refine L_p (fPtr x5 0) rfl rfl (P_fieldAddr at_87_0 rfl (OB.ptr b2324)) ?_
           refine L_ld (c := .int .i64 ((o0).Colour)) rfl rfl .plain (fun _ _ h => ⟨h.ch, fun b hb _ => h.below.block b hb⟩) q8 rfl ?_
           refine L_do (φ := fun v g w => v = .bool (z4)) rfl rfl .plain (fun g w hd => D_call (g := g) (vs := [.int .i64 ((o0).Colour), .int .i64 (0), .int .i64 (9)]) en59 (.cons rfl (.cons rfl (.cons rfl .nil))) (wk59  r8) fun g' w' v hs hr => ⟨g', hs, hr⟩) (fun iA hv => ?_)
           obtain ⟨_, _, _, rfl⟩ := hv
           refine L_p (.bool (!z4)) rfl rfl (P_not rfl) ?_
           refine L_p (.bool (!z4)) rfl rfl (P_move rfl) ?_
           refine L_y (fPtr x5 1) rfl rfl rfl rfl z3 (P_fieldAddr at_87_1 rfl (OB.ptr b2324)) ?_
           refine L_ld (c := .int .i64 ((o0).Side)) rfl rfl (.yes2 rfl rfl z3) (fun _ _ h => ⟨h.ch, fun b hb _ => h.below.block b hb⟩) k9 rfl ?_
           refine L_do (φ := fun v g w => v = .bool (i5)) rfl rfl (.yes2 rfl rfl z3) (fun g w hd => D_call (g := g) (vs := [.int .i64 ((o0).Side), .int .i64 (0), .int .i64 (1)]) en59 (.cons rfl (.cons rfl (.cons rfl .nil))) (wk59  l9) fun g' w' v hs hr => ⟨g', hs, hr⟩) (fun kC hv => ?_)
           obtain ⟨_, _, _, rfl⟩ := hv
           refine L_y (.bool (!i5)) rfl rfl rfl rfl z3 (P_not rfl) ?_
           refine L_p (.bool (!i5)) rfl rfl (P_pick (b := (!z4)) rfl (pick_f z3 rfl)) ?_
           refine L_p (.bool (!i5)) rfl rfl (P_move rfl) ?_
           refine L_y (fPtr x5 2) rfl rfl rfl rfl j1 (P_fieldAddr at_87_2 rfl (OB.ptr b2324)) ?_
           refine L_ld (c := .int .i64 ((o0).Box)) rfl rfl (.yes2 rfl rfl j1) (fun _ _ h => ⟨h.ch, fun b hb _ => h.below.block b hb⟩) oA rfl ?_
           refine L_y (fPtr p1 0) rfl rfl rfl rfl j1 (P_fieldAddr at_25_0 c7 (PT.ptr j3)) ?_
           refine L_ld (c := v8) rfl rfl (.yes2 rfl rfl j1) (fun _ _ h => h.ch) pA rfl ?_
           refine L_y (fPtr x5 1) rfl rfl rfl rfl j1 (P_fieldAddr at_87_1 rfl (OB.ptr b2324)) ?_
           refine L_ld (c := .int .i64 ((o0).Side)) rfl rfl (.yes2 rfl rfl j1) (fun _ _ h => ⟨h.ch, fun b hb _ => h.below.block b hb⟩) qA rfl ?_
           refine L_y (ePtr v8 (o0).Side 1) rfl rfl rfl rfl j1 (P_indexAddr (α := Int) Try.underlying22 Try.sizeOf3 rfl jA rfl n9) ?_
           refine L_ld (c := .int .i64 (g7)) rfl rfl (.yes2 rfl rfl j1) (fun _ _ h => h.ch) rA rfl ?_
           refine L_y (.int .i64 ((w64 (g7 - (1 : Int))))) rfl rfl rfl rfl j1 (P_int rfl rfl rfl) ?_
           refine L_do (φ := fun v g w => v = .bool (v6)) rfl rfl (.yes2 rfl rfl j1) (fun g w hd => D_call (g := g) (vs := [.int .i64 ((o0).Box), .int .i64 (0), .int .i64 ((w64 (g7 - (1 : Int))))]) en59 (.cons rfl (.cons rfl (.cons rfl .nil))) (wk59  uA) fun g' w' v hs hr => ⟨g', hs, hr⟩) (fun sE hv => ?_)
           obtain ⟨_, _, _, rfl⟩ := hv
           refine L_y (.bool (!v6)) rfl rfl rfl rfl j1 (P_not rfl) ?_
           refine L_p (.bool (!v6)) rfl rfl (P_pick (b := (!i5)) rfl (pick_f j1 rfl)) ?_
           refine L_p (.bool (!v6)) rfl rfl (P_move rfl) ?_
           iterate 8 refine L_s rfl rfl rfl t5 rfl ?_
           refine L_p (.bool true) rfl rfl (P_pick (b := (!v6)) rfl (pick_t t5 rfl)) ?_
           refine L_dead (fun _ => rfl) 6 rfl ?_
           refine L_nl fun lJ sN hs => ?_
           have hfr := hfr.ext hs
           have j3 := j3.ext hs
           clear hs
           refine EL_nil ?_
           obtain rfl := sinj h
           exact hQ _ _ ⟨lJ, hfr, c7, j3, v7, rfl⟩
          ·refine L_loadO (x := .tmp 85) (SubS.comp part_BoxShuttle_3 part_Span_0 rfl).1 Try.isAgg3 Try.sizeOf3 b2324 fun tN mJ gD => ?_
           obtain rfl := RV_int.1 mJ
           refine L_loadO (x := .tmp 88) (SubS.comp part_BoxShuttle_3 part_Span_1 rfl).1 Try.isAgg3 Try.sizeOf3 b2324 fun uN nJ iD => ?_
           obtain rfl := RV_int.1 nJ
           obtain ⟨b7, jD, h⟩ := bsome h
           rcases csome h with ⟨o7, h⟩ | ⟨o7, h⟩
           ·refine E_drawL (g := i9) (n := 39) [(2, (fun v g w => v = .bool (z4))), (7, (fun v g w => v = .bool (i5))), (20, (fun v g w => v = .bool (v6))), (30, (fun v g w => v = .bool (b7)))] [0, 1, 2, 3, 4, 5, 6, 7, 8, 9, 10, 11, 12, 13, 14, 15, 16, 17, 18, 19, 20, 21, 22, 23, 24, 25, 26, 27, 28, 29, 30, 31, 32, 33, 34, 35, 36, 37, 38] rfl mixed (by kernel_rfl) (⟨fun _ => up_eq _, fun _ => up_eq _, fun _ => up_eq _, fun _ => up_eq _, trivial⟩) ?_
            refine L_p (fPtr x5 0) rfl rfl (P_fieldAddr at_87_0 rfl (OB.ptr b2324)) ?_
            refine L_ld (c := .int .i64 ((o0).Colour)) rfl rfl .plain (fun _ _ h => ⟨h.ch, fun b hb _ => h.below.block b hb⟩) q8 rfl ?_
            refine L_do (φ := fun v g w => v = .bool (z4)) rfl rfl .plain (fun g w hd => D_call (g := g) (vs := [.int .i64 ((o0).Colour), .int .i64 (0), .int .i64 (9)]) en59 (.cons rfl (.cons rfl (.cons rfl .nil))) (wk59  r8) fun g' w' v hs hr => ⟨g', hs, hr⟩) (fun iA hv => ?_)
            obtain ⟨_, _, _, rfl⟩ := hv
            refine L_p (.bool (!z4)) rfl rfl (P_not rfl) ?_
            refine L_p (.bool (!z4)) rfl rfl (P_move rfl) ?_
            refine L_y (fPtr x5 1) rfl rfl rfl rfl z3 (P_fieldAddr at_87_1 rfl (OB.ptr b2324)) ?_
            refine L_ld (c := .int .i64 ((o0).Side)) rfl rfl (.yes2 rfl rfl z3) (fun _ _ h => ⟨h.ch, fun b hb _ => h.below.block b hb⟩) k9 rfl ?_
            refine L_do (φ := fun v g w => v = .bool (i5)) rfl rfl (.yes2 rfl rfl z3) (fun g w hd => D_call (g := g) (vs := [.int .i64 ((o0).Side), .int .i64 (0), .int .i64 (1)]) en59 (.cons rfl (.cons rfl (.cons rfl .nil))) (wk59  l9) fun g' w' v hs hr => ⟨g', hs, hr⟩) (fun kC hv => ?_)
            obtain ⟨_, _, _, rfl⟩ := hv
            refine L_y (.bool (!i5)) rfl rfl rfl rfl z3 (P_not rfl) ?_
            refine L_p (.bool (!i5)) rfl rfl (P_pick (b := (!z4)) rfl (pick_f z3 rfl)) ?_
            refine L_p (.bool (!i5)) rfl rfl (P_move rfl) ?_
            refine L_y (fPtr x5 2) rfl rfl rfl rfl j1 (P_fieldAddr at_87_2 rfl (OB.ptr b2324)) ?_
            refine L_ld (c := .int .i64 ((o0).Box)) rfl rfl (.yes2 rfl rfl j1) (fun _ _ h => ⟨h.ch, fun b hb _ => h.below.block b hb⟩) oA rfl ?_
            refine L_y (fPtr p1 0) rfl rfl rfl rfl j1 (P_fieldAddr at_25_0 c7 (PT.ptr j3)) ?_
            refine L_ld (c := v8) rfl rfl (.yes2 rfl rfl j1) (fun _ _ h => h.ch) pA rfl ?_
            refine L_y (fPtr x5 1) rfl rfl rfl rfl j1 (P_fieldAddr at_87_1 rfl (OB.ptr b2324)) ?_
            refine L_ld (c := .int .i64 ((o0).Side)) rfl rfl (.yes2 rfl rfl j1) (fun _ _ h => ⟨h.ch, fun b hb _ => h.below.block b hb⟩) qA rfl ?_
            refine L_y (ePtr v8 (o0).Side 1) rfl rfl rfl rfl j1 (P_indexAddr (α := Int) Try.underlying22 Try.sizeOf3 rfl jA rfl n9) ?_
            refine L_ld (c := .int .i64 (g7)) rfl rfl (.yes2 rfl rfl j1) (fun _ _ h => h.ch) rA rfl ?_
            refine L_y (.int .i64 ((w64 (g7 - (1 : Int))))) rfl rfl rfl rfl j1 (P_int rfl rfl rfl) ?_
            refine L_do (φ := fun v g w => v = .bool (v6)) rfl rfl (.yes2 rfl rfl j1) (fun g w hd => D_call (g := g) (vs := [.int .i64 ((o0).Box), .int .i64 (0), .int .i64 ((w64 (g7 - (1 : Int))))]) en59 (.cons rfl (.cons rfl (.cons rfl .nil))) (wk59  uA) fun g' w' v hs hr => ⟨g', hs, hr⟩) (fun sE hv => ?_)
            obtain ⟨_, _, _, rfl⟩ := hv
            refine L_y (.bool (!v6)) rfl rfl rfl rfl j1 (P_not rfl) ?_
            refine L_p (.bool (!v6)) rfl rfl (P_pick (b := (!i5)) rfl (pick_f j1 rfl)) ?_
            refine L_p (.bool (!v6)) rfl rfl (P_move rfl) ?_
            refine L_y (fPtr x5 3) rfl rfl rfl rfl t5 (P_fieldAddr at_87_3 rfl (OB.ptr b2324)) ?_
            refine L_y (fPtr x5 3) rfl rfl rfl rfl t5 (P_fieldAddr2 (o1 := 3) rfl at_85_0 rfl (OB.ptr b2324)) ?_
            refine L_ld (c := .int .i64 (((o0).Yarn).Low)) rfl rfl (.yes2 rfl rfl t5) (fun _ _ h => ⟨h.ch, fun b hb _ => h.below.block b hb⟩) gD rfl ?_
            refine L_y (fPtr x5 3) rfl rfl rfl rfl t5 (P_fieldAddr at_87_3 rfl (OB.ptr b2324)) ?_
            refine L_y (fPtr x5 4) rfl rfl rfl rfl t5 (P_fieldAddr2 (o1 := 3) rfl at_85_1 rfl (OB.ptr b2324)) ?_
            refine L_ld (c := .int .i64 (((o0).Yarn).High)) rfl rfl (.yes2 rfl rfl t5) (fun _ _ h => ⟨h.ch, fun b hb _ => h.below.block b hb⟩) iD rfl ?_
            refine L_do (φ := fun v g w => v = .bool (b7)) rfl rfl (.yes2 rfl rfl t5) (fun g w hd => D_call (g := g) (vs := [.int .i64 (((o0).Yarn).Low), .int .i64 (0), .int .i64 (((o0).Yarn).High)]) en59 (.cons rfl (.cons rfl (.cons rfl .nil))) (wk59  jD) fun g' w' v hs hr => ⟨g', hs, hr⟩) (fun oJ hv => ?_)
            obtain ⟨_, _, _, rfl⟩ := hv
            refine L_y (.bool (!b7)) rfl rfl rfl rfl t5 (P_not rfl) ?_
            refine L_p (.bool (!b7)) rfl rfl (P_pick (b := (!v6)) rfl (pick_f t5 rfl)) ?_
            refine L_p (.bool (!b7)) rfl rfl (P_move rfl) ?_
            iterate 4 refine L_s rfl rfl rfl o7 rfl ?_
            refine L_p (.bool true) rfl rfl (P_pick (b := (!b7)) rfl (pick_t o7 rfl)) ?_
            refine L_nl fun pJ vN hs => ?_
            have hfr := hfr.ext hs
            have j3 := j3.ext hs
            clear hs
            refine EL_nil ?_
            obtain rfl := sinj h
            exact hQ _ _ ⟨pJ, hfr, c7, j3, v7, rfl⟩
           ·refine L_loadO (x := .tmp 95) (SubS.comp part_BoxShuttle_3 part_Span_1 rfl).1 Try.isAgg3 Try.sizeOf3 b2324 fun xN qJ kH => ?_
            obtain rfl := RV_int.1 qJ
            refine E_drawL (g := i9) (n := 39) [(2, (fun v g w => v = .bool (z4))), (7, (fun v g w => v = .bool (i5))), (20, (fun v g w => v = .bool (v6))), (30, (fun v g w => v = .bool (b7)))] [0, 1, 2, 3, 4, 5, 6, 7, 8, 9, 10, 11, 12, 13, 14, 15, 16, 17, 18, 19, 20, 21, 22, 23, 24, 25, 26, 27, 28, 29, 30, 31, 32, 33, 34, 35, 36, 37, 38] rfl mixed (by kernel_rfl) (⟨fun _ => up_eq _, fun _ => up_eq _, fun _ => up_eq _, fun _ => up_eq _, trivial⟩) ?_
            refine L_p (fPtr x5 0) rfl rfl (P_fieldAddr at_87_0 rfl (OB.ptr b2324)) ?_
            refine L_ld (c := .int .i64 ((o0).Colour)) rfl rfl .plain (fun _ _ h => ⟨h.ch, fun b hb _ => h.below.block b hb⟩) q8 rfl ?_
            refine L_do (φ := fun v g w => v = .bool (z4)) rfl rfl .plain (fun g w hd => D_call (g := g) (vs := [.int .i64 ((o0).Colour), .int .i64 (0), .int .i64 (9)]) en59 (.cons rfl (.cons rfl (.cons rfl .nil))) (wk59  r8) fun g' w' v hs hr => ⟨g', hs, hr⟩) (fun iA hv => ?_)
            obtain ⟨_, _, _, rfl⟩ := hv
            refine L_p (.bool (!z4)) rfl rfl (P_not rfl) ?_
            refine L_p (.bool (!z4)) rfl rfl (P_move rfl) ?_
            refine L_y (fPtr x5 1) rfl rfl rfl rfl z3 (P_fieldAddr at_87_1 rfl (OB.ptr b2324)) ?_
            refine L_ld (c := .int .i64 ((o0).Side)) rfl rfl (.yes2 rfl rfl z3) (fun _ _ h => ⟨h.ch, fun b hb _ => h.below.block b hb⟩) k9 rfl ?_
            refine L_do (φ := fun v g w => v = .bool (i5)) rfl rfl (.yes2 rfl rfl z3) (fun g w hd => D_call (g := g) (vs := [.int .i64 ((o0).Side), .int .i64 (0), .int .i64 (1)]) en59 (.cons rfl (.cons rfl (.cons rfl .nil))) (wk59  l9) fun g' w' v hs hr => ⟨g', hs, hr⟩) (fun kC hv => ?_)
            obtain ⟨_, _, _, rfl⟩ := hv
            refine L_y (.bool (!i5)) rfl rfl rfl rfl z3 (P_not rfl) ?_
            refine L_p (.bool (!i5)) rfl rfl (P_pick (b := (!z4)) rfl (pick_f z3 rfl)) ?_
            refine L_p (.bool (!i5)) rfl rfl (P_move rfl) ?_
            refine L_y (fPtr x5 2) rfl rfl rfl rfl j1 (P_fieldAddr at_87_2 rfl (OB.ptr b2324)) ?_
            refine L_ld (c := .int .i64 ((o0).Box)) rfl rfl (.yes2 rfl rfl j1) (fun _ _ h => ⟨h.ch, fun b hb _ => h.below.block b hb⟩) oA rfl ?_
            refine L_y (fPtr p1 0) rfl rfl rfl rfl j1 (P_fieldAddr at_25_0 c7 (PT.ptr j3)) ?_
            refine L_ld (c := v8) rfl rfl (.yes2 rfl rfl j1) (fun _ _ h => h.ch) pA rfl ?_
            refine L_y (fPtr x5 1) rfl rfl rfl rfl j1 (P_fieldAddr at_87_1 rfl (OB.ptr b2324)) ?_
            refine L_ld (c := .int .i64 ((o0).Side)) rfl rfl (.yes2 rfl rfl j1) (fun _ _ h => ⟨h.ch, fun b hb _ => h.below.block b hb⟩) qA rfl ?_
            refine L_y (ePtr v8 (o0).Side 1) rfl rfl rfl rfl j1 (P_indexAddr (α := Int) Try.underlying22 Try.sizeOf3 rfl jA rfl n9) ?_
            refine L_ld (c := .int .i64 (g7)) rfl rfl (.yes2 rfl rfl j1) (fun _ _ h => h.ch) rA rfl ?_
            refine L_y (.int .i64 ((w64 (g7 - (1 : Int))))) rfl rfl rfl rfl j1 (P_int rfl rfl rfl) ?_
            refine L_do (φ := fun v g w => v = .bool (v6)) rfl rfl (.yes2 rfl rfl j1) (fun g w hd => D_call (g := g) (vs := [.int .i64 ((o0).Box), .int .i64 (0), .int .i64 ((w64 (g7 - (1 : Int))))]) en59 (.cons rfl (.cons rfl (.cons rfl .nil))) (wk59  uA) fun g' w' v hs hr => ⟨g', hs, hr⟩) (fun sE hv => ?_)
            obtain ⟨_, _, _, rfl⟩ := hv
            refine L_y (.bool (!v6)) rfl rfl rfl rfl j1 (P_not rfl) ?_
            refine L_p (.bool (!v6)) rfl rfl (P_pick (b := (!i5)) rfl (pick_f j1 rfl)) ?_
            refine L_p (.bool (!v6)) rfl rfl (P_move rfl) ?_
            refine L_y (fPtr x5 3) rfl rfl rfl rfl t5 (P_fieldAddr at_87_3 rfl (OB.ptr b2324)) ?_
            refine L_y (fPtr x5 3) rfl rfl rfl rfl t5 (P_fieldAddr2 (o1 := 3) rfl at_85_0 rfl (OB.ptr b2324)) ?_
            refine L_ld (c := .int .i64 (((o0).Yarn).Low)) rfl rfl (.yes2 rfl rfl t5) (fun _ _ h => ⟨h.ch, fun b hb _ => h.below.block b hb⟩) gD rfl ?_
            refine L_y (fPtr x5 3) rfl rfl rfl rfl t5 (P_fieldAddr at_87_3 rfl (OB.ptr b2324)) ?_
            refine L_y (fPtr x5 4) rfl rfl rfl rfl t5 (P_fieldAddr2 (o1 := 3) rfl at_85_1 rfl (OB.ptr b2324)) ?_
            refine L_ld (c := .int .i64 (((o0).Yarn).High)) rfl rfl (.yes2 rfl rfl t5) (fun _ _ h => ⟨h.ch, fun b hb _ => h.below.block b hb⟩) iD rfl ?_
            refine L_do (φ := fun v g w => v = .bool (b7)) rfl rfl (.yes2 rfl rfl t5) (fun g w hd => D_call (g := g) (vs := [.int .i64 (((o0).Yarn).Low), .int .i64 (0), .int .i64 (((o0).Yarn).High)]) en59 (.cons rfl (.cons rfl (.cons rfl .nil))) (wk59  jD) fun g' w' v hs hr => ⟨g', hs, hr⟩) (fun oJ hv => ?_)
            obtain ⟨_, _, _, rfl⟩ := hv
            refine L_y (.bool (!b7)) rfl rfl rfl rfl t5 (P_not rfl) ?_
            refine L_p (.bool (!b7)) rfl rfl (P_pick (b := (!v6)) rfl (pick_f t5 rfl)) ?_
            refine L_p (.bool (!b7)) rfl rfl (P_move rfl) ?_
            refine L_y (fPtr x5 3) rfl rfl rfl rfl o7 (P_fieldAddr at_87_3 rfl (OB.ptr b2324)) ?_
            refine L_y (fPtr x5 4) rfl rfl rfl rfl o7 (P_fieldAddr2 (o1 := 3) rfl at_85_1 rfl (OB.ptr b2324)) ?_
            refine L_ld (c := .int .i64 (((o0).Yarn).High)) rfl rfl (.yes2 rfl rfl o7) (fun _ _ h => ⟨h.ch, fun b hb _ => h.below.block b hb⟩) kH rfl ?_
            refine L_y (.bool ((decide (((o0).Yarn).High > (1000 : Int))))) rfl rfl rfl rfl o7 (P_int rfl rfl rfl) ?_
            refine L_p (.bool ((decide (((o0).Yarn).High > (1000 : Int))))) rfl rfl (P_pick (b := (!b7)) rfl (pick_f o7 rfl)) ?_
            refine L_nl fun rJ yN hs => ?_
            have hfr := hfr.ext hs
            have j3 := j3.ext hs
            clear hs
            refine EL_nil ?_
            obtain rfl := sinj h
            exact hQ _ _ ⟨rJ, hfr, c7, j3, v7, rfl⟩
       ·clear hx
        obtain ⟨sJ, hfr, dF, eF, iF, xA⟩ := hR
        rcases csome h with ⟨yA, h⟩ | ⟨yA, h⟩
        ·refine E_cond_true (Eq.trans (show ev _ _ = .bool (c8) from xA) (congrArg Value.bool yA)) ?_
         refine E_seq (E_region (EL_at (.int .i64 (2)) rfl rfl ?_))
         refine EL_nil (thn_n (E_ret (blk_r ?_)))
         refine thn_r ?_
         refine thn_r ?_
         refine blk_r ?_
         refine thn_r ?_
         obtain rfl := sinj h
         exact end1 rfl rfl (show _ = .int .i64 (2) from rfl) ⟨_, hfr, rfl⟩
        ·refine E_cond_false (Eq.trans (show ev _ _ = .bool (c8) from xA) (congrArg Value.bool yA)) ?_
         exact E_skip (blk_n (thn_n (jH () _ _ ⟨sJ, hfr, dF, eF, iF⟩ h)))
      ·rintro _ jM zN ⟨tJ, hfr, nF, oF, pF⟩ h
       refine E_region (EL_mv pF rfl ?_)
       refine EL_in (.int .i64 ((w64 (x6 + (1 : Int))))) rfl rfl rfl rfl ?_
       refine EL_at (.int .i64 ((w64 (x6 + (1 : Int))))) rfl rfl ?_
       exact EL_nil (thn_n (gH ((w64 (x6 + (1 : Int)))) _ _ ⟨tJ, hfr, nF, oF, rfl⟩ h))
    ·rintro _ kM aO ⟨tE, hfr, lB, y9⟩ h
     refine E_joinC h (fun (s : Unit) e w => ∃ (g : Gh) , Fr gI wI g w ∧ e 1 = p1 ∧ PT g.m w (x0 : BoxLoom) p1) (fun X2880 dE lH h => ?_) ?_
     ·refine E_seq (E_region (EL_p (fPtr p1 2) (P_fieldAddr at_25_2 lB (PT.ptr y9)) rfl ?_))
      have uJ := PT_field (part_BoxLoom_2).1 y9
      refine EL_do .plain rfl (D_load (g := tE) Try.isAgg23 Try.sizeOf23 rfl uJ fun bO vJ => ?_)
      refine EL_p (.int .i64 (((x0).Shuttles).length : Int)) (P_len Try.underlying23 rfl vJ) rfl ?_
      refine EL_in (.bool (((((x0).Shuttles).length : Int) == (0 : Int)))) rfl rfl rfl rfl ?_
      refine EL_nil (thn_n ?_)
      rcases csome h with ⟨zA, h⟩ | ⟨zA, h⟩
      ·refine E_ct zA rfl ?_
       refine E_seq (E_region (EL_at (.int .i64 (2)) rfl rfl ?_))
       refine EL_nil (thn_n (E_ret (thn_r ?_)))
       obtain rfl := sinj h
       exact end1 rfl rfl (show _ = .int .i64 (2) from rfl) ⟨_, hfr, rfl⟩
      ·refine E_cf zA rfl ?_
       exact E_skip (thn_n (lH () _ _ ⟨tE, hfr, lB, y9⟩ h))
     ·rintro _ mM cO ⟨xJ, hfr, qF, rF⟩ h
      refine E_joinC h (fun (s : Unit) e w => ∃ (g : Gh) , Fr gI wI g w) (fun X3633 vD mH h => ?_) ?_
      ·refine E_seq (E_region (EL_at (.int .i64 (0)) rfl rfl ?_))
       refine EL_nil (thn_n (E_block ?_))
       refine E_lp h (fun (s : Int) e w => ∃ (g : Gh) , Fr gI wI g w ∧ e 1 = p1 ∧ PT g.m w (x0 : BoxLoom) p1 ∧ e 6 = .int .i64 (s)) ⟨xJ, hfr, qF, rF, rfl⟩ (fun X3634 xD nH => ?_)
       rintro i3 nM dO ⟨lC, hfr, mB, z9, nB⟩ h
       refine E_joinC h (fun (s : Unit) e w => ∃ (g : Gh) , Fr gI wI g w ∧ e 1 = p1 ∧ PT g.m w (x0 : BoxLoom) p1 ∧ e 6 = .int .i64 (i3)) (fun X3639 cE oH h => ?_) ?_
       ·refine E_seq (E_region (EL_mv nB rfl ?_))
        refine EL_p (fPtr p1 2) (P_fieldAddr at_25_2 mB (PT.ptr z9)) rfl ?_
        have yJ := PT_field (part_BoxLoom_2).1 z9
        refine EL_do .plain rfl (D_load (g := lC) Try.isAgg23 Try.sizeOf23 rfl yJ fun eO zJ => ?_)
        refine EL_p (.int .i64 (((x0).Shuttles).length : Int)) (P_len Try.underlying23 rfl zJ) rfl ?_
        refine EL_p (.bool ((decide (i3 < (((x0).Shuttles).length : Int))))) (P_int rfl rfl rfl) rfl ?_
        refine EL_nil (thn_n ?_)
        rcases csome h with ⟨aB, h⟩ | ⟨aB, h⟩
        ·refine E_ct aB rfl ?_
         exact E_skip (thn_n (oH () _ _ ⟨lC, hfr, mB, z9, nB⟩ h))
        ·refine E_cf aB rfl ?_
         refine E_exit ?_
         refine thn_e ?_
         refine thn_e ?_
         refine blk_hit ?_
         exact thn_n (mH () _ _ ⟨lC, hfr⟩ h)
       ·rintro _ oM gO ⟨aK, hfr, sF, tF, uF⟩ h
        refine E_joinC h (fun (s : Unit) e w => ∃ (g : Gh) , Fr gI wI g w ∧ e 1 = p1 ∧ PT g.m w (x0 : BoxLoom) p1 ∧ e 6 = .int .i64 (i3)) (fun X4012 yD pH h => ?_) ?_
        ·refine E_block ?_
         refine E_seq (E_region (EL_at (.int .i64 (0)) rfl rfl ?_))
         refine EL_nil (thn_n (E_block ?_))
         refine E_lp h (fun (s : Int) e w => ∃ (g : Gh) , Fr gI wI g w ∧ e 1 = p1 ∧ PT g.m w (x0 : BoxLoom) p1 ∧ e 6 = .int .i64 (i3) ∧ e 7 = .int .i64 (s)) ⟨aK, hfr, sF, tF, uF, rfl⟩ (fun X4013 zD qH => ?_)
         rintro u3 pM iO ⟨uE, hfr, oB, tB, bA, vB⟩ h
         refine E_joinC h (fun (s : Unit) e w => ∃ (g : Gh) , Fr gI wI g w ∧ e 1 = p1 ∧ PT g.m w (x0 : BoxLoom) p1 ∧ e 6 = .int .i64 (i3) ∧ e 7 = .int .i64 (u3)) (fun X4016 bE sH h => ?_) ?_
         ·refine E_seq (E_region (EL_mv vB rfl ?_))
          refine EL_mv bA rfl ?_
          refine EL_in (.bool ((decide (u3 < i3)))) rfl rfl rfl rfl ?_
          refine EL_nil (thn_n ?_)
          rcases csome h with ⟨bB, h⟩ | ⟨bB, h⟩
          ·refine E_ct bB rfl ?_
           exact E_skip (thn_n (sH () _ _ ⟨uE, hfr, oB, tB, bA, vB⟩ h))
          ·refine E_cf bB rfl ?_
           refine E_exit ?_
           refine thn_e ?_
           refine thn_e ?_
           refine blk_hit ?_
           exact blk_n (thn_n (pH () _ _ ⟨uE, hfr, oB, tB, bA⟩ h))
         ·rintro _ qM jO ⟨vE, hfr, d7, i6, l8, m8⟩ h
          refine E_joinC h (fun (s : Unit) e w => ∃ (g : Gh) , Fr gI wI g w ∧ e 1 = p1 ∧ PT g.m w (x0 : BoxLoom) p1 ∧ e 6 = .int .i64 (i3) ∧ e 7 = .int .i64 (u3)) (fun X4199 aE tH h => ?_) ?_
          ·refine E_block ?_
           obtain ⟨m7, hx, h⟩ := bsome h
           refine E_join (fun e w => ∃ (g : Gh) , Fr gI wI g w ∧ e 1 = p1 ∧ PT g.m w (x0 : BoxLoom) p1 ∧ e 6 = .int .i64 (i3) ∧ e 7 = .int .i64 (u3) ∧ e 142 = .bool (m7)) (fun Q' hQ => ?_) (fun rM kO hR => ?_)
           ·replace h := hx
            clear hx
            have bK := PT_field (part_BoxLoom_2).1 i6
            refine L_load (x := .tmp 115) Try.isAgg23 Try.sizeOf23 bK fun x8 mC kD => ?_
            obtain ⟨i7, cB, h⟩ := bsome h
            have qC := PT_idx mC cB
            have cK := PT_field (part_BoxShuttle_1).1 qC
            refine L_load (x := .tmp 119) Try.isAgg3 Try.sizeOf3 cK fun lO dK lD => ?_
            obtain rfl := RV_int.1 dK
            have eK := PT_field (part_BoxLoom_2).1 i6
            refine L_load (x := .tmp 121) Try.isAgg23 Try.sizeOf23 eK fun y8 rC mD => ?_
            obtain ⟨j7, dB, h⟩ := bsome h
            have tC := PT_idx rC dB
            have lK := PT_field (part_BoxShuttle_1).1 tC
            refine L_load (x := .tmp 125) Try.isAgg3 Try.sizeOf3 lK fun mO mK nD => ?_
            obtain rfl := RV_int.1 mK
            rcases csome h with ⟨j6, h⟩ | ⟨j6, h⟩
            ·have nK := PT_field (part_BoxLoom_2).1 i6
             refine L_load (x := .tmp 129) Try.isAgg23 Try.sizeOf23 nK fun uC xE uH => ?_
             obtain ⟨a9, oD, h⟩ := bsome h
             have yE := PT_idx xE oD
             have oK := PT_field (part_BoxShuttle_2).1 yE
             refine L_load (x := .tmp 133) Try.isAgg3 Try.sizeOf3 oK fun nO pK vH => ?_
             obtain rfl := RV_int.1 pK
             have qK := PT_field (part_BoxLoom_2).1 i6
             refine L_load (x := .tmp 135) Try.isAgg23 Try.sizeOf23 qK fun vC zE xH => ?_
             obtain ⟨d9, sD, h⟩ := bsome h
             have cF := PT_idx zE sD
             have sK := PT_field (part_BoxShuttle_2).1 cF
             refine L_load (x := .tmp 139) Try.isAgg3 Try.sizeOf3 sK fun oO tK yH => ?_
             obtain rfl := RV_int.1 tK
             refine E_drawL (g := vE) (n := 28) [] [0, 1, 2, 3, 4, 5, 6, 7, 8, 9, 10, 11, 12, 13, 14, 15, 16, 17, 18, 19, 20, 21, 22, 23, 24, 25, 26, 27] rfl mixed (by kernel_rfl) trivial ?_
             refine L_p (fPtr p1 2) rfl rfl (P_fieldAddr at_25_2 d7 (PT.ptr i6)) ?_
             refine L_ld (c := x8) rfl rfl .plain (fun _ _ h => h.ch) kD rfl ?_
             refine L_p (.int .i64 (i3)) rfl rfl (P_move l8) ?_
             refine L_p (ePtr x8 i3 5) rfl rfl (P_indexAddr (α := BoxShuttle) Try.underlying23 Try.sizeOf87 rfl mC rfl cB) ?_
             refine L_p (fPtr (ePtr x8 i3 5) 1) rfl rfl (P_fieldAddr at_87_1 rfl (PT.ptr qC)) ?_
             refine L_ld (c := .int .i64 ((i7).Side)) rfl rfl .plain (fun _ _ h => h.ch) lD rfl ?_
             refine L_p (fPtr p1 2) rfl rfl (P_fieldAddr at_25_2 d7 (PT.ptr i6)) ?_
             refine L_ld (c := y8) rfl rfl .plain (fun _ _ h => h.ch) mD rfl ?_
             refine L_p (.int .i64 (u3)) rfl rfl (P_move m8) ?_
             refine L_p (ePtr y8 u3 5) rfl rfl (P_indexAddr (α := BoxShuttle) Try.underlying23 Try.sizeOf87 rfl rC rfl dB) ?_
             refine L_p (fPtr (ePtr y8 u3 5) 1) rfl rfl (P_fieldAddr at_87_1 rfl (PT.ptr tC)) ?_
             refine L_ld (c := .int .i64 ((j7).Side)) rfl rfl .plain (fun _ _ h => h.ch) nD rfl ?_
             refine L_p (.bool (((i7).Side == (j7).Side))) rfl rfl (P_int rfl rfl rfl) ?_
             refine L_p (.bool (((i7).Side == (j7).Side))) rfl rfl (P_move rfl) ?_
             refine L_y (fPtr p1 2) rfl rfl rfl rfl j6 (P_fieldAddr at_25_2 d7 (PT.ptr i6)) ?_
             refine L_ld (c := uC) rfl rfl (.yes2 rfl rfl j6) (fun _ _ h => h.ch) uH rfl ?_
             refine L_y (.int .i64 (i3)) rfl rfl rfl rfl j6 (P_move l8) ?_
             refine L_y (ePtr uC i3 5) rfl rfl rfl rfl j6 (P_indexAddr (α := BoxShuttle) Try.underlying23 Try.sizeOf87 rfl xE rfl oD) ?_
             refine L_y (fPtr (ePtr uC i3 5) 2) rfl rfl rfl rfl j6 (P_fieldAddr at_87_2 rfl (PT.ptr yE)) ?_
             refine L_ld (c := .int .i64 ((a9).Box)) rfl rfl (.yes2 rfl rfl j6) (fun _ _ h => h.ch) vH rfl ?_
             refine L_y (fPtr p1 2) rfl rfl rfl rfl j6 (P_fieldAddr at_25_2 d7 (PT.ptr i6)) ?_
             refine L_ld (c := vC) rfl rfl (.yes2 rfl rfl j6) (fun _ _ h => h.ch) xH rfl ?_
             refine L_y (.int .i64 (u3)) rfl rfl rfl rfl j6 (P_move m8) ?_
             refine L_y (ePtr vC u3 5) rfl rfl rfl rfl j6 (P_indexAddr (α := BoxShuttle) Try.underlying23 Try.sizeOf87 rfl zE rfl sD) ?_
             refine L_y (fPtr (ePtr vC u3 5) 2) rfl rfl rfl rfl j6 (P_fieldAddr at_87_2 rfl (PT.ptr cF)) ?_
             refine L_ld (c := .int .i64 ((d9).Box)) rfl rfl (.yes2 rfl rfl j6) (fun _ _ h => h.ch) yH rfl ?_
             refine L_y (.bool (((a9).Box == (d9).Box))) rfl rfl rfl rfl j6 (P_int rfl rfl rfl) ?_
             refine L_p (.bool (((a9).Box == (d9).Box))) rfl rfl (P_pick (b := ((i7).Side == (j7).Side)) rfl (pick_t j6 rfl)) ?_
             refine L_nl fun uK pO hs => ?_
             have hfr := hfr.ext hs
             have i6 := i6.ext hs
             clear hs
             refine EL_nil ?_
             obtain rfl := sinj h
             exact hQ _ _ ⟨uK, hfr, d7, i6, l8, m8, rfl⟩
            ·refine E_drawL (g := vE) (n := 28) [] [0, 1, 2, 3, 4, 5, 6, 7, 8, 9, 10, 11, 12, 13, 14, 15, 16, 17, 18, 19, 20, 21, 22, 23, 24, 25, 26, 27] rfl mixed (by kernel_rfl) trivial ?_
             refine L_p (fPtr p1 2) rfl rfl (P_fieldAddr at_25_2 d7 (PT.ptr i6)) ?_
             refine L_ld (c := x8) rfl rfl .plain (fun _ _ h => h.ch) kD rfl ?_
             refine L_p (.int .i64 (i3)) rfl rfl (P_move l8) ?_
             refine L_p (ePtr x8 i3 5) rfl rfl (P_indexAddr (α := BoxShuttle) Try.underlying23 Try.sizeOf87 rfl mC rfl cB) ?_
             refine L_p (fPtr (ePtr x8 i3 5) 1) rfl rfl (P_fieldAddr at_87_1 rfl (PT.ptr qC)) ?_
             refine L_ld (c := .int .i64 ((i7).Side)) rfl rfl .plain (fun _ _ h => h.ch) lD rfl ?_
             refine L_p (fPtr p1 2) rfl rfl (P_fieldAddr at_25_2 d7 (PT.ptr i6)) ?_
             refine L_ld (c := y8) rfl rfl .plain (fun _ _ h => h.ch) mD rfl ?_
             refine L_p (.int .i64 (u3)) rfl rfl (P_move m8) ?_
             refine L_p (ePtr y8 u3 5) rfl rfl (P_indexAddr (α := BoxShuttle) Try.underlying23 Try.sizeOf87 rfl rC rfl dB) ?_
             refine L_p (fPtr (ePtr y8 u3 5) 1) rfl rfl (P_fieldAddr at_87_1 rfl (PT.ptr tC)) ?_
             refine L_ld (c := .int .i64 ((j7).Side)) rfl rfl .plain (fun _ _ h => h.ch) nD rfl ?_
             refine L_p (.bool (((i7).Side == (j7).Side))) rfl rfl (P_int rfl rfl rfl) ?_
             refine L_p (.bool (((i7).Side == (j7).Side))) rfl rfl (P_move rfl) ?_
             iterate 13 refine L_s rfl rfl rfl j6 rfl ?_
             refine L_p (.bool false) rfl rfl (P_pick (b := ((i7).Side == (j7).Side)) rfl (pick_f j6 rfl)) ?_
             refine L_nl fun vK qO hs => ?_
             have hfr := hfr.ext hs
             have i6 := i6.ext hs
             clear hs
             refine EL_nil ?_
             obtain rfl := sinj h
             exact hQ _ _ ⟨vK, hfr, d7, i6, l8, m8, rfl⟩
           ·clear hx
            obtain ⟨xK, hfr, vF, xF, yF, zF, gA⟩ := hR
            rcases csome h with ⟨eB, h⟩ | ⟨eB, h⟩
            ·refine E_cond_true (Eq.trans (show ev _ _ = .bool (m7) from gA) (congrArg Value.bool eB)) ?_
             refine E_seq (E_region (EL_at (.int .i64 (6)) rfl rfl ?_))
             refine EL_nil (thn_n (E_ret (blk_r ?_)))
             refine thn_r ?_
             refine thn_r ?_
             refine blk_r ?_
             refine blk_r ?_
             refine thn_r ?_
             refine thn_r ?_
             refine blk_r ?_
             refine thn_r ?_
             obtain rfl := sinj h
             exact end1 rfl rfl (show _ = .int .i64 (6) from rfl) ⟨_, hfr, rfl⟩
            ·refine E_cond_false (Eq.trans (show ev _ _ = .bool (m7) from gA) (congrArg Value.bool eB)) ?_
             exact E_skip (blk_n (thn_n (tH () _ _ ⟨xK, hfr, vF, xF, yF, zF⟩ h)))
          ·rintro _ sM rO ⟨yK, hfr, aG, bG, cG, dG⟩ h
           refine E_region (EL_mv dG rfl ?_)
           refine EL_in (.int .i64 ((w64 (u3 + (1 : Int))))) rfl rfl rfl rfl ?_
           refine EL_at (.int .i64 ((w64 (u3 + (1 : Int))))) rfl rfl ?_
           exact EL_nil (thn_n (qH ((w64 (u3 + (1 : Int)))) _ _ ⟨yK, hfr, aG, bG, cG, rfl⟩ h))
        ·rintro _ tM sO ⟨zK, hfr, eG, gG, hG⟩ h
         refine E_region (EL_mv hG rfl ?_)
         refine EL_in (.int .i64 ((w64 (i3 + (1 : Int))))) rfl rfl rfl rfl ?_
         refine EL_at (.int .i64 ((w64 (i3 + (1 : Int))))) rfl rfl ?_
         exact EL_nil (thn_n (nH ((w64 (i3 + (1 : Int)))) _ _ ⟨zK, hfr, eG, gG, rfl⟩ h))
      ·rintro _ uM tO ⟨uO, hfr⟩ h
       refine E_seq (E_region (EL_at (.int .i64 (0)) rfl rfl ?_))
       refine EL_nil (thn_n (E_ret ?_))
       obtain rfl := sinj h
       exact end1 rfl rfl (show _ = .int .i64 (0) from rfl) ⟨_, hfr, rfl⟩
def f31 (x0 : BoxLoom) (x1 : List BoxPick) : Option (Int) :=
 jn (σ := Unit) (fun _ =>
  jn (σ := Unit) (fun _ =>
   jn (σ := Unit) (fun _ =>
    some ((0 : Int))
    ) fun t8 =>
   lp (σ := Int) (fun x8 o0 =>
    jn (σ := Unit) (fun _ =>
     jn (σ := Unit) (fun _ =>
      x8 ((w64 (o0 + (1 : Int))))
      ) fun y8 =>
     Option.bind (α := Bool) (
      (idx x1 o0).bind fun x5 =>
      (idx ((x0).Boxes) (0 : Int)).bind fun z4 =>
      (f59 ((x5).Left) ((0 : Int)) ((w64 (z4 - (1 : Int))))).bind fun u3 =>
      bif (!u3) then
       some (true)
      else
       (idx x1 o0).bind fun x6 =>
       (idx ((x0).Boxes) (1 : Int)).bind fun j6 =>
       (f59 ((x6).Right) ((0 : Int)) ((w64 (j6 - (1 : Int))))).bind fun i6 =>
       some ((!i6))
      ) fun z3 =>
     bif z3 then
      some ((2 : Int))
     else
      y8 ()
     ) fun a9 =>
    bif (decide (o0 < ((x1).length : Int))) then
     a9 ()
    else
     t8 ()
    ) big ((0 : Int))
   ) fun lB =>
  bif (decide (((x1).length : Int) > (24 : Int))) then
   some ((5 : Int))
  else
   lB ()
  ) fun k6 =>
 (f20 x0).bind fun y9 =>
 bif (y9 != (0 : Int)) then
  some (y9)
 else
  k6 ()
theorem en31 : Enters Try.prog 31 := enters_of Try.func31 (by kernel_rfl) rfl
theorem wk31 {gI : Gh} {wI : World} {x0 : BoxLoom} {x1 : List BoxPick} {up0 : Value} (rp0 : RV gI.m wI x0 up0) {up1 : Value} (rp1 : RV gI.m wI x1 up1) {r : Int} (h : f31 x0 x1 = some r) : Fn Try.prog 31 #[up0, up1] gI wI (fun _ _ v => v = .int .i64 (r)) := by
 unfold f31 at h
 refine fn_of_E Try.func31 rfl (Nat.le_of_ble_eq_true rfl) fun g0 hm hfr => ?_
 have rp0 : RV g0.m wI x0 up0 := hm ▸ rp0
 have rp1 : RV g0.m wI x1 up1 := hm ▸ rp1
 show E _ 47 none _ _ _ _ _
 refine E_seq (E_region (EL_do .plain rfl (D_box (g := g0) rfl rp0 fun g1 w1 p1 hs q1 => ?_)))
 have hfr := hfr.ext hs
 have rp1 := rp1.ext hs
 refine EL_at (.int .i64 (0)) rfl rfl ?_
 refine EL_nil (thn_n (E_joinC h (fun (s : Unit) e w => ∃ (g : Gh) , Fr gI wI g w ∧ e 1 = up1 ∧ RV g.m w (x1 : List BoxPick) up1 ∧ e 2 = p1 ∧ PT g.m w (x0 : BoxLoom) p1) (fun X6 k6 hk6 h => ?_) ?_))
 ·refine E_seq (E_region (EL_do .plain rfl (D_load (g := g1) Try.isAgg25 Try.sizeOf25 rfl q1 fun v7 r7 => ?_)))
  obtain ⟨y9, mC, h⟩ := bsome h
  refine EL_do .plain rfl (D_call (g := g1) (vs := [v7]) en20 (.cons rfl .nil) (wk20 r7 mC) fun g8 w8_ v8 hs hr => ?_)
  have hfr := hfr.ext hs
  have rp1 := rp1.ext hs
  have q1 := q1.ext hs
  subst hr
  refine EL_at (.int .i64 (y9)) rfl rfl ?_
  refine EL_nil (thn_n (E_seq (E_region (EL_mw (.int .i64 (y9)) rfl rfl ?_))))
  refine EL_in (.bool ((y9 != (0 : Int)))) rfl rfl rfl rfl ?_
  refine EL_nil (thn_n ?_)
  rcases csome h with ⟨m7, h⟩ | ⟨m7, h⟩
  ·refine E_ct m7 rfl ?_
   refine E_seq (E_region (EL_mw (.int .i64 (y9)) rfl rfl ?_))
   refine EL_at (.int .i64 (y9)) rfl rfl ?_
   refine EL_nil (thn_n (E_ret (thn_r ?_)))
   obtain rfl := sinj h
   exact end1 rfl rfl (show _ = .int .i64 (y9) from rfl) ⟨_, hfr, rfl⟩
  ·refine E_cf m7 rfl ?_
   exact E_skip (thn_n (hk6 () _ _ ⟨g8, hfr, rfl, rp1, rfl, q1⟩ h))
 ·rintro _ aD vD ⟨qC, hfr, i8, k8, pA, qA⟩ h
  refine E_joinC h (fun (s : Unit) e w => ∃ (g : Gh) , Fr gI wI g w ∧ e 1 = up1 ∧ RV g.m w (x1 : List BoxPick) up1 ∧ e 2 = p1 ∧ PT g.m w (x0 : BoxLoom) p1) (fun X13 lB mB h => ?_) ?_
  ·refine E_seq (E_region (EL_mv i8 rfl ?_))
   refine EL_p (.int .i64 ((x1).length : Int)) (P_len Try.underlying30 rfl k8) rfl ?_
   refine EL_in (.bool ((decide (((x1).length : Int) > (24 : Int))))) rfl rfl rfl rfl ?_
   refine EL_nil (thn_n ?_)
   rcases csome h with ⟨o7, h⟩ | ⟨o7, h⟩
   ·refine E_ct o7 rfl ?_
    refine E_seq (E_region (EL_at (.int .i64 (5)) rfl rfl ?_))
    refine EL_nil (thn_n (E_ret (thn_r ?_)))
    obtain rfl := sinj h
    exact end1 rfl rfl (show _ = .int .i64 (5) from rfl) ⟨_, hfr, rfl⟩
   ·refine E_cf o7 rfl ?_
    exact E_skip (thn_n (mB () _ _ ⟨qC, hfr, i8, k8, pA, qA⟩ h))
  ·rintro _ bD w15 ⟨rC, hfr, rA, uA, xA, yA⟩ h
   refine E_joinC h (fun (s : Unit) e w => ∃ (g : Gh) , Fr gI wI g w) (fun X361 t8 zA h => ?_) ?_
   ·refine E_seq (E_region (EL_at (.int .i64 (0)) rfl rfl ?_))
    refine EL_nil (thn_n (E_block ?_))
    refine E_lp h (fun (s : Int) e w => ∃ (g : Gh) , Fr gI wI g w ∧ e 1 = up1 ∧ RV g.m w (x1 : List BoxPick) up1 ∧ e 2 = p1 ∧ PT g.m w (x0 : BoxLoom) p1 ∧ e 6 = .int .i64 (s)) ⟨rC, hfr, rA, uA, xA, yA, rfl⟩ (fun X362 x8 aB => ?_)
    rintro o0 tC cD ⟨d9, hfr, g7, i7, i9, k9, j7⟩ h
    refine E_joinC h (fun (s : Unit) e w => ∃ (g : Gh) , Fr gI wI g w ∧ e 1 = up1 ∧ RV g.m w (x1 : List BoxPick) up1 ∧ e 2 = p1 ∧ PT g.m w (x0 : BoxLoom) p1 ∧ e 6 = .int .i64 (o0)) (fun X365 a9 bB h => ?_) ?_
    ·refine E_seq (E_region (EL_mv j7 rfl ?_))
     refine EL_mv g7 rfl ?_
     refine EL_p (.int .i64 ((x1).length : Int)) (P_len Try.underlying30 rfl i7) rfl ?_
     refine EL_in (.bool ((decide (o0 < ((x1).length : Int))))) rfl rfl rfl rfl ?_
     refine EL_nil (thn_n ?_)
     rcases csome h with ⟨y6, h⟩ | ⟨y6, h⟩
     ·refine E_ct y6 rfl ?_
      exact E_skip (thn_n (bB () _ _ ⟨d9, hfr, g7, i7, i9, k9, j7⟩ h))
     ·refine E_cf y6 rfl ?_
      refine E_exit ?_
      refine thn_e ?_
      refine thn_e ?_
      refine blk_hit ?_
      exact thn_n (zA () _ _ ⟨d9, hfr⟩ h)
    ·rintro _ uC eD ⟨l9, hfr, i5, i3, l5, j3, t5⟩ h
     refine E_joinC h (fun (s : Unit) e w => ∃ (g : Gh) , Fr gI wI g w ∧ e 1 = up1 ∧ RV g.m w (x1 : List BoxPick) up1 ∧ e 2 = p1 ∧ PT g.m w (x0 : BoxLoom) p1 ∧ e 6 = .int .i64 (o0)) (fun X536 y8 cB h => ?_) ?_
     ·refine E_block ?_
      obtain ⟨z3, hx, h⟩ := bsome h
      refine E_join (fun e w => ∃ (g : Gh) , Fr gI wI g w ∧ e 1 = up1 ∧ RV g.m w (x1 : List BoxPick) up1 ∧ e 2 = p1 ∧ PT g.m w (x0 : BoxLoom) p1 ∧ e 6 = .int .i64 (o0) ∧ e 46 = .bool (z3)) (fun Q' hQ => ?_) (fun vC gD hR => ?_)
      ·replace h := hx
       clear hx
       obtain ⟨x5, a7, h⟩ := bsome h
       have u7 := PT_idx i3 a7
       have nB := PT_field (part_BoxPick_0).1 u7
       refine L_load (x := .tmp 24) Try.isAgg3 Try.sizeOf3 nB fun iD oB l8 => ?_
       obtain rfl := RV_int.1 oB
       have tB := PT_field (part_BoxLoom_0).1 j3
       refine L_load (x := .tmp 26) Try.isAgg22 Try.sizeOf22 tB fun b7 c8 m8 => ?_
       obtain ⟨z4, c7, h⟩ := bsome h
       have vB := PT_idx c8 c7
       refine L_load (x := .tmp 28) Try.isAgg3 Try.sizeOf3 vB fun jD xB n8 => ?_
       obtain rfl := RV_int.1 xB
       obtain ⟨u3, o8, h⟩ := bsome h
       rcases csome h with ⟨j1, h⟩ | ⟨j1, h⟩
       ·refine E_drawL (g := l9) (n := 26) [(10, (fun v g w => v = .bool (u3)))] [0, 1, 2, 3, 4, 5, 6, 7, 8, 9, 10, 11, 12, 13, 14, 15, 16, 17, 18, 19, 20, 21, 22, 23, 24, 25] rfl mixed (by kernel_rfl) (⟨fun _ => up_eq _, trivial⟩) ?_
        refine L_p up1 rfl rfl (P_move i5) ?_
        refine L_p (.int .i64 (o0)) rfl rfl (P_move t5) ?_
        refine L_p (ePtr up1 o0 2) rfl rfl (P_indexAddr (α := BoxPick) Try.underlying30 Try.sizeOf83 rfl i3 rfl a7) ?_
        refine L_p (fPtr (ePtr up1 o0 2) 0) rfl rfl (P_fieldAddr at_83_0 rfl (PT.ptr u7)) ?_
        refine L_ld (c := .int .i64 ((x5).Left)) rfl rfl .plain (fun _ _ h => h.ch) l8 rfl ?_
        refine L_p (fPtr p1 0) rfl rfl (P_fieldAddr at_25_0 l5 (PT.ptr j3)) ?_
        refine L_ld (c := b7) rfl rfl .plain (fun _ _ h => h.ch) m8 rfl ?_
        refine L_p (ePtr b7 (0 : Int) 1) rfl rfl (P_indexAddr (α := Int) Try.underlying22 Try.sizeOf3 rfl c8 rfl c7) ?_
        refine L_ld (c := .int .i64 (z4)) rfl rfl .plain (fun _ _ h => h.ch) n8 rfl ?_
        refine L_p (.int .i64 ((w64 (z4 - (1 : Int))))) rfl rfl (P_int rfl rfl rfl) ?_
        refine L_do (φ := fun v g w => v = .bool (u3)) rfl rfl .plain (fun g w hd => D_call (g := g) (vs := [.int .i64 ((x5).Left), .int .i64 (0), .int .i64 ((w64 (z4 - (1 : Int))))]) en59 (.cons rfl (.cons rfl (.cons rfl .nil))) (wk59  o8) fun g' w' v hs hr => ⟨g', hs, hr⟩) (fun yB hv => ?_)
        obtain ⟨_, _, _, rfl⟩ := hv
        refine L_p (.bool (!u3)) rfl rfl (P_not rfl) ?_
        refine L_p (.bool (!u3)) rfl rfl (P_move rfl) ?_
        iterate 12 refine L_s rfl rfl rfl j1 rfl ?_
        refine L_p (.bool true) rfl rfl (P_pick (b := (!u3)) rfl (pick_t j1 rfl)) ?_
        refine L_nl fun zB kD hs => ?_
        have hfr := hfr.ext hs
        have i3 := i3.ext hs
        have j3 := j3.ext hs
        clear hs
        refine EL_nil ?_
        obtain rfl := sinj h
        exact hQ _ _ ⟨zB, hfr, i5, i3, l5, j3, t5, rfl⟩
       ·obtain ⟨x6, q8, h⟩ := bsome h
        have n9 := PT_idx i3 q8
        have aC := PT_field (part_BoxPick_1).1 n9
        refine L_load (x := .tmp 37) Try.isAgg3 Try.sizeOf3 aC fun lD cC dB => ?_
        obtain rfl := RV_int.1 cC
        have dC := PT_field (part_BoxLoom_0).1 j3
        refine L_load (x := .tmp 39) Try.isAgg22 Try.sizeOf22 dC fun o9 t9 eB => ?_
        obtain ⟨j6, r8, h⟩ := bsome h
        have eC := PT_idx t9 r8
        refine L_load (x := .tmp 41) Try.isAgg3 Try.sizeOf3 eC fun mD iC iB => ?_
        obtain rfl := RV_int.1 iC
        obtain ⟨i6, jB, h⟩ := bsome h
        refine E_drawL (g := l9) (n := 26) [(10, (fun v g w => v = .bool (u3))), (23, (fun v g w => v = .bool (i6)))] [0, 1, 2, 3, 4, 5, 6, 7, 8, 9, 10, 11, 12, 13, 14, 15, 16, 17, 18, 19, 20, 21, 22, 23, 24, 25] rfl mixed (by kernel_rfl) (⟨fun _ => up_eq _, fun _ => up_eq _, trivial⟩) ?_
        refine L_p up1 rfl rfl (P_move i5) ?_
        refine L_p (.int .i64 (o0)) rfl rfl (P_move t5) ?_
        refine L_p (ePtr up1 o0 2) rfl rfl (P_indexAddr (α := BoxPick) Try.underlying30 Try.sizeOf83 rfl i3 rfl a7) ?_
        refine L_p (fPtr (ePtr up1 o0 2) 0) rfl rfl (P_fieldAddr at_83_0 rfl (PT.ptr u7)) ?_
        refine L_ld (c := .int .i64 ((x5).Left)) rfl rfl .plain (fun _ _ h => h.ch) l8 rfl ?_
        refine L_p (fPtr p1 0) rfl rfl (P_fieldAddr at_25_0 l5 (PT.ptr j3)) ?_
        refine L_ld (c := b7) rfl rfl .plain (fun _ _ h => h.ch) m8 rfl ?_
        refine L_p (ePtr b7 (0 : Int) 1) rfl rfl (P_indexAddr (α := Int) Try.underlying22 Try.sizeOf3 rfl c8 rfl c7) ?_
        refine L_ld (c := .int .i64 (z4)) rfl rfl .plain (fun _ _ h => h.ch) n8 rfl ?_
        refine L_p (.int .i64 ((w64 (z4 - (1 : Int))))) rfl rfl (P_int rfl rfl rfl) ?_
        refine L_do (φ := fun v g w => v = .bool (u3)) rfl rfl .plain (fun g w hd => D_call (g := g) (vs := [.int .i64 ((x5).Left), .int .i64 (0), .int .i64 ((w64 (z4 - (1 : Int))))]) en59 (.cons rfl (.cons rfl (.cons rfl .nil))) (wk59  o8) fun g' w' v hs hr => ⟨g', hs, hr⟩) (fun yB hv => ?_)
        obtain ⟨_, _, _, rfl⟩ := hv
        refine L_p (.bool (!u3)) rfl rfl (P_not rfl) ?_
        refine L_p (.bool (!u3)) rfl rfl (P_move rfl) ?_
        refine L_y up1 rfl rfl rfl rfl j1 (P_move i5) ?_
        refine L_y (.int .i64 (o0)) rfl rfl rfl rfl j1 (P_move t5) ?_
        refine L_y (ePtr up1 o0 2) rfl rfl rfl rfl j1 (P_indexAddr (α := BoxPick) Try.underlying30 Try.sizeOf83 rfl i3 rfl q8) ?_
        refine L_y (fPtr (ePtr up1 o0 2) 1) rfl rfl rfl rfl j1 (P_fieldAddr at_83_1 rfl (PT.ptr n9)) ?_
        refine L_ld (c := .int .i64 ((x6).Right)) rfl rfl (.yes2 rfl rfl j1) (fun _ _ h => h.ch) dB rfl ?_
        refine L_y (fPtr p1 0) rfl rfl rfl rfl j1 (P_fieldAddr at_25_0 l5 (PT.ptr j3)) ?_
        refine L_ld (c := o9) rfl rfl (.yes2 rfl rfl j1) (fun _ _ h => h.ch) eB rfl ?_
        refine L_y (ePtr o9 (1 : Int) 1) rfl rfl rfl rfl j1 (P_indexAddr (α := Int) Try.underlying22 Try.sizeOf3 rfl t9 rfl r8) ?_
        refine L_ld (c := .int .i64 (j6)) rfl rfl (.yes2 rfl rfl j1) (fun _ _ h => h.ch) iB rfl ?_
        refine L_y (.int .i64 ((w64 (j6 - (1 : Int))))) rfl rfl rfl rfl j1 (P_int rfl rfl rfl) ?_
        refine L_do (φ := fun v g w => v = .bool (i6)) rfl rfl (.yes2 rfl rfl j1) (fun g w hd => D_call (g := g) (vs := [.int .i64 ((x6).Right), .int .i64 (0), .int .i64 ((w64 (j6 - (1 : Int))))]) en59 (.cons rfl (.cons rfl (.cons rfl .nil))) (wk59  jB) fun g' w' v hs hr => ⟨g', hs, hr⟩) (fun nD hv => ?_)
        obtain ⟨_, _, _, rfl⟩ := hv
        refine L_y (.bool (!i6)) rfl rfl rfl rfl j1 (P_not rfl) ?_
        refine L_p (.bool (!i6)) rfl rfl (P_pick (b := (!u3)) rfl (pick_f j1 rfl)) ?_
        refine L_nl fun jC oD hs => ?_
        have hfr := hfr.ext hs
        have i3 := i3.ext hs
        have j3 := j3.ext hs
        clear hs
        refine EL_nil ?_
        obtain rfl := sinj h
        exact hQ _ _ ⟨jC, hfr, i5, i3, l5, j3, t5, rfl⟩
      ·clear hx
       obtain ⟨kC, hfr, u9, z9, bA, gA, iA, v6⟩ := hR
       rcases csome h with ⟨d7, h⟩ | ⟨d7, h⟩
       ·refine E_cond_true (Eq.trans (show ev _ _ = .bool (z3) from v6) (congrArg Value.bool d7)) ?_
        refine E_seq (E_region (EL_at (.int .i64 (2)) rfl rfl ?_))
        refine EL_nil (thn_n (E_ret (blk_r ?_)))
        refine thn_r ?_
        refine thn_r ?_
        refine blk_r ?_
        refine thn_r ?_
        obtain rfl := sinj h
        exact end1 rfl rfl (show _ = .int .i64 (2) from rfl) ⟨_, hfr, rfl⟩
       ·refine E_cond_false (Eq.trans (show ev _ _ = .bool (z3) from v6) (congrArg Value.bool d7)) ?_
        exact E_skip (blk_n (thn_n (cB () _ _ ⟨kC, hfr, u9, z9, bA, gA, iA⟩ h)))
     ·rintro _ xC sD ⟨lC, hfr, jA, lA, mA, nA, oA⟩ h
      refine E_region (EL_mv oA rfl ?_)
      refine EL_in (.int .i64 ((w64 (o0 + (1 : Int))))) rfl rfl rfl rfl ?_
      refine EL_at (.int .i64 ((w64 (o0 + (1 : Int))))) rfl rfl ?_
      exact EL_nil (thn_n (aB ((w64 (o0 + (1 : Int)))) _ _ ⟨lC, hfr, jA, lA, mA, nA, rfl⟩ h))
   ·rintro _ yC tD ⟨uD, hfr⟩ h
    refine E_seq (E_region (EL_at (.int .i64 (0)) rfl rfl ?_))
    refine EL_nil (thn_n (E_ret ?_))
    obtain rfl := sinj h
    exact end1 rfl rfl (show _ = .int .i64 (0) from rfl) ⟨_, hfr, rfl⟩
theorem W50 {iO : Nat} {gI : Gh} {wI : World} {x0 : BoxLoom} {up0 : Value} (rp0 : RV gI.m wI x0 up0) {r : BoxLoom} (h : f50 x0 = some r) : FnG Try.prog 50 #[up0] gI wI (fun g w v => OWx ow_BoxLoom iO g w r v) := by
 unfold f50 at h
 refine fnG_of_E Try.func50 rfl (Nat.le_of_ble_eq_true rfl) fun g0 hm hfr => ?_
 have rp0 : RV g0.m wI x0 up0 := hm ▸ rp0
 show E _ 16 none _ _ _ _ _
 refine E_seq (E_region (EL_do .plain rfl (D_box (g := g0) rfl rp0 fun g1 w1 p1 hs q1 => ?_)))
 have hfr := hfr.ext hs
 refine EL_do .plain rfl (D_allocOc (g := g1) 2002 (⟨[], [], []⟩ : BoxLoom) Try.zeroValue25 (fun m w => ⟨_, (rep_two rep_nil (rep_two rep_nil rep_nil)), rfl⟩) fun g2 w2 p2 hs b2 cb => ?_)
 have hfr := hfr.stp hs
 have q1 := q1.stp hs
 have i7 : OSF 2002 60200 0 g2 w2 3 25 ([] : List Int) p2 := cb.osf (by rfl)
 have j7 : OSF 2002 60201 1 g2 w2 3 25 ([] : List Int) p2 := cb.osf (by rfl)
 have m7 : OSF 2002 60202 2 g2 w2 87 25 ([] : List BoxShuttle) p2 := cb.osf (by rfl)
 clear cb
 refine EL_nil (thn_n (E_seq ?_))
 have q4 := PT_field (part_BoxLoom_0).1 q1
 refine L_load (x := .tmp 4) Try.isAgg22 Try.sizeOf22 q4 fun v5 r5 j6 => ?_
 obtain ⟨y7, x6, h⟩ := bsome h
 have q9 := PT_field (part_BoxLoom_1).1 q1
 refine L_load (x := .tmp 8) Try.isAgg22 Try.sizeOf22 q9 fun y6 a7 i5 => ?_
 obtain ⟨j1, l5, h⟩ := bsome h
 have b7 := PT_field (part_BoxLoom_2).1 q1
 refine L_load (x := .tmp 12) Try.isAgg23 Try.sizeOf23 b7 fun c7 d7 t5 => ?_
 obtain ⟨i3, x5, h⟩ := bsome h
 refine E_drawL (g := g2) (n := 12) [(0, (fun v g w => RV g.m w ([] : List Int) v ∧ OS 3003 g w 3 ([] : List Int) v ∧ FullV v)), (3, (fun v g w => OA 3003 g w 3 y7 v)), (4, (fun v g w => RV g.m w ([] : List Int) v ∧ OS 3007 g w 3 ([] : List Int) v ∧ FullV v)), (7, (fun v g w => OA 3007 g w 3 j1 v)), (8, (fun v g w => RV g.m w ([] : List BoxShuttle) v ∧ OS 3011 g w 87 ([] : List BoxShuttle) v ∧ FullV v)), (11, (fun v g w => OA 3011 g w 87 i3 v))] [0, 1, 2, 3, 4, 5, 6, 7, 8, 9, 10, 11] rfl mixed (by kernel_rfl) (⟨fun _ => up_and up_rv (up_and up_os (up_eq _)), fun _ => up_oa, fun _ => up_and up_rv (up_and up_os (up_eq _)), fun _ => up_oa, fun _ => up_and up_rv (up_and up_os (up_eq _)), fun _ => up_oa, trivial⟩) ?_
 refine L_do (φ := fun v g w => RV g.m w ([] : List Int) v ∧ OS 3003 g w 3 ([] : List Int) v ∧ FullV v) rfl rfl .plain (fun g w hd => D_buildSlice (g := g) 3003 (xs := ([] : List Int)) (vs := []) Try.underlying22 Try.sizeOf3 Try.zeroValue3 rfl rfl .nil RVs.nil rfl rfl fun g' w' v hs o r hxt hfl => ⟨g', hxt, r, o, hfl⟩) (fun v3 hv => ?_)
 clear hv
 refine L_p (fPtr p1 0) rfl rfl (P_fieldAddr at_25_0 rfl (PT.ptr q1)) ?_
 refine L_ld (c := v5) rfl rfl .plain (fun _ _ h => h.ch) j6 rfl ?_
 refine L_do (φ := fun v g w => OA 3003 g w 3 y7 v) rfl rfl .plain (fun g w hd => D_appendE (g := g) plain_int (i := 3003) Try.underlying22 info_3 rfl rfl (word (A := fun g w => RV g.m w ([] : List Int) v3 ∧ OS 3003 g w 3 ([] : List Int) v3 ∧ FullV v3) 0 rfl rfl (deps_of hd)).2.1 (word (A := fun g w => RV g.m w ([] : List Int) v3 ∧ OS 3003 g w 3 ([] : List Int) v3 ∧ FullV v3) 0 rfl rfl (deps_of hd)).2.2 rfl (r5.ext hd.1) x6 fun g' w' v hs b => ⟨g', hs, b⟩) (fun v6 hv => ?_)
 clear hv
 refine L_do (φ := fun v g w => RV g.m w ([] : List Int) v ∧ OS 3007 g w 3 ([] : List Int) v ∧ FullV v) rfl rfl .plain (fun g w hd => D_buildSlice (g := g) 3007 (xs := ([] : List Int)) (vs := []) Try.underlying22 Try.sizeOf3 Try.zeroValue3 rfl rfl .nil RVs.nil rfl rfl fun g' w' v hs o r hxt hfl => ⟨g', hxt, r, o, hfl⟩) (fun v8 hv => ?_)
 clear hv
 refine L_p (fPtr p1 1) rfl rfl (P_fieldAddr at_25_1 rfl (PT.ptr q1)) ?_
 refine L_ld (c := y6) rfl rfl .plain (fun _ _ h => h.ch) i5 rfl ?_
 refine L_do (φ := fun v g w => OA 3007 g w 3 j1 v) rfl rfl .plain (fun g w hd => D_appendE (g := g) plain_int (i := 3007) Try.underlying22 info_3 rfl rfl (word (A := fun g w => RV g.m w ([] : List Int) v8 ∧ OS 3007 g w 3 ([] : List Int) v8 ∧ FullV v8) 4 rfl rfl (deps_of hd)).2.1 (word (A := fun g w => RV g.m w ([] : List Int) v8 ∧ OS 3007 g w 3 ([] : List Int) v8 ∧ FullV v8) 4 rfl rfl (deps_of hd)).2.2 rfl (a7.ext hd.1) l5 fun g' w' v hs b => ⟨g', hs, b⟩) (fun j3 hv => ?_)
 clear hv
 refine L_do (φ := fun v g w => RV g.m w ([] : List BoxShuttle) v ∧ OS 3011 g w 87 ([] : List BoxShuttle) v ∧ FullV v) rfl rfl .plain (fun g w hd => D_buildSlice (g := g) 3011 (xs := ([] : List BoxShuttle)) (vs := []) Try.underlying23 Try.sizeOf87 Try.zeroValue87 rfl rfl .nil RVs.nil rfl rfl fun g' w' v hs o r hxt hfl => ⟨g', hxt, r, o, hfl⟩) (fun o0 hv => ?_)
 clear hv
 refine L_p (fPtr p1 2) rfl rfl (P_fieldAddr at_25_2 rfl (PT.ptr q1)) ?_
 refine L_ld (c := c7) rfl rfl .plain (fun _ _ h => h.ch) t5 rfl ?_
 refine L_do (φ := fun v g w => OA 3011 g w 87 i3 v) rfl rfl .plain (fun g w hd => D_appendE (g := g) plain_BoxShuttle (i := 3011) Try.underlying23 info_87 rfl rfl (word (A := fun g w => RV g.m w ([] : List BoxShuttle) o0 ∧ OS 3011 g w 87 ([] : List BoxShuttle) o0 ∧ FullV o0) 8 rfl rfl (deps_of hd)).2.1 (word (A := fun g w => RV g.m w ([] : List BoxShuttle) o0 ∧ OS 3011 g w 87 ([] : List BoxShuttle) o0 ∧ FullV o0) 8 rfl rfl (deps_of hd)).2.2 rfl (d7.ext hd.1) x5 fun g' w' v hs b => ⟨g', hs, b⟩) (fun u3 hv => ?_)
 clear hv
 refine L_nil fun o7 g7 hall => ?_
 have hs := hall.1
 have hfr := hfr.ext hs
 have b2 := b2.ext hs
 have u7 := (word_all (A := fun g w => RV g.m w ([] : List Int) v3 ∧ OS 3003 g w 3 ([] : List Int) v3 ∧ FullV v3) 0 rfl hall).1
 have o22 := (word_all (A := fun g w => RV g.m w ([] : List Int) v3 ∧ OS 3003 g w 3 ([] : List Int) v3 ∧ FullV v3) 0 rfl hall).2.1
 have b25 := (word_all (A := fun g w => OA 3003 g w 3 y7 v6) 3 rfl hall)
 have v7 := (word_all (A := fun g w => RV g.m w ([] : List Int) v8 ∧ OS 3007 g w 3 ([] : List Int) v8 ∧ FullV v8) 4 rfl hall).1
 have o26 := (word_all (A := fun g w => RV g.m w ([] : List Int) v8 ∧ OS 3007 g w 3 ([] : List Int) v8 ∧ FullV v8) 4 rfl hall).2.1
 have b29 := (word_all (A := fun g w => OA 3007 g w 3 j1 j3) 7 rfl hall)
 have c8 := (word_all (A := fun g w => RV g.m w ([] : List BoxShuttle) o0 ∧ OS 3011 g w 87 ([] : List BoxShuttle) o0 ∧ FullV o0) 8 rfl hall).1
 have o30 := (word_all (A := fun g w => RV g.m w ([] : List BoxShuttle) o0 ∧ OS 3011 g w 87 ([] : List BoxShuttle) o0 ∧ FullV o0) 8 rfl hall).2.1
 have b33 := (word_all (A := fun g w => OA 3011 g w 87 i3 u3) 11 rfl hall)
 clear hs hall
 obtain ⟨sk35, ow35, ok35⟩ := OA.toW b25
 obtain ⟨sk36, ow36, ok36⟩ := OA.toW b29
 obtain ⟨sk37, ow37, ok37⟩ := OA.toW b33
 have wn38 := Wn.fl (OW.wn ow37)
 obtain ⟨gq39, hs, _, wn39⟩ := Wn.pair (OW.wn ow36) wn38 rfl
 have hfr := hfr.stp hs
 have b2 := b2.stp hs rfl
 have ow35 := ow35.stp hs rfl
 obtain ⟨gq40, hs, _, wn40⟩ := Wn.pair (OW.wn ow35) wn39 rfl
 have hfr := hfr.stp hs
 have b2 := b2.stp hs rfl
 obtain ⟨z4, z3⟩ : ∃ v, v = (Value.agg (setCh [[.slice none 0 0], [.slice none 0 0], [.slice none 0 0]] [(0, v6), (1, j3), (2, u3)]).flatten.toArray) := ⟨_, rfl⟩
 have ow34 : OW ow_BoxLoom 3011 gq40 g7 (⟨y7, j1, i3⟩ : BoxLoom) (sk35, (sk36, sk37)) z4 := z3 ▸ Wn.mk_ (Wn.struct (x := ((⟨y7, j1, i3⟩ : BoxLoom))) wn40)
 refine EL_p z4 (z3 ▸ P_build (vs := [(0, v6), (1, j3), (2, u3)]) [[.slice none 0 0], [.slice none 0 0], [.slice none 0 0]] lay_25 rfl rfl (.cons rfl (.cons rfl (.cons rfl .nil))) ⟨⟨_, rfl, OW.csz ow35⟩, ⟨⟨_, rfl, OW.csz ow36⟩, ⟨⟨_, rfl, OW.csz ow37⟩, trivial⟩⟩⟩) rfl ?_
 refine EL_do .plain rfl (D_storeOW (g := gq40) Try.sizeOf25 rfl b2 rfl ow34 rfl fun gj41 g8 i8 bk41 hsa hsb hpp b41 => ?_)
 have hfr := hfr.stp hsa
 have hfr := hfr.stp hsb
 clear hsa hsb
 subst hpp
 refine EL_nil (thn_n (E_ret ?_))
 obtain rfl := sinj h
 obtain ⟨k8, i6, ow42⟩ := OV.read (t := 25) Try.isAgg25 Try.sizeOf25 b41 rfl
 obtain ⟨gh, hxh, _, homh⟩ := OW.hand (i := iO) hfr ow42 (⟨ok35, ⟨ok36, ok37⟩⟩ : (ow_BoxLoom).ok (sk35, (sk36, sk37)))
 exact endm_c rfl rfl (show _ = (Value.pointer (some ⟨bk41, 0, none⟩)) from rfl) i6 ⟨gh, hxh, homh⟩
def f64 (x0 : List (List Int)) (x1 : (List Int) → Option Bool) : Option (Bool) :=
 (f90 x0 x1).bind fun y2 =>
 some ((decide (y2 ≥ (0 : Int))))
def f66 (x0 : List (List Int)) : Option ((List Int)) :=
 Option.bind (α := Int) (
  lp (σ := Int × Int) (fun gA (i3, o0) =>
   bif (decide (o0 < ((x0).length : Int))) then
    Option.bind (α := Int) (
     (idx x0 o0).bind fun z3 =>
     bif (decide ((w64 (i3 + ((z3).length : Int))) < (0 : Int))) then
      none
     else
      some ((w64 (i3 + ((z3).length : Int))))
     ) fun z4 =>
    gA (z4, (w64 (o0 + (1 : Int))))
   else
    some (i3)
   ) big ((0 : Int), (0 : Int))
  ) fun i5 =>
 (f91 i5).bind fun iA =>
 Option.bind (α := (List Int)) (
  lp (σ := (List Int) × Int) (fun jA (j6, j1) =>
   bif (decide (j1 < ((x0).length : Int))) then
    Option.bind (α := (List Int)) (
     (idx x0 j1).bind fun lA =>
     (apnd 8 j6 lA).bind fun mA =>
     some (mA)
     ) fun u3 =>
    jA (u3, (w64 (j1 + (1 : Int))))
   else
    some (j6)
   ) big (iA, (0 : Int))
  ) fun l5 =>
 some (l5)
def f86 (x0 : List BoxShuttle) (x1 : BoxShuttle → Option Bool) : Option (Bool) :=
 (f102 x0 x1).bind fun y2 =>
 some ((decide (y2 ≥ (0 : Int))))
theorem en86 : Enters Try.prog 86 := enters_of Try.func86 (by kernel_rfl) rfl
theorem wk86 {gI : Gh} {wI : World} {x0 : List BoxShuttle} {x1 : BoxShuttle → Option Bool} {up0 : Value} (rp0 : RV gI.m wI x0 up0) {up1 : Value} (rp1 : FnV1 Try.prog x1 up1 gI wI) {r : Bool} (h : f86 x0 x1 = some r) : Fn Try.prog 86 #[up0, up1] gI wI (fun _ _ v => v = .bool (r)) := by
 unfold f86 at h
 refine fn_of_E Try.func86 rfl (Nat.le_of_ble_eq_true rfl) fun g0 hm hfr => ?_
 have rp0 : RV g0.m wI x0 up0 := hm ▸ rp0
 obtain ⟨ff1, fa1, fc1, rfl, fen1, fcl1⟩ := rp1
 show E _ 9 none _ _ _ _ _
 refine E_seq (E_region (EL_at (.bool false) rfl rfl ?_))
 refine EL_nil (thn_n (E_seq (E_region (EL_mw up0 rfl rfl ?_))))
 refine EL_mw ((.func (.func ff1) fa1 fc1)) rfl rfl ?_
 obtain ⟨y2, hy2, h⟩ := bsome h
 refine EL_do .plain rfl (D_call (g := g0) (vs := [up0, (.func (.func ff1) fa1 fc1)]) en102 (.cons rfl (.cons rfl .nil)) (wk102 rp0 (FnV1.ch ⟨_, _, _, rfl, fen1, fcl1⟩ hfr.ch) hy2) fun g1 w1_ v1 hs hr => ?_)
 have hfr := hfr.ext hs
 subst hr
 refine EL_in (.bool ((decide (y2 ≥ (0 : Int))))) rfl rfl rfl rfl ?_
 refine EL_at (.bool ((decide (y2 ≥ (0 : Int))))) rfl rfl ?_
 refine EL_nil (thn_n (E_ret ?_))
 obtain rfl := sinj h
 exact end1 rfl rfl (show _ = .bool ((decide (y2 ≥ (0 : Int)))) from rfl) ⟨_, hfr, rfl⟩
def f87 (x0 : Int) (x1 : Int) (x2 : List Int) : Option (Bool) :=
 (f103 x2 ((fun a0 => f104 a0 x0 x1))).bind fun y4 =>
 some ((!y4))
theorem en87 : Enters Try.prog 87 := enters_of Try.func87 (by kernel_rfl) rfl
theorem wk87 {gI : Gh} {wI : World} {x0 : Int} {x1 : Int} {x2 : List Int} {up2 : Value} (rp2 : RV gI.m wI x2 up2) {r : Bool} (h : f87 x0 x1 x2 = some r) : Fn Try.prog 87 #[.int .i64 (x0), .int .i64 (x1), up2] gI wI (fun _ _ v => v = .bool (r)) := by
 unfold f87 at h
 refine fn_of_E Try.func87 rfl (Nat.le_of_ble_eq_true rfl) fun g0 hm hfr => ?_
 have rp2 : RV g0.m wI x2 up2 := hm ▸ rp2
 show E _ 11 none _ _ _ _ _
 refine E_seq (E_region (EL_do .plain rfl (D_box (g := g0) rfl (RV_int.2 rfl) fun g1 w1 p1 hs q1 => ?_)))
 have hfr := hfr.ext hs
 have rp2 := rp2.ext hs
 refine EL_do .plain rfl (D_box (g := g1) rfl (RV_int.2 rfl) fun g2 w2 p2 hs q2 => ?_)
 have hfr := hfr.ext hs
 have rp2 := rp2.ext hs
 have q1 := q1.ext hs
 refine EL_at (.bool false) rfl rfl ?_
 refine EL_nil (thn_n (E_seq (E_region (EL_mw up2 rfl rfl ?_))))
 refine EL_p ((.func (.func 104) #[] #[p1, p2])) (P_makeFunc (capf_0_2 (show ev _ _ = p1 from rfl) (show ev _ _ = p2 from rfl))) rfl ?_
 obtain ⟨y4, o0, h⟩ := bsome h
 refine EL_do .plain rfl (D_call (g := g2) (vs := [up2, (.func (.func 104) #[] #[p1, p2])]) en103 (.cons rfl (.cons rfl .nil)) (wk103 rp2 ⟨104, #[], #[p1, p2], rfl, en104, fun g' w' hch a0 b0 r hu0 hr => by obtain rfl := RV_int.1 hu0; exact Fn.mono (wk104  (q1.ch hch) (q2.ch hch) hr) fun _ _ _ h => RV_bool.2 h⟩ o0) fun g3 w3_ v3 hs hr => ?_)
 have hfr := hfr.ext hs
 subst hr
 refine EL_p (.bool (!y4)) (P_not rfl) rfl ?_
 refine EL_at (.bool (!y4)) rfl rfl ?_
 refine EL_nil (thn_n (E_ret ?_))
 obtain rfl := sinj h
 exact end1 rfl rfl (show _ = .bool (!y4) from rfl) ⟨_, hfr, rfl⟩
def f95 (x0 : BoxPick) (z0 : BoxBoxLoom) : Option (Bool) :=
 Option.bind (α := Bool) (
  (idx (((z0).BoxLoom).Boxes) (0 : Int)).bind fun z3 =>
  (f87 ((0 : Int)) ((w64 (z3 - (1 : Int)))) (([(x0).Left] : List Int))).bind fun j3 =>
  bif (!j3) then
   some (true)
  else
   (idx (((z0).BoxLoom).Boxes) (1 : Int)).bind fun z4 =>
   (f87 ((0 : Int)) ((w64 (z4 - (1 : Int)))) (([(x0).Right] : List Int))).bind fun y135 =>
   some ((!y135))
  ) fun u3 =>
 some (u3)
theorem en95 : Enters Try.prog 95 := enters_of Try.func95 (by kernel_rfl) rfl
theorem wk95 {gI : Gh} {wI : World} {x0 : BoxPick} {z0 : BoxBoxLoom} {up0 : Value} (rp0 : RV gI.m wI x0 up0) {pf0 : Value} (qf0 : PT gI.m wI z0 pf0) {r : Bool} (h : f95 x0 z0 = some r) : Fn Try.prog 95 #[up0, pf0] gI wI (fun _ _ v => v = .bool (r)) := by
 unfold f95 at h
 refine fn_of_E Try.func95 rfl (Nat.le_of_ble_eq_true rfl) fun g0 hm hfr => ?_
 have qf0 : PT g0.m wI z0 pf0 := hm ▸ qf0
 have rp0 : RV g0.m wI x0 up0 := hm ▸ rp0
 show E _ 28 none _ _ _ _ _
 refine E_seq (E_region (EL_do .plain rfl (D_box (g := g0) rfl rp0 fun g1 w1 p1 hs q1 => ?_)))
 have hfr := hfr.ext hs
 have qf0 := qf0.ext hs
 refine EL_at (.bool false) rfl rfl ?_
 refine EL_nil (thn_n ?_)
 obtain ⟨u3, hx, h⟩ := bsome h
 refine E_join (fun e w => ∃ (g : Gh) , Fr gI wI g w ∧ e 3 = .bool (u3)) (fun Q' hQ => ?_) (fun t8 v8 hR => ?_)
 ·replace h := hx
  clear hx
  have x5 := PT_field (part_BoxBoxLoom_0).1 qf0
  have k8 := PT_field (part_BoxLoom_0).1 x5
  refine L_load (x := .tmp 5) Try.isAgg22 Try.sizeOf22 k8 fun l5 i6 j6 => ?_
  obtain ⟨z3, i5, h⟩ := bsome h
  have l8 := PT_idx i6 i5
  refine L_load (x := .tmp 7) Try.isAgg3 Try.sizeOf3 l8 fun o9 m8 v6 => ?_
  obtain rfl := RV_int.1 m8
  have n8 := PT_field (part_BoxPick_0).1 q1
  refine L_load (x := .tmp 10) Try.isAgg3 Try.sizeOf3 n8 fun t9 o8 x6 => ?_
  obtain rfl := RV_int.1 o8
  obtain ⟨j3, y6, h⟩ := bsome h
  rcases csome h with ⟨j1, h⟩ | ⟨j1, h⟩
  ·refine E_drawL (g := g1) (n := 25) [(8, (fun v g w => RV g.m w ([(x0).Left] : List Int) v ∧ OS 3012 g w 3 ([(x0).Left] : List Int) v ∧ FullV v)), (9, (fun v g w => v = .bool (j3)))] [0, 1, 2, 3, 4, 5, 6, 7, 8, 9, 10, 11, 12, 13, 14, 15, 16, 17, 18, 19, 20, 21, 22, 23, 24] rfl mixed (by kernel_rfl) (⟨fun _ => up_and up_rv (up_and up_os (up_eq _)), fun _ => up_eq _, trivial⟩) ?_
   refine L_p (fPtr pf0 0) rfl rfl (P_fieldAddr at_102_0 rfl (PT.ptr qf0)) ?_
   refine L_p (fPtr (fPtr pf0 0) 0) rfl rfl (P_fieldAddr at_25_0 rfl (PT.ptr x5)) ?_
   refine L_ld (c := l5) rfl rfl .plain (fun _ _ h => h.ch) j6 rfl ?_
   refine L_p (ePtr l5 (0 : Int) 1) rfl rfl (P_indexAddr (α := Int) Try.underlying22 Try.sizeOf3 rfl i6 rfl i5) ?_
   refine L_ld (c := .int .i64 (z3)) rfl rfl .plain (fun _ _ h => h.ch) v6 rfl ?_
   refine L_p (.int .i64 ((w64 (z3 - (1 : Int))))) rfl rfl (P_int rfl rfl rfl) ?_
   refine L_p (fPtr p1 0) rfl rfl (P_fieldAddr at_83_0 rfl (PT.ptr q1)) ?_
   refine L_ld (c := .int .i64 ((x0).Left)) rfl rfl .plain (fun _ _ h => h.ch) x6 rfl ?_
   refine L_do (φ := fun v g w => RV g.m w ([(x0).Left] : List Int) v ∧ OS 3012 g w 3 ([(x0).Left] : List Int) v ∧ FullV v) rfl rfl .plain (fun g w hd => D_buildSlice (g := g) 3012 (xs := ([(x0).Left] : List Int)) (vs := [.int .i64 ((x0).Left)]) Try.underlying22 Try.sizeOf3 Try.zeroValue3 rfl rfl (.cons rfl .nil) (RVs.cons (RV_int.2 rfl) RVs.nil) rfl rfl fun g' w' v hs o r hxt hfl => ⟨g', hxt, r, o, hfl⟩) (fun o0 hv => ?_)
   clear hv
   refine L_do (φ := fun v g w => v = .bool (j3)) rfl rfl .plain (fun g w hd => D_call (g := g) (vs := [.int .i64 (0), .int .i64 ((w64 (z3 - (1 : Int)))), o0]) en87 (.cons rfl (.cons rfl (.cons rfl .nil))) (wk87 (word (A := fun g w => RV g.m w ([(x0).Left] : List Int) o0 ∧ OS 3012 g w 3 ([(x0).Left] : List Int) o0 ∧ FullV o0) 8 rfl rfl (deps_of hd)).1 y6) fun g' w' v hs hr => ⟨g', hs, hr⟩) (fun q8 hv => ?_)
   obtain ⟨_, _, _, rfl⟩ := hv
   refine L_p (.bool (!j3)) rfl rfl (P_not rfl) ?_
   refine L_p (.bool (!j3)) rfl rfl (P_move rfl) ?_
   iterate 11 refine L_s rfl rfl rfl j1 rfl ?_
   refine L_p (.bool true) rfl rfl (P_pick (b := (!j3)) rfl (pick_t j1 rfl)) ?_
   refine L_p (.bool true) rfl rfl (P_assign rfl) ?_
   refine L_nil fun r8 u9 hall => ?_
   have hs := hall.1
   have hfr := hfr.ext hs
   have x8 := (word_all (A := fun g w => RV g.m w ([(x0).Left] : List Int) o0 ∧ OS 3012 g w 3 ([(x0).Left] : List Int) o0 ∧ FullV o0) 8 rfl hall).1
   have o109 := (word_all (A := fun g w => RV g.m w ([(x0).Left] : List Int) o0 ∧ OS 3012 g w 3 ([(x0).Left] : List Int) o0 ∧ FullV o0) 8 rfl hall).2.1
   clear hs hall
   refine EL_nil ?_
   obtain rfl := sinj h
   exact hQ _ _ ⟨r8, hfr, rfl⟩
  ·have a7 := PT_field (part_BoxBoxLoom_0).1 qf0
   have o7 := PT_field (part_BoxLoom_0).1 a7
   refine L_load (x := .tmp 17) Try.isAgg22 Try.sizeOf22 o7 fun b7 c7 g7 => ?_
   obtain ⟨z4, t5, h⟩ := bsome h
   have u7 := PT_idx c7 t5
   refine L_load (x := .tmp 19) Try.isAgg3 Try.sizeOf3 u7 fun y8 v7 i7 => ?_
   obtain rfl := RV_int.1 v7
   have c8 := PT_field (part_BoxPick_1).1 q1
   refine L_load (x := .tmp 22) Try.isAgg3 Try.sizeOf3 c8 fun a9 g8 j7 => ?_
   obtain rfl := RV_int.1 g8
   obtain ⟨y135, m7, h⟩ := bsome h
   refine E_drawL (g := g1) (n := 25) [(8, (fun v g w => RV g.m w ([(x0).Left] : List Int) v ∧ OS 3012 g w 3 ([(x0).Left] : List Int) v ∧ FullV v)), (9, (fun v g w => v = .bool (j3))), (20, (fun v g w => RV g.m w ([(x0).Right] : List Int) v ∧ OS 3024 g w 3 ([(x0).Right] : List Int) v ∧ FullV v)), (21, (fun v g w => v = .bool (y135)))] [0, 1, 2, 3, 4, 5, 6, 7, 8, 9, 10, 11, 12, 13, 14, 15, 16, 17, 18, 19, 20, 21, 22, 23, 24] rfl mixed (by kernel_rfl) (⟨fun _ => up_and up_rv (up_and up_os (up_eq _)), fun _ => up_eq _, fun _ => up_and up_rv (up_and up_os (up_eq _)), fun _ => up_eq _, trivial⟩) ?_
   refine L_p (fPtr pf0 0) rfl rfl (P_fieldAddr at_102_0 rfl (PT.ptr qf0)) ?_
   refine L_p (fPtr (fPtr pf0 0) 0) rfl rfl (P_fieldAddr at_25_0 rfl (PT.ptr x5)) ?_
   refine L_ld (c := l5) rfl rfl .plain (fun _ _ h => h.ch) j6 rfl ?_
   refine L_p (ePtr l5 (0 : Int) 1) rfl rfl (P_indexAddr (α := Int) Try.underlying22 Try.sizeOf3 rfl i6 rfl i5) ?_
   refine L_ld (c := .int .i64 (z3)) rfl rfl .plain (fun _ _ h => h.ch) v6 rfl ?_
   refine L_p (.int .i64 ((w64 (z3 - (1 : Int))))) rfl rfl (P_int rfl rfl rfl) ?_
   refine L_p (fPtr p1 0) rfl rfl (P_fieldAddr at_83_0 rfl (PT.ptr q1)) ?_
   refine L_ld (c := .int .i64 ((x0).Left)) rfl rfl .plain (fun _ _ h => h.ch) x6 rfl ?_
   refine L_do (φ := fun v g w => RV g.m w ([(x0).Left] : List Int) v ∧ OS 3012 g w 3 ([(x0).Left] : List Int) v ∧ FullV v) rfl rfl .plain (fun g w hd => D_buildSlice (g := g) 3012 (xs := ([(x0).Left] : List Int)) (vs := [.int .i64 ((x0).Left)]) Try.underlying22 Try.sizeOf3 Try.zeroValue3 rfl rfl (.cons rfl .nil) (RVs.cons (RV_int.2 rfl) RVs.nil) rfl rfl fun g' w' v hs o r hxt hfl => ⟨g', hxt, r, o, hfl⟩) (fun o0 hv => ?_)
   clear hv
   refine L_do (φ := fun v g w => v = .bool (j3)) rfl rfl .plain (fun g w hd => D_call (g := g) (vs := [.int .i64 (0), .int .i64 ((w64 (z3 - (1 : Int)))), o0]) en87 (.cons rfl (.cons rfl (.cons rfl .nil))) (wk87 (word (A := fun g w => RV g.m w ([(x0).Left] : List Int) o0 ∧ OS 3012 g w 3 ([(x0).Left] : List Int) o0 ∧ FullV o0) 8 rfl rfl (deps_of hd)).1 y6) fun g' w' v hs hr => ⟨g', hs, hr⟩) (fun q8 hv => ?_)
   obtain ⟨_, _, _, rfl⟩ := hv
   refine L_p (.bool (!j3)) rfl rfl (P_not rfl) ?_
   refine L_p (.bool (!j3)) rfl rfl (P_move rfl) ?_
   refine L_y (fPtr pf0 0) rfl rfl rfl rfl j1 (P_fieldAddr at_102_0 rfl (PT.ptr qf0)) ?_
   refine L_y (fPtr (fPtr pf0 0) 0) rfl rfl rfl rfl j1 (P_fieldAddr at_25_0 rfl (PT.ptr a7)) ?_
   refine L_ld (c := b7) rfl rfl (.yes2 rfl rfl j1) (fun _ _ h => h.ch) g7 rfl ?_
   refine L_y (ePtr b7 (1 : Int) 1) rfl rfl rfl rfl j1 (P_indexAddr (α := Int) Try.underlying22 Try.sizeOf3 rfl c7 rfl t5) ?_
   refine L_ld (c := .int .i64 (z4)) rfl rfl (.yes2 rfl rfl j1) (fun _ _ h => h.ch) i7 rfl ?_
   refine L_y (.int .i64 ((w64 (z4 - (1 : Int))))) rfl rfl rfl rfl j1 (P_int rfl rfl rfl) ?_
   refine L_y (fPtr p1 1) rfl rfl rfl rfl j1 (P_fieldAddr at_83_1 rfl (PT.ptr q1)) ?_
   refine L_ld (c := .int .i64 ((x0).Right)) rfl rfl (.yes2 rfl rfl j1) (fun _ _ h => h.ch) j7 rfl ?_
   refine L_do (φ := fun v g w => RV g.m w ([(x0).Right] : List Int) v ∧ OS 3024 g w 3 ([(x0).Right] : List Int) v ∧ FullV v) rfl rfl (.yes2 rfl rfl j1) (fun g w hd => D_buildSlice (g := g) 3024 (xs := ([(x0).Right] : List Int)) (vs := [.int .i64 ((x0).Right)]) Try.underlying22 Try.sizeOf3 Try.zeroValue3 rfl rfl (.cons rfl .nil) (RVs.cons (RV_int.2 rfl) RVs.nil) rfl rfl fun g' w' v hs o r hxt hfl => ⟨g', hxt, r, o, hfl⟩) (fun i3 hv => ?_)
   clear hv
   refine L_do (φ := fun v g w => v = .bool (y135)) rfl rfl (.yes2 rfl rfl j1) (fun g w hd => D_call (g := g) (vs := [.int .i64 (0), .int .i64 ((w64 (z4 - (1 : Int)))), i3]) en87 (.cons rfl (.cons rfl (.cons rfl .nil))) (wk87 (word (A := fun g w => RV g.m w ([(x0).Right] : List Int) i3 ∧ OS 3024 g w 3 ([(x0).Right] : List Int) i3 ∧ FullV i3) 20 rfl rfl (deps_of hd)).1 m7) fun g' w' v hs hr => ⟨g', hs, hr⟩) (fun d9 hv => ?_)
   obtain ⟨_, _, _, rfl⟩ := hv
   refine L_y (.bool (!y135)) rfl rfl rfl rfl j1 (P_not rfl) ?_
   refine L_p (.bool (!y135)) rfl rfl (P_pick (b := (!j3)) rfl (pick_f j1 rfl)) ?_
   refine L_p (.bool (!y135)) rfl rfl (P_assign rfl) ?_
   refine L_nil fun i8 i9 hall => ?_
   have hs := hall.1
   have hfr := hfr.ext hs
   have k9 := (word_all (A := fun g w => RV g.m w ([(x0).Left] : List Int) o0 ∧ OS 3012 g w 3 ([(x0).Left] : List Int) o0 ∧ FullV o0) 8 rfl hall).1
   have o149 := (word_all (A := fun g w => RV g.m w ([(x0).Left] : List Int) o0 ∧ OS 3012 g w 3 ([(x0).Left] : List Int) o0 ∧ FullV o0) 8 rfl hall).2.1
   have l9 := (word_all (A := fun g w => RV g.m w ([(x0).Right] : List Int) i3 ∧ OS 3024 g w 3 ([(x0).Right] : List Int) i3 ∧ FullV i3) 20 rfl hall).1
   have o161 := (word_all (A := fun g w => RV g.m w ([(x0).Right] : List Int) i3 ∧ OS 3024 g w 3 ([(x0).Right] : List Int) i3 ∧ FullV i3) 20 rfl hall).2.1
   clear hs hall
   refine EL_nil ?_
   obtain rfl := sinj h
   exact hQ _ _ ⟨i8, hfr, rfl⟩
 ·clear hx
  obtain ⟨n9, hfr, d7⟩ := hR
  refine E_ret ?_
  obtain rfl := sinj h
  exact end1 rfl rfl (show _ = .bool (u3) from d7) ⟨_, hfr, rfl⟩
def f96 (x0 : List BoxPick) (x1 : BoxPick → Option Bool) : Option (Bool) :=
 (f105 x0 x1).bind fun y2 =>
 some ((decide (y2 ≥ (0 : Int))))
theorem en96 : Enters Try.prog 96 := enters_of Try.func96 (by kernel_rfl) rfl
theorem wk96 {gI : Gh} {wI : World} {x0 : List BoxPick} {x1 : BoxPick → Option Bool} {up0 : Value} (rp0 : RV gI.m wI x0 up0) {up1 : Value} (rp1 : FnV1 Try.prog x1 up1 gI wI) {r : Bool} (h : f96 x0 x1 = some r) : Fn Try.prog 96 #[up0, up1] gI wI (fun _ _ v => v = .bool (r)) := by
 unfold f96 at h
 refine fn_of_E Try.func96 rfl (Nat.le_of_ble_eq_true rfl) fun g0 hm hfr => ?_
 have rp0 : RV g0.m wI x0 up0 := hm ▸ rp0
 obtain ⟨ff1, fa1, fc1, rfl, fen1, fcl1⟩ := rp1
 show E _ 9 none _ _ _ _ _
 refine E_seq (E_region (EL_at (.bool false) rfl rfl ?_))
 refine EL_nil (thn_n (E_seq (E_region (EL_mw up0 rfl rfl ?_))))
 refine EL_mw ((.func (.func ff1) fa1 fc1)) rfl rfl ?_
 obtain ⟨y2, hy2, h⟩ := bsome h
 refine EL_do .plain rfl (D_call (g := g0) (vs := [up0, (.func (.func ff1) fa1 fc1)]) en105 (.cons rfl (.cons rfl .nil)) (wk105 rp0 (FnV1.ch ⟨_, _, _, rfl, fen1, fcl1⟩ hfr.ch) hy2) fun g1 w1_ v1 hs hr => ?_)
 have hfr := hfr.ext hs
 subst hr
 refine EL_in (.bool ((decide (y2 ≥ (0 : Int))))) rfl rfl rfl rfl ?_
 refine EL_at (.bool ((decide (y2 ≥ (0 : Int))))) rfl rfl ?_
 refine EL_nil (thn_n (E_ret ?_))
 obtain rfl := sinj h
 exact end1 rfl rfl (show _ = .bool ((decide (y2 ≥ (0 : Int)))) from rfl) ⟨_, hfr, rfl⟩
def f97 (x0 : BoxRace) (x1 : BoxPick) : Option (BoxRace × Int × Int) :=
 (idx ((x0).boxes).toList (0 : Int)).bind fun y7 =>
 (idx (y7).toList (x1).Left).bind fun y9 =>
 (idx ((x0).boxes).toList (1 : Int)).bind fun c8 =>
 (idx (c8).toList (x1).Right).bind fun i3 =>
 jn (σ := BoxRace) (fun u7 =>
  (f106 (((x0).at_).Left) ((x1).Left)).bind fun z3 =>
  (f106 (((x0).at_).Right) ((x1).Right)).bind fun z4 =>
  (idx ((x0).boxes).toList (0 : Int)).bind fun g8 =>
  (idx (g8).toList (x1).Left).bind fun bA =>
  (idx (({ x0 with boxes := (vmod ((x0).boxes) ((0 : Int)) (fun b => (vset b ((x1).Left) i3))) }).boxes).toList (1 : Int)).bind fun i8 =>
  (idx (i8).toList (x1).Right).bind fun n8 =>
  some ({ { { x0 with boxes := (vmod ((x0).boxes) ((0 : Int)) (fun b => (vset b ((x1).Left) i3))) } with boxes := (vmod (({ x0 with boxes := (vmod ((x0).boxes) ((0 : Int)) (fun b => (vset b ((x1).Left) i3))) }).boxes) ((1 : Int)) (fun b => (vset b ((x1).Right) y9))) } with at_ := x1 }, (w64 (y9 + i3)), (w64 (z3 + z4)))
  ) fun k8 =>
 bif ((y9 == (0 : Int)) == (i3 == (0 : Int))) then
  some (x0, (0 : Int), (0 : Int))
 else
  k8 ((⟨(⟨List.toArray [(⟨List.toArray [0, 0, 0, 0], rfl⟩ : Vector Int 4), (⟨List.toArray [0, 0, 0, 0], rfl⟩ : Vector Int 4)], rfl⟩ : Vector (Vector Int 4) 2), ⟨0, 0⟩⟩ : BoxRace))
theorem en97 : Enters Try.prog 97 := enters_of Try.func97 (by kernel_rfl) rfl
theorem wk97 {gI : Gh} {wI : World} {x0 : BoxRace} {x1 : BoxPick} {up0 : Value} (rp0 : RV gI.m wI x0 up0) {up1 : Value} (rp1 : RV gI.m wI x1 up1) {r : BoxRace × Int × Int} (h : f97 x0 x1 = some r) : Fn Try.prog 97 #[up0, up1] gI wI (fun m w v => ∃ y0 y1 y2, v = .tuple #[y0, y1, y2] ∧ RV m w (r.1) y0 ∧ y1 = .int .i64 (r.2.1) ∧ y2 = .int .i64 (r.2.2)) := by
 unfold f97 at h
 refine fn_of_E Try.func97 rfl (Nat.le_of_ble_eq_true rfl) fun g0 hm hfr => ?_
 have rp0 : RV g0.m wI x0 up0 := hm ▸ rp0
 have rp1 : RV g0.m wI x1 up1 := hm ▸ rp1
 show E _ 59 none _ _ _ _ _
 refine E_seq (E_region (EL_do .plain rfl (D_boxO (g := g0) 2002 rfl rp0 fun g1 w1 p1 hs b1 => ?_)))
 have hfr := hfr.stp hs
 have rp0 := rp0.stp hs
 have rp1 := rp1.stp hs
 refine EL_do .plain rfl (D_box (g := g1) rfl rp1 fun g2 w2 p2 hs q2 => ?_)
 have hfr := hfr.ext hs
 have rp0 := rp0.ext hs
 have rp1 := rp1.ext hs
 have b1 := b1.ext hs
 refine EL_do .plain rfl (D_allocOc (g := g2) 2004 (⟨(⟨List.toArray [(⟨List.toArray [0, 0, 0, 0], rfl⟩ : Vector Int 4), (⟨List.toArray [0, 0, 0, 0], rfl⟩ : Vector Int 4)], rfl⟩ : Vector (Vector Int 4) 2), ⟨0, 0⟩⟩ : BoxRace) Try.zeroValue108 (fun m w => ⟨_, (rep_two (rep_vec (flat_chunk (rep_vec (flat_chunk rep_int (flat_chunk rep_int (flat_chunk rep_int (flat_chunk rep_int flat_nil)))) rfl) (flat_chunk (rep_vec (flat_chunk rep_int (flat_chunk rep_int (flat_chunk rep_int (flat_chunk rep_int flat_nil)))) rfl) flat_nil)) rfl) (rep_two rep_int rep_int)), rfl⟩) fun g3 w3 p3 hs b3 cb => ?_)
 have hfr := hfr.stp hs
 have rp0 := rp0.stp hs
 have rp1 := rp1.stp hs
 have b1 := b1.stp hs rfl
 have q2 := q2.stp hs
 clear cb
 refine EL_at (.int .i64 (0)) rfl rfl ?_
 refine EL_at (.int .i64 (0)) rfl rfl ?_
 refine EL_nil (thn_n (E_seq ?_))
 have q4 := PT_field (part_BoxPick_0).1 q2
 refine L_load (x := .tmp 9) Try.isAgg3 Try.sizeOf3 q4 fun v5 r5 gA => ?_
 obtain rfl := RV_int.1 r5
 obtain ⟨y7, l8, h⟩ := bsome h
 obtain ⟨hi8, he8⟩ := vat_idx l8
 obtain ⟨y9, m8, h⟩ := bsome h
 obtain ⟨hi10, he10⟩ := vat_idx m8
 refine L_loadOD (off := ((0 + ((0 : Int) : Int).toNat * 4) + ((x1).Left : Int).toNat * 1)) (x := .tmp 13) (SubS.at_ (SubS.comp part_BoxRace_0 (SubS.dynC hi8 (SubS.dyn hi10) rfl) rfl) (by first | rfl | exact Nat.add_assoc _ _ _ | simp only [Nat.add_assoc, Nat.zero_add] | omega)).1 ((congrArg (vat _ hi10) he8).trans he10) Try.isAgg3 Try.sizeOf3 b1 fun jB iA o8 => ?_
 obtain rfl := RV_int.1 iA
 have x6 := PT_field (part_BoxPick_1).1 q2
 refine L_load (x := .tmp 15) Try.isAgg3 Try.sizeOf3 x6 fun lB jA q8 => ?_
 obtain rfl := RV_int.1 jA
 obtain ⟨c8, y6, h⟩ := bsome h
 obtain ⟨hi16, he16⟩ := vat_idx y6
 obtain ⟨i3, a7, h⟩ := bsome h
 obtain ⟨hi18, he18⟩ := vat_idx a7
 refine L_loadOD (off := ((0 + ((1 : Int) : Int).toNat * 4) + ((x1).Right : Int).toNat * 1)) (x := .tmp 19) (SubS.at_ (SubS.comp part_BoxRace_0 (SubS.dynC hi16 (SubS.dyn hi18) rfl) rfl) (by first | rfl | exact Nat.add_assoc _ _ _ | simp only [Nat.add_assoc, Nat.zero_add] | omega)).1 ((congrArg (vat _ hi18) he16).trans he18) Try.isAgg3 Try.sizeOf3 b1 fun mB lA r8 => ?_
 obtain rfl := RV_int.1 lA
 refine E_drawL (g := g3) (n := 14) [] [0, 1, 2, 3, 4, 5, 6, 7, 8, 9, 10, 11, 12, 13] rfl mixed (by kernel_rfl) trivial ?_
 refine L_p (fPtr p2 0) rfl rfl (P_fieldAddr at_83_0 rfl (PT.ptr q2)) ?_
 refine L_ld (c := .int .i64 ((x1).Left)) rfl rfl .plain (fun _ _ h => h.ch) gA rfl ?_
 refine L_p (fPtr p1 0) rfl rfl (P_fieldAddr at_108_0 rfl (OB.ptr b1)) ?_
 refine L_p (fPtr p1 (0 + ((0 : Int) : Int).toNat * 4)) rfl rfl (P_indexAddrA2 (α := Vector Int 4) (o1 := 0) rfl Try.underlying76 Try.sizeOf75 rfl (OB.ptr b1) rfl l8) ?_
 refine L_p (fPtr p1 ((0 + ((0 : Int) : Int).toNat * 4) + ((x1).Left : Int).toNat * 1)) rfl rfl (P_indexAddrA2 (α := Int) (o1 := (0 + ((0 : Int) : Int).toNat * 4)) rfl Try.underlying75 Try.sizeOf3 rfl (OB.ptr b1) rfl m8) ?_
 refine L_ld (c := .int .i64 (y9)) rfl rfl .plain (fun _ _ h => ⟨h.ch, fun b hb _ => h.below.block b hb⟩) o8 rfl ?_
 refine L_p (fPtr p2 1) rfl rfl (P_fieldAddr at_83_1 rfl (PT.ptr q2)) ?_
 refine L_ld (c := .int .i64 ((x1).Right)) rfl rfl .plain (fun _ _ h => h.ch) q8 rfl ?_
 refine L_p (fPtr p1 0) rfl rfl (P_fieldAddr at_108_0 rfl (OB.ptr b1)) ?_
 refine L_p (fPtr p1 (0 + ((1 : Int) : Int).toNat * 4)) rfl rfl (P_indexAddrA2 (α := Vector Int 4) (o1 := 0) rfl Try.underlying76 Try.sizeOf75 rfl (OB.ptr b1) rfl y6) ?_
 refine L_p (fPtr p1 ((0 + ((1 : Int) : Int).toNat * 4) + ((x1).Right : Int).toNat * 1)) rfl rfl (P_indexAddrA2 (α := Int) (o1 := (0 + ((1 : Int) : Int).toNat * 4)) rfl Try.underlying75 Try.sizeOf3 rfl (OB.ptr b1) rfl a7) ?_
 refine L_ld (c := .int .i64 (i3)) rfl rfl .plain (fun _ _ h => ⟨h.ch, fun b hb _ => h.below.block b hb⟩) r8 rfl ?_
 refine L_p (.int .i64 (y9)) rfl rfl (P_assign rfl) ?_
 refine L_p (.int .i64 (i3)) rfl rfl (P_assign rfl) ?_
 refine L_nl fun b7 nB hs => ?_
 have hfr := hfr.ext hs
 have rp0 := rp0.ext hs
 have rp1 := rp1.ext hs
 have b1 := b1.ext hs
 have q2 := q2.ext hs
 have b3 := b3.ext hs
 have q4 := q4.ext hs
 have x6 := x6.ext hs
 clear hs
 refine EL_nil (thn_n (E_joinC h (fun (s : BoxRace) e w => ∃ (g : Gh) , Fr gI wI g w ∧ e 2 = p1 ∧ OB 2002 g w 108 (x0 : BoxRace) p1 ∧ e 3 = p2 ∧ PT g.m w (x1 : BoxPick) p2 ∧ e 4 = p3 ∧ OB 2004 g w 108 (s : BoxRace) p3 ∧ e 7 = .int .i64 (y9) ∧ e 8 = .int .i64 (i3)) (fun X46 k8 t8 h => ?_) ?_))
 ·refine E_seq (E_region (EL_mw (.int .i64 (y9)) rfl rfl ?_))
  refine EL_in (.bool ((y9 == (0 : Int)))) rfl rfl rfl rfl ?_
  refine EL_mw (.int .i64 (i3)) rfl rfl ?_
  refine EL_in (.bool ((i3 == (0 : Int)))) rfl rfl rfl rfl ?_
  refine EL_p (.bool (((y9 == (0 : Int)) == (i3 == (0 : Int))))) (P_bool Try.underlying4 rfl rfl rfl) rfl ?_
  refine EL_nil (thn_n ?_)
  rcases csome h with ⟨t5, h⟩ | ⟨t5, h⟩
  ·refine E_ct t5 rfl ?_
   refine E_seq (E_region (EL_do .plain rfl (D_loadO (g := b7) Try.isAgg108 Try.sizeOf108 rfl b1 fun mA nA => ?_)))
   refine EL_do .plain rfl (D_storeOc (g := b7) (v := mA) Try.sizeOf108 rfl b3 rfl nA fun oB tB hs b49 cb => ?_)
   clear cb
   have hfr := hfr.stp hs
   refine EL_at (.int .i64 (0)) rfl rfl ?_
   refine EL_at (.int .i64 (0)) rfl rfl ?_
   refine EL_nil (thn_n (E_ret (thn_r ?_)))
   obtain rfl := sinj h
   obtain ⟨ad50, cv50, hp50, v8, cr50⟩ := ob_read Try.isAgg108 Try.sizeOf108 b49
   exact endm_ctt rfl rfl ((show _ = p3 from rfl).trans hp50) v8 (show _ = .int .i64 (0) from rfl) (show _ = .int .i64 (0) from rfl) ⟨_, hfr, _, _, _, rfl, cr50, rfl, rfl⟩
  ·refine E_cf t5 rfl ?_
   exact E_skip (thn_n (t8 ((⟨(⟨List.toArray [(⟨List.toArray [0, 0, 0, 0], rfl⟩ : Vector Int 4), (⟨List.toArray [0, 0, 0, 0], rfl⟩ : Vector Int 4)], rfl⟩ : Vector (Vector Int 4) 2), ⟨0, 0⟩⟩ : BoxRace)) _ _ ⟨b7, hfr, rfl, b1, rfl, q2, rfl, b3, rfl, rfl⟩ h))
 ·rintro u7 zA vB ⟨oA, hfr, u3, o0, i5, j1, x5, j3, i6, j6⟩ h
  refine E_seq (L_loadO (x := .tmp 28) (SubS.comp part_BoxRace_1 part_BoxPick_0 rfl).1 Try.isAgg3 Try.sizeOf3 o0 fun xB pA x8 => ?_)
  obtain rfl := RV_int.1 pA
  have l5 := PT_field (part_BoxPick_0).1 j1
  refine L_load (x := .tmp 30) Try.isAgg3 Try.sizeOf3 l5 fun yB qA y8 => ?_
  obtain rfl := RV_int.1 qA
  obtain ⟨z3, a9, h⟩ := bsome h
  refine L_loadO (x := .tmp 34) (SubS.comp part_BoxRace_1 part_BoxPick_1 rfl).1 Try.isAgg3 Try.sizeOf3 o0 fun zB rA d9 => ?_
  obtain rfl := RV_int.1 rA
  have q62 := PT_field (part_BoxPick_1).1 j1
  refine L_load (x := .tmp 36) Try.isAgg3 Try.sizeOf3 q62 fun aC uA i9 => ?_
  obtain rfl := RV_int.1 uA
  obtain ⟨z4, k9, h⟩ := bsome h
  refine E_drawL (g := oA) (n := 14) [(5, (fun v g w => v = .int .i64 (z3))), (11, (fun v g w => v = .int .i64 (z4)))] [0, 1, 2, 3, 4, 5, 6, 7, 8, 9, 10, 11, 12, 13] rfl mixed (by kernel_rfl) (⟨fun _ => up_eq _, fun _ => up_eq _, trivial⟩) ?_
  refine L_p (fPtr p1 8) rfl rfl (P_fieldAddr at_108_1 u3 (OB.ptr o0)) ?_
  refine L_p (fPtr p1 8) rfl rfl (P_fieldAddr2 (o1 := 8) rfl at_83_0 rfl (OB.ptr o0)) ?_
  refine L_ld (c := .int .i64 (((x0).at_).Left)) rfl rfl .plain (fun _ _ h => ⟨h.ch, fun b hb _ => h.below.block b hb⟩) x8 rfl ?_
  refine L_p (fPtr p2 0) rfl rfl (P_fieldAddr at_83_0 i5 (PT.ptr j1)) ?_
  refine L_ld (c := .int .i64 ((x1).Left)) rfl rfl .plain (fun _ _ h => h.ch) y8 rfl ?_
  refine L_do (φ := fun v g w => v = .int .i64 (z3)) rfl rfl .plain (fun g w hd => D_call (g := g) (vs := [.int .i64 (((x0).at_).Left), .int .i64 ((x1).Left)]) en106 (.cons rfl (.cons rfl .nil)) (wk106  a9) fun g' w' v hs hr => ⟨g', hs, hr⟩) (fun cC hv => ?_)
  obtain ⟨_, _, _, rfl⟩ := hv
  refine L_p (fPtr p1 8) rfl rfl (P_fieldAddr at_108_1 u3 (OB.ptr o0)) ?_
  refine L_p (fPtr p1 9) rfl rfl (P_fieldAddr2 (o1 := 8) rfl at_83_1 rfl (OB.ptr o0)) ?_
  refine L_ld (c := .int .i64 (((x0).at_).Right)) rfl rfl .plain (fun _ _ h => ⟨h.ch, fun b hb _ => h.below.block b hb⟩) d9 rfl ?_
  refine L_p (fPtr p2 1) rfl rfl (P_fieldAddr at_83_1 i5 (PT.ptr j1)) ?_
  refine L_ld (c := .int .i64 ((x1).Right)) rfl rfl .plain (fun _ _ h => h.ch) i9 rfl ?_
  refine L_do (φ := fun v g w => v = .int .i64 (z4)) rfl rfl .plain (fun g w hd => D_call (g := g) (vs := [.int .i64 (((x0).at_).Right), .int .i64 ((x1).Right)]) en106 (.cons rfl (.cons rfl .nil)) (wk106  k9) fun g' w' v hs hr => ⟨g', hs, hr⟩) (fun dC hv => ?_)
  obtain ⟨_, _, _, rfl⟩ := hv
  refine L_p (.int .i64 ((w64 (z3 + z4)))) rfl rfl (P_int rfl rfl rfl) ?_
  refine L_p (.int .i64 ((w64 (z3 + z4)))) rfl rfl (P_assign rfl) ?_
  refine L_nl fun eC iC hs => ?_
  have hfr := hfr.ext hs
  have o0 := o0.ext hs
  have j1 := j1.ext hs
  have j3 := j3.ext hs
  have l5 := l5.ext hs
  have q62 := q62.ext hs
  clear hs
  refine EL_nil (thn_n (E_seq ?_))
  have c7 := PT_field (part_BoxPick_0).1 j1
  refine L_load (x := .tmp 40) Try.isAgg3 Try.sizeOf3 c7 fun jC xA l9 => ?_
  obtain rfl := RV_int.1 xA
  have d7 := PT_field (part_BoxPick_1).1 j1
  refine L_load (x := .tmp 42) Try.isAgg3 Try.sizeOf3 d7 fun kC yA n9 => ?_
  obtain rfl := RV_int.1 yA
  obtain ⟨g8, g7, h⟩ := bsome h
  obtain ⟨hi93, he93⟩ := vat_idx g7
  obtain ⟨bA, i7, h⟩ := bsome h
  obtain ⟨hi95, he95⟩ := vat_idx i7
  obtain ⟨i8, j7, h⟩ := bsome h
  obtain ⟨hi100, he100⟩ := vat_idx j7
  obtain ⟨n8, v6, h⟩ := bsome h
  obtain ⟨hi102, he102⟩ := vat_idx v6
  refine E_drawB (a0 := (x0 : BoxRace)) (a1 := ({ x0 with boxes := (vmod ((x0).boxes) ((0 : Int)) (fun b => (vset b ((x1).Left) i3))) } : BoxRace)) o0 (n := 13) [(9, (fun _ g w => OB 2002 g w 108 ({ x0 with boxes := (vmod ((x0).boxes) ((0 : Int)) (fun b => (vset b ((x1).Left) i3))) } : BoxRace) p1))] [0, 1, 2, 3, 4, 5, 6, 7, 8, 9, 10, 11, 12] rfl mixed (by kernel_rfl) (⟨fun _ => up_box, trivial⟩) ?_
  refine L_p (fPtr p2 0) rfl rfl (P_fieldAddr at_83_0 i5 (PT.ptr j1)) ?_
  refine L_ld (c := .int .i64 ((x1).Left)) rfl rfl .plain (fun _ _ h => h.1.ch) l9 rfl ?_
  refine L_p (fPtr p2 1) rfl rfl (P_fieldAddr at_83_1 i5 (PT.ptr j1)) ?_
  refine L_ld (c := .int .i64 ((x1).Right)) rfl rfl .plain (fun _ _ h => h.1.ch) n9 rfl ?_
  refine L_p (.int .i64 (i3)) rfl rfl (P_move j6) ?_
  refine L_p (.int .i64 (y9)) rfl rfl (P_move i6) ?_
  refine L_p (fPtr p1 0) rfl rfl (P_fieldAddr at_108_0 u3 (OB.ptr o0)) ?_
  refine L_p (fPtr p1 (0 + ((0 : Int) : Int).toNat * 4)) rfl rfl (P_indexAddrA2 (α := Vector Int 4) (o1 := 0) rfl Try.underlying76 Try.sizeOf75 rfl (OB.ptr o0) rfl g7) ?_
  refine L_p (fPtr p1 ((0 + ((0 : Int) : Int).toNat * 4) + ((x1).Left : Int).toNat * 1)) rfl rfl (P_indexAddrA2 (α := Int) (o1 := (0 + ((0 : Int) : Int).toNat * 4)) rfl Try.underlying75 Try.sizeOf3 rfl (OB.ptr o0) rfl i7) ?_
  refine L_do (φ := fun _ g w => OB 2002 g w 108 ({ x0 with boxes := (vmod ((x0).boxes) ((0 : Int)) (fun b => (vset b ((x1).Left) i3))) } : BoxRace) p1) rfl rfl .plain (fun g w hd => D_storeR (g := g) (by rfl) (by exact (congrArg (fun y => { x0 with boxes := y }) (vmod_vmod (h := fun b => (vset b ((x1).Left) i3)) fun b => (vset_vset _ _ _)))) (SubS.at_ (SubS.comp part_BoxRace_0 (SubS.dynC hi93 (SubS.dyn hi95) rfl) rfl) (by first | rfl | exact Nat.add_assoc _ _ _ | simp only [Nat.add_assoc, Nat.zero_add] | omega)) Try.sizeOf3 rfl hd.1.2 rfl (RV_int.2 rfl)) (fun lC hv => ?_)
  clear hv
  refine L_p (fPtr p1 0) rfl rfl (P_fieldAddr at_108_0 u3 (OB.ptr o0)) ?_
  refine L_p (fPtr p1 (0 + ((1 : Int) : Int).toNat * 4)) rfl rfl (P_indexAddrA2 (α := Vector Int 4) (o1 := 0) rfl Try.underlying76 Try.sizeOf75 rfl (OB.ptr o0) rfl j7) ?_
  refine L_p (fPtr p1 ((0 + ((1 : Int) : Int).toNat * 4) + ((x1).Right : Int).toNat * 1)) rfl rfl (P_indexAddrA2 (α := Int) (o1 := (0 + ((1 : Int) : Int).toNat * 4)) rfl Try.underlying75 Try.sizeOf3 rfl (OB.ptr o0) rfl v6) ?_
  refine L_nil fun o9 aB hall => ?_
  have hs := hall.1.1
  have hfr := hfr.stp hs
  have j1 := j1.stp hs
  have j3 := j3.stp hs rfl
  have l5 := l5.stp hs
  have q62 := q62.stp hs
  have c7 := c7.stp hs
  have d7 := d7.stp hs
  have b104 := (word_all (A := fun g w => OB 2002 g w 108 ({ x0 with boxes := (vmod ((x0).boxes) ((0 : Int)) (fun b => (vset b ((x1).Left) i3))) } : BoxRace) p1) 9 rfl hall)
  clear hs hall
  refine EL_do .plain rfl (D_storeFc (g := o9) (SubS.at_ (SubS.comp part_BoxRace_0 (SubS.dynC hi100 (SubS.dyn hi102) rfl) rfl) (by first | rfl | exact Nat.add_assoc _ _ _ | simp only [Nat.add_assoc, Nat.zero_add] | omega)) Try.sizeOf3 rfl b104 rfl (RV_int.2 rfl) fun m7 bB hs b135 rst hos => ?_)
  clear rst hos
  have hfr := hfr.stp hs
  have j1 := j1.stp hs
  have j3 := j3.stp hs rfl
  refine EL_nil (thn_n (E_seq (E_region (EL_do .plain rfl (D_load (g := m7) Try.isAgg83 Try.sizeOf83 i5 j1 fun cB t9 => ?_)))))
  refine EL_p (fPtr p1 8) (P_fieldAddr at_108_1 u3 (OB.ptr b135)) rfl ?_
  refine EL_do .plain rfl (D_storeFc (g := m7) part_BoxRace_1 Try.sizeOf83 rfl b135 rfl t9 fun o7 dB hs b138 rst hos => ?_)
  clear rst hos
  have hfr := hfr.stp hs
  have j3 := j3.stp hs rfl
  refine EL_nil (thn_n (E_seq (E_region (EL_do .plain rfl (D_loadO (g := o7) Try.isAgg108 Try.sizeOf108 u3 b138 fun u9 z9 => ?_)))))
  refine EL_mv i6 rfl ?_
  refine EL_mv j6 rfl ?_
  refine EL_in (.int .i64 ((w64 (y9 + i3)))) rfl rfl rfl rfl ?_
  refine EL_mw (.int .i64 ((w64 (z3 + z4)))) rfl rfl ?_
  refine EL_do .plain rfl (D_storeOc (g := o7) (v := u9) Try.sizeOf108 x5 j3 rfl z9 fun eB iB hs b140 cb => ?_)
  clear cb
  have hfr := hfr.stp hs
  refine EL_at (.int .i64 ((w64 (y9 + i3)))) rfl rfl ?_
  refine EL_at (.int .i64 ((w64 (z3 + z4)))) rfl rfl ?_
  refine EL_nil (thn_n (E_ret ?_))
  obtain rfl := sinj h
  obtain ⟨ad141, cv141, hp141, v7, cr141⟩ := ob_read Try.isAgg108 Try.sizeOf108 b140
  exact endm_ctt rfl rfl ((show _ = p3 from x5).trans hp141) v7 (show _ = .int .i64 ((w64 (y9 + i3))) from rfl) (show _ = .int .i64 ((w64 (z3 + z4))) from rfl) ⟨_, hfr, _, _, _, rfl, cr141, rfl, rfl⟩
def f116 (x0 : Int) (x1 : Int) : Option (Bool) :=
 Option.bind (α := Bool) (
  (f126 x0).bind fun y8 =>
  bif y8 then
   (f126 x1).bind fun y11 =>
   bif (!y11) then
    some (true)
   else
    some ((decide (x0 < x1)))
  else
   some ((decide (x0 < x1)))
  ) fun i3 =>
 some (i3)
end Go.Proofs.Ytmpjooneiaiffaa
