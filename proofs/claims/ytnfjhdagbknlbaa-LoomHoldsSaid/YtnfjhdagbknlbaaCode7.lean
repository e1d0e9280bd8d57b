import Derived.Test.YtnfjhdagbknlbaaCode6
set_option maxRecDepth 8000
set_option maxHeartbeats 4000000
namespace Go.Proofs.Ytnfjhdagbknlbaa
open Go.RowKit
/-- griffe/griffelaw08.LoomHolds -/
def f11 (x0 : LoomMill) (x1 : List LoomOrder) (x2 : List LoomRun) : Option (Bool) :=
 jn (σ := Unit) (fun (_ : Unit) =>
  (f15 x0).bind fun a6 =>
  (f16 x1).bind fun b6 =>
  (f32 x2).bind fun p6 =>
  (f45 a6 b6).bind fun u3 =>
  (f40 a6 b6 p6).bind fun j1 =>
  jn (σ := Unit) (fun (_ : Unit) =>
   Option.bind (α := Int × Int) (
    bif (u3 == (0 : Int)) then
     (f35 x0 x1 x2).bind fun c4 =>
     some (c4.1, c4.2)
    else
     some ((0 : Int), u3)
    ) fun (z1, j2) =>
   Option.bind (α := Bool) (
    bif (j1.2 == j2) then
     bif (j1.1 == z1) then
      (f14).bind fun m5 =>
      some (m5)
     else
      some (false)
    else
     some (false)
    ) fun o4 =>
   some (o4)
   ) fun u7 =>
  Option.bind (α := Bool) (
   (f18 a6 x0).bind fun d5 =>
   bif (!d5) then
    some (true)
   else
    (f19 b6 x1).bind fun u4 =>
    bif (!u4) then
     some (true)
    else
     (f22 p6 x2).bind fun x4 =>
     bif (!x4) then
      some (true)
     else
      (f20 x0 x1).bind fun n5 =>
      some ((u3 != n5))
   ) fun z3 =>
  bif z3 then
   some (false)
  else
   u7 ()
  ) fun v7 =>
 Option.bind (α := Bool) (
  (f12 x0 x1 ((7 : Int))).bind fun q5 =>
  bif q5 then
   some (true)
  else
   some ((decide (((x2).length : Int) > (10 : Int))))
  ) fun m4 =>
 bif m4 then
  (f14).bind fun c6 =>
  some (c6)
 else
  v7 ()
theorem wk11 {gI : Gh} {wI : World} {x0 : LoomMill} {x1 : List LoomOrder} {x2 : List LoomRun} {up0 : Value} (rp0 : RV gI.m wI x0 up0) {up1 : Value} (rp1 : RV gI.m wI x1 up1) {up2 : Value} (rp2 : RV gI.m wI x2 up2) {r : Bool} (h : f11 x0 x1 x2 = some r) : Fn Try.prog 11 #[up0, up1, up2] gI wI (fun _ _ v => v = .bool (r)) := by
 unfold f11 at h
 refine fn_of_E Try.func11 rfl (Nat.le_of_ble_eq_true rfl) fun g0 hm hfr => ?_
 have rp0 : RV g0.m wI x0 up0 := hm ▸ rp0
 have rp1 : RV g0.m wI x1 up1 := hm ▸ rp1
 have rp2 : RV g0.m wI x2 up2 := hm ▸ rp2
 show E _ 84 none _ _ _ _ _
 refine E_seq (E_region (EL_do .plain rfl (D_box (g := g0) rfl rp0 fun g1 w1 p1 hs q1 => ?_)))
 have hfr := hfr.ext hs
 have rp1 := rp1.ext hs
 have rp2 := rp2.ext hs
 refine EL_at (.bool false) rfl rfl ?_
 refine EL_nil (thn_n (E_joinC h (fun (s : Unit) e w => ∃ (g : Gh) , Fr gI wI g w ∧ e 1 = up1 ∧ RV g.m w (x1 : List LoomOrder) up1 ∧ e 2 = up2 ∧ RV g.m w (x2 : List LoomRun) up2 ∧ e 3 = p1 ∧ PT g.m w (x0 : LoomMill) p1) (fun X14 v7 g8 h => ?_) ?_))
 ·obtain ⟨m4, hx, h⟩ := bsome h
  refine E_join (fun e w => ∃ (g : Gh) , Fr gI wI g w ∧ e 1 = up1 ∧ RV g.m w (x1 : List LoomOrder) up1 ∧ e 2 = up2 ∧ RV g.m w (x2 : List LoomRun) up2 ∧ e 3 = p1 ∧ PT g.m w (x0 : LoomMill) p1 ∧ e 22 = .bool (m4)) (fun Q' hQ => ?_) (fun oA mB hR => ?_)
  ·replace h := hx
   clear hx
   refine E_region (EL_do .plain rfl (D_load (g := g1) Try.isAgg24 Try.sizeOf24 rfl q1 fun c9 d9 => ?_))
   refine EL_mw up1 rfl rfl ?_
   obtain ⟨q5, i8, h⟩ := bsome h
   refine EL_do .plain rfl (D_call (g := g1) (vs := [c9, up1, .int .i64 (7)]) en12 (.cons rfl (.cons rfl (.cons rfl .nil))) (wk12 d9 rp1 i8) fun x7 pA nB hs hr => ?_)
   have hfr := hfr.ext hs
   have rp1 := rp1.ext hs
   have rp2 := rp2.ext hs
   have q1 := q1.ext hs
   subst hr
   refine EL_mw (.bool (q5)) rfl rfl ?_
   rcases csome h with ⟨d4, h⟩ | ⟨d4, h⟩
   ·refine EL_skip (.no2 rfl rfl d4 rfl) rfl ?_
    refine EL_skip (.no2 rfl rfl d4 rfl) rfl ?_
    refine EL_skip (.no2 rfl rfl d4 rfl) rfl ?_
    refine EL_pur (v := .bool true) (P_pick (b := q5) rfl (pick_t d4 rfl)) .plain rfl ?_
    refine EL_nil ?_
    obtain rfl := sinj h
    exact hQ _ _ ⟨x7, hfr, rfl, rp1, rfl, rp2, rfl, q1, rfl⟩
   ·refine EL_pur (v := up2) (P_move rfl) (.yes2 rfl rfl d4) rfl ?_
    refine EL_pur (v := .int .i64 ((x2).length : Int)) (P_len Try.underlying31 rfl rp2) (.yes2 rfl rfl d4) rfl ?_
    refine EL_pur (v := .bool ((decide (((x2).length : Int) > (10 : Int))))) (P_int rfl rfl rfl) (.yes2 rfl rfl d4) rfl ?_
    refine EL_pur (v := .bool ((decide (((x2).length : Int) > (10 : Int))))) (P_pick (b := q5) rfl (pick_f d4 rfl)) .plain rfl ?_
    refine EL_nil ?_
    obtain rfl := sinj h
    exact hQ _ _ ⟨x7, hfr, rfl, rp1, rfl, rp2, rfl, q1, rfl⟩
  ·clear hx
   obtain ⟨y7, hfr, j7, l7, m7, n7, o7, p7, t5⟩ := hR
   rcases csome h with ⟨x5, h⟩ | ⟨x5, h⟩
   ·refine E_cond_true (Eq.trans (show ev _ _ = .bool (m4) from t5) (congrArg Value.bool x5)) ?_
    refine E_seq (E_region ?_)
    obtain ⟨c6, j8, h⟩ := bsome h
    refine EL_do .plain rfl (D_call (g := y7) (vs := []) en14 .nil (wk14  j8) fun oB qA pB hs hr => ?_)
    have hfr := hfr.ext hs
    subst hr
    refine EL_at (.bool (c6)) rfl rfl ?_
    refine EL_nil (thn_n (E_ret (thn_r ?_)))
    obtain rfl := sinj h
    exact end1 rfl rfl (show _ = .bool (c6) from rfl) ⟨_, hfr, rfl⟩
   ·refine E_cond_false (Eq.trans (show ev _ _ = .bool (m4) from t5) (congrArg Value.bool x5)) ?_
    exact E_skip (thn_n (g8 () _ _ ⟨y7, hfr, j7, l7, m7, n7, o7, p7⟩ h))
 ·rintro _ rA qB ⟨z7, hfr, i4, j0, n4, u0, j4, o0⟩ h
  refine E_seq (E_region (EL_do .plain rfl (D_load (g := z7) Try.isAgg24 Try.sizeOf24 j4 o0 fun e9 g9 => ?_)))
  obtain ⟨a6, k8, h⟩ := bsome h
  refine EL_do .plain rfl (D_call (g := z7) (vs := [e9]) en15 (.cons rfl .nil) (wk15 g9 k8) fun i9 sA j9 hs hr => ?_)
  have hfr := hfr.ext hs
  have j0 := j0.ext hs
  have u0 := u0.ext hs
  have o0 := o0.ext hs
  have z4 := hr
  refine EL_mv i4 rfl ?_
  obtain ⟨b6, l8, h⟩ := bsome h
  refine EL_do .plain rfl (D_call (g := i9) (vs := [up1]) en16 (.cons rfl .nil) (wk16 j0 l8) fun k9 tA c5 hs hr => ?_)
  have hfr := hfr.ext hs
  have j0 := j0.ext hs
  have u0 := u0.ext hs
  have o0 := o0.ext hs
  have z4 := z4.ext hs
  have i3 := hr
  refine EL_mv n4 rfl ?_
  obtain ⟨p6, m8, h⟩ := bsome h
  refine EL_do .plain rfl (D_call (g := k9) (vs := [up2]) en32 (.cons rfl .nil) (wk32 u0 m8) fun l9 uA u5 hs hr => ?_)
  have hfr := hfr.ext hs
  have j0 := j0.ext hs
  have u0 := u0.ext hs
  have o0 := o0.ext hs
  have z4 := z4.ext hs
  have i3 := i3.ext hs
  have p3 := hr
  refine EL_do .plain rfl (D_allocOc (g := l9) 2007 (⟨[], 0⟩ : LoomMill) Try.zeroValue24 (fun m w => ⟨_, (rep_two rep_nil rep_int), rfl⟩) fun a8 m9 n9 hs b35 cb => ?_)
  have hfr := hfr.stp hs
  have j0 := j0.stp hs
  have u0 := u0.stp hs
  have o0 := o0.stp hs
  have z4 := z4.stp hs
  have i3 := i3.stp hs
  have p3 := p3.stp hs
  have cA : OSF 2007 60700 0 a8 m9 3 24 ([] : List Int) n9 := cb.osf (by rfl)
  clear cb
  refine EL_do .plain rfl (D_storeOc (g := a8) (v := j9) Try.sizeOf24 rfl b35 rfl z4 fun b8 rB hs b36 cb => ?_)
  clear cb
  have hfr := hfr.stp hs
  have j0 := j0.stp hs
  have u0 := u0.stp hs
  have o0 := o0.stp hs
  have i3 := i3.stp hs
  have p3 := p3.stp hs
  refine EL_at c5 rfl rfl ?_
  refine EL_at u5 rfl rfl ?_
  refine EL_nil (thn_n (E_seq (E_region (EL_do .plain rfl (D_loadO (g := b8) Try.isAgg24 Try.sizeOf24 rfl b36 fun o9 p9 => ?_)))))
  refine EL_mw c5 rfl rfl ?_
  obtain ⟨u3, n8, h⟩ := bsome h
  refine EL_do .plain rfl (D_call (g := b8) (vs := [o9, c5]) en45 (.cons rfl (.cons rfl .nil)) (wk45 p9 i3 n8) fun c8 vA sB hs hr => ?_)
  have hfr := hfr.ext hs
  have j0 := j0.ext hs
  have u0 := u0.ext hs
  have o0 := o0.ext hs
  have i3 := i3.ext hs
  have p3 := p3.ext hs
  have b36 := b36.ext hs
  subst hr
  refine EL_at (.int .i64 (u3)) rfl rfl ?_
  refine EL_nil (thn_n (E_seq (E_region (EL_do .plain rfl (D_loadO (g := c8) Try.isAgg24 Try.sizeOf24 rfl b36 fun q9 r9 => ?_)))))
  refine EL_mw c5 rfl rfl ?_
  refine EL_mw u5 rfl rfl ?_
  obtain ⟨j1, o8, h⟩ := bsome h
  refine EL_do .plain rfl (D_call (g := c8) (vs := [q9, c5, u5]) en40 (.cons rfl (.cons rfl (.cons rfl .nil))) (wk40 r9 i3 p3 o8) fun q6 xA tB hs hr => ?_)
  have hfr := hfr.ext hs
  have j0 := j0.ext hs
  have u0 := u0.ext hs
  have o0 := o0.ext hs
  have i3 := i3.ext hs
  have p3 := p3.ext hs
  have b36 := b36.ext hs
  obtain ⟨dA, eA, rfl, rfl, rfl⟩ := hr
  refine EL_mw (.tuple #[.int .i64 (j1.1), .int .i64 (j1.2)]) rfl rfl ?_
  refine EL_pur (v := .int .i64 (j1.1)) (P_extract rfl rfl) .plain rfl ?_
  refine EL_pur (v := .int .i64 (j1.2)) (P_extract rfl rfl) .plain rfl ?_
  refine EL_at (.int .i64 (j1.1)) rfl rfl ?_
  refine EL_at (.int .i64 (j1.2)) rfl rfl ?_
  refine EL_nil (thn_n (E_joinC h (fun (s : Unit) e w => ∃ (g : Gh) , Fr gI wI g w ∧ e 1 = up1 ∧ RV g.m w (x1 : List LoomOrder) up1 ∧ e 2 = up2 ∧ RV g.m w (x2 : List LoomRun) up2 ∧ e 3 = p1 ∧ PT g.m w (x0 : LoomMill) p1 ∧ e 10 = .int .i64 (u3) ∧ e 11 = .int .i64 (j1.1) ∧ e 12 = .int .i64 (j1.2)) (fun X73 u7 p8 h => ?_) ?_))
  ·obtain ⟨z3, hx, h⟩ := bsome h
   refine E_join (fun e w => ∃ (g : Gh) , Fr gI wI g w ∧ e 1 = up1 ∧ RV g.m w (x1 : List LoomOrder) up1 ∧ e 2 = up2 ∧ RV g.m w (x2 : List LoomRun) up2 ∧ e 3 = p1 ∧ PT g.m w (x0 : LoomMill) p1 ∧ e 10 = .int .i64 (u3) ∧ e 11 = .int .i64 (j1.1) ∧ e 12 = .int .i64 (j1.2) ∧ e 62 = .bool (z3)) (fun Q' hQ => ?_) (fun gA yA hR => ?_)
   ·replace h := hx
    clear hx
    refine E_region (EL_do .plain rfl (D_loadO (g := q6) Try.isAgg24 Try.sizeOf24 rfl b36 fun t9 u9 => ?_))
    refine EL_do .plain rfl (D_load (g := q6) Try.isAgg24 Try.sizeOf24 j4 o0 fun v9 x9 => ?_)
    obtain ⟨d5, q8, h⟩ := bsome h
    refine EL_do .plain rfl (D_call (g := q6) (vs := [t9, v9]) en18 (.cons rfl (.cons rfl .nil)) (wk18 u9 x9 q8) fun d8 zA uB hs hr => ?_)
    have hfr := hfr.ext hs
    have j0 := j0.ext hs
    have u0 := u0.ext hs
    have o0 := o0.ext hs
    have i3 := i3.ext hs
    have p3 := p3.ext hs
    subst hr
    refine EL_pur (v := .bool (!d5)) (P_not rfl) .plain rfl ?_
    refine EL_mw (.bool (!d5)) rfl rfl ?_
    rcases csome h with ⟨j3, h⟩ | ⟨j3, h⟩
    ·refine EL_skip (.no2 rfl rfl j3 rfl) rfl ?_
     refine EL_skip (.no2 rfl rfl j3 rfl) rfl ?_
     refine EL_skip (.no2 rfl rfl j3 rfl) rfl ?_
     refine EL_skip (.no2 rfl rfl j3 rfl) rfl ?_
     refine EL_pur (v := .bool true) (P_pick (b := (!d5)) rfl (pick_t j3 rfl)) .plain rfl ?_
     refine EL_dead 13 rfl ?_
     refine EL_nil ?_
     obtain rfl := sinj h
     exact hQ _ _ ⟨d8, hfr, i4, j0, n4, u0, j4, o0, rfl, rfl, rfl, rfl⟩
    ·refine EL_pur (v := c5) (P_move rfl) (.yes2 rfl rfl j3) rfl ?_
     refine EL_pur (v := up1) (P_move i4) (.yes2 rfl rfl j3) rfl ?_
     obtain ⟨u4, r8, h⟩ := bsome h
     refine EL_do (.yes2 rfl rfl j3) rfl (D_call (g := d8) (vs := [c5, up1]) en19 (.cons rfl (.cons rfl .nil)) (wk19 i3 j0 r8) fun e8 aB vB hs hr => ?_)
     have hfr := hfr.ext hs
     have j0 := j0.ext hs
     have u0 := u0.ext hs
     have o0 := o0.ext hs
     have p3 := p3.ext hs
     subst hr
     refine EL_pur (v := .bool (!u4)) (P_not rfl) (.yes2 rfl rfl j3) rfl ?_
     refine EL_pur (v := .bool (!u4)) (P_pick (b := (!d5)) rfl (pick_f j3 rfl)) .plain rfl ?_
     refine EL_mw (.bool (!u4)) rfl rfl ?_
     rcases csome h with ⟨o3, h⟩ | ⟨o3, h⟩
     ·refine EL_skip (.no2 rfl rfl o3 rfl) rfl ?_
      refine EL_skip (.no2 rfl rfl o3 rfl) rfl ?_
      refine EL_skip (.no2 rfl rfl o3 rfl) rfl ?_
      refine EL_skip (.no2 rfl rfl o3 rfl) rfl ?_
      refine EL_pur (v := .bool true) (P_pick (b := (!u4)) rfl (pick_t o3 rfl)) .plain rfl ?_
      refine EL_dead 7 rfl ?_
      refine EL_nil ?_
      obtain rfl := sinj h
      exact hQ _ _ ⟨e8, hfr, i4, j0, n4, u0, j4, o0, rfl, rfl, rfl, rfl⟩
     ·refine EL_pur (v := u5) (P_move rfl) (.yes2 rfl rfl o3) rfl ?_
      refine EL_pur (v := up2) (P_move n4) (.yes2 rfl rfl o3) rfl ?_
      obtain ⟨x4, t8, h⟩ := bsome h
      refine EL_do (.yes2 rfl rfl o3) rfl (D_call (g := e8) (vs := [u5, up2]) en22 (.cons rfl (.cons rfl .nil)) (wk22 p3 u0 t8) fun r6 bB xB hs hr => ?_)
      have hfr := hfr.ext hs
      have j0 := j0.ext hs
      have u0 := u0.ext hs
      have o0 := o0.ext hs
      subst hr
      refine EL_pur (v := .bool (!x4)) (P_not rfl) (.yes2 rfl rfl o3) rfl ?_
      refine EL_pur (v := .bool (!x4)) (P_pick (b := (!u4)) rfl (pick_f o3 rfl)) .plain rfl ?_
      refine EL_mw (.bool (!x4)) rfl rfl ?_
      rcases csome h with ⟨z2, h⟩ | ⟨z2, h⟩
      ·refine EL_skip (.no2 rfl rfl z2 rfl) rfl ?_
       refine EL_skip (.no2 rfl rfl z2 rfl) rfl ?_
       refine EL_skip (.no2 rfl rfl z2 rfl) rfl ?_
       refine EL_skip (.no2 rfl rfl z2 rfl) rfl ?_
       refine EL_skip (.no2 rfl rfl z2 rfl) rfl ?_
       refine EL_pur (v := .bool true) (P_pick (b := (!x4)) rfl (pick_t z2 rfl)) .plain rfl ?_
       refine EL_nil ?_
       obtain rfl := sinj h
       exact hQ _ _ ⟨r6, hfr, i4, j0, n4, u0, j4, o0, rfl, rfl, rfl, rfl⟩
      ·refine EL_pur (v := .int .i64 (u3)) (P_move rfl) (.yes2 rfl rfl z2) rfl ?_
       refine EL_do (.yes2 rfl rfl z2) rfl (D_load (g := r6) Try.isAgg24 Try.sizeOf24 j4 o0 fun y9 z9 => ?_)
       refine EL_pur (v := up1) (P_move i4) (.yes2 rfl rfl z2) rfl ?_
       obtain ⟨n5, q7, h⟩ := bsome h
       refine EL_do (.yes2 rfl rfl z2) rfl (D_call (g := r6) (vs := [y9, up1]) en20 (.cons rfl (.cons rfl .nil)) (wk20 z9 j0 q7) fun v8 iA cB hs hr => ?_)
       have hfr := hfr.ext hs
       have j0 := j0.ext hs
       have u0 := u0.ext hs
       have o0 := o0.ext hs
       subst hr
       refine EL_pur (v := .bool ((u3 != n5))) (P_int rfl rfl rfl) (.yes2 rfl rfl z2) rfl ?_
       refine EL_pur (v := .bool ((u3 != n5))) (P_pick (b := (!x4)) rfl (pick_f z2 rfl)) .plain rfl ?_
       refine EL_nil ?_
       obtain rfl := sinj h
       exact hQ _ _ ⟨v8, hfr, i4, j0, n4, u0, j4, o0, rfl, rfl, rfl, rfl⟩
   ·clear hx
    obtain ⟨x8, hfr, t6, u6, v6, x6, y6, z6, d6, i6, j6, i5⟩ := hR
    rcases csome h with ⟨o5, h⟩ | ⟨o5, h⟩
    ·refine E_cond_true (Eq.trans (show ev _ _ = .bool (z3) from i5) (congrArg Value.bool o5)) ?_
     refine E_seq (E_region (EL_at (.bool false) rfl rfl ?_))
     refine EL_nil (thn_n (E_ret (thn_r ?_)))
     obtain rfl := sinj h
     exact end1 rfl rfl (show _ = .bool false from rfl) ⟨_, hfr, rfl⟩
    ·refine E_cond_false (Eq.trans (show ev _ _ = .bool (z3) from i5) (congrArg Value.bool o5)) ?_
     exact E_skip (thn_n (p8 () _ _ ⟨x8, hfr, t6, u6, v6, x6, y6, z6, d6, i6, j6⟩ h))
  ·rintro _ jA dB ⟨y5, hfr, a7, b7, c7, d7, e7, g7, k6, j5, l5⟩ h
   refine E_seq (E_region (EL_mv k6 rfl ?_))
   refine EL_at (.int .i64 (0)) rfl rfl ?_
   refine EL_at (.int .i64 (u3)) rfl rfl ?_
   refine EL_nil (thn_n ?_)
   obtain ⟨⟨z1, j2⟩, hx, h⟩ := bsome h
   refine E_join (fun e w => ∃ (g : Gh) , Fr gI wI g w ∧ e 11 = .int .i64 (j1.1) ∧ e 12 = .int .i64 (j1.2) ∧ e 13 = .int .i64 (z1) ∧ e 14 = .int .i64 (j2)) (fun Q' hQ => ?_) (fun kA eB hR => ?_)
   ·replace h := hx
    clear hx
    refine E_seq (E_region (EL_mw (.int .i64 (u3)) rfl rfl ?_))
    refine EL_in (.bool ((u3 == (0 : Int)))) rfl rfl rfl rfl ?_
    refine EL_nil (thn_n ?_)
    rcases csome h with ⟨p5, h⟩ | ⟨p5, h⟩
    ·refine E_ct p5 rfl ?_
     refine E_region (EL_do .plain rfl (D_load (g := y5) Try.isAgg24 Try.sizeOf24 e7 g7 fun y8 z8 => ?_))
     refine EL_mv a7 rfl ?_
     refine EL_mv c7 rfl ?_
     obtain ⟨c4, r7, h⟩ := bsome h
     refine EL_do .plain rfl (D_call (g := y5) (vs := [y8, up1, up2]) en35 (.cons rfl (.cons rfl (.cons rfl .nil))) (wk35 z8 b7 d7 r7) fun a9 lA iB hs hr => ?_)
     have hfr := hfr.ext hs
     obtain ⟨aA, bA, rfl, rfl, rfl⟩ := hr
     refine EL_mw (.tuple #[.int .i64 (c4.1), .int .i64 (c4.2)]) rfl rfl ?_
     refine EL_pur (v := .int .i64 (c4.1)) (P_extract rfl rfl) .plain rfl ?_
     refine EL_pur (v := .int .i64 (c4.2)) (P_extract rfl rfl) .plain rfl ?_
     refine EL_at (.int .i64 (c4.1)) rfl rfl ?_
     refine EL_at (.int .i64 (c4.2)) rfl rfl ?_
     refine EL_nil ?_
     obtain ⟨rfl, rfl⟩ := pairs2 h
     exact hQ _ _ ⟨a9, hfr, j5, l5, rfl, rfl⟩
    ·refine E_cf p5 rfl ?_
     refine E_skip ?_
     obtain ⟨rfl, rfl⟩ := pairs2 h
     exact hQ _ _ ⟨y5, hfr, j5, l5, rfl, rfl⟩
   ·clear hx
    obtain ⟨z5, hfr, l6, m6, n6, o6⟩ := hR
    obtain ⟨o4, hx, h⟩ := bsome h
    refine E_join (fun e w => ∃ (g : Gh) , Fr gI wI g w ∧ e 6 = .bool (o4)) (fun Q' hQ => ?_) (fun mA jB hR => ?_)
    ·replace h := hx
     clear hx
     refine E_region (EL_mv m6 rfl ?_)
     refine EL_mv o6 rfl ?_
     refine EL_in (.bool ((j1.2 == j2))) rfl rfl rfl rfl ?_
     refine EL_mw (.bool ((j1.2 == j2))) rfl rfl ?_
     rcases csome h with ⟨d3, h⟩ | ⟨d3, h⟩
     ·refine EL_pur (v := .int .i64 (j1.1)) (P_move l6) (.yes2 rfl rfl d3) rfl ?_
      refine EL_pur (v := .int .i64 (z1)) (P_move n6) (.yes2 rfl rfl d3) rfl ?_
      refine EL_pur (v := .bool ((j1.1 == z1))) (P_int rfl rfl rfl) (.yes2 rfl rfl d3) rfl ?_
      refine EL_pur (v := .bool ((j1.1 == z1))) (P_pick (b := (j1.2 == j2)) rfl (pick_t d3 rfl)) .plain rfl ?_
      refine EL_mw (.bool ((j1.1 == z1))) rfl rfl ?_
      rcases csome h with ⟨p4, h⟩ | ⟨p4, h⟩
      ·obtain ⟨m5, t7, h⟩ := bsome h
       refine EL_do (.yes2 rfl rfl p4) rfl (D_call (g := z5) (vs := []) en14 .nil (wk14  t7) fun b9 nA kB hs hr => ?_)
       have hfr := hfr.ext hs
       subst hr
       refine EL_pur (v := .bool (m5)) (P_pick (b := (j1.1 == z1)) rfl (pick_t p4 rfl)) .plain rfl ?_
       refine EL_at (.bool (m5)) rfl rfl ?_
       refine EL_nil ?_
       obtain rfl := sinj h
       exact hQ _ _ ⟨b9, hfr, rfl⟩
      ·refine EL_skip (.no2 rfl rfl p4 rfl) rfl ?_
       refine EL_pur (v := .bool false) (P_pick (b := (j1.1 == z1)) rfl (pick_f p4 rfl)) .plain rfl ?_
       refine EL_at (.bool false) rfl rfl ?_
       refine EL_nil ?_
       obtain rfl := sinj h
       exact hQ _ _ ⟨z5, hfr, rfl⟩
     ·refine EL_skip (.no2 rfl rfl d3 rfl) rfl ?_
      refine EL_skip (.no2 rfl rfl d3 rfl) rfl ?_
      refine EL_skip (.no2 rfl rfl d3 rfl) rfl ?_
      refine EL_pur (v := .bool false) (P_pick (b := (j1.2 == j2)) rfl (pick_f d3 rfl)) .plain rfl ?_
      refine EL_dead 3 rfl ?_
      refine EL_at (.bool false) rfl rfl ?_
      refine EL_nil ?_
      obtain rfl := sinj h
      exact hQ _ _ ⟨z5, hfr, rfl⟩
    ·clear hx
     obtain ⟨lB, hfr, i7⟩ := hR
     refine E_ret ?_
     obtain rfl := sinj h
     exact end1 rfl rfl (show _ = .bool (o4) from i7) ⟨_, hfr, rfl⟩
end Go.Proofs.Ytnfjhdagbknlbaa
