import Derived.Test.YtpiaipiehjcflaaCode2
set_option maxRecDepth 8000
set_option maxHeartbeats 4000000
namespace Go.Proofs.Ytpiaipiehjcflaa
open Go.RowKit
/-- slices.symMergeCmpFunc[griffe/api.FaultDamage] -/
def f108 : Nat → (List FaultDamage) → (Int) → (Int) → (Int) → (FaultDamage → FaultDamage → Option Int) → Option ((List FaultDamage))
 | 0, _, _, _, _, _ => none
 | n + 1, x0, x1, x2, x3, x4 =>
  jn (σ := (List FaultDamage)) (fun i3 =>
   jn (σ := (List FaultDamage)) (fun z2 =>
    (shr64 (wu64 (w64 (x1 + x3))) (1 : Int)).bind fun n0 =>
    Option.bind (α := Int × Int) (
     bif (decide (x2 > (w64 n0))) then
      some ((w64 ((w64 ((w64 n0) + x2)) - x3)), (w64 n0))
     else
      some (x1, x2)
     ) fun (a6, b6) =>
    Option.bind (α := Int) (
     lp (σ := Int × Int) (fun kB (i1, d2) =>
      jn (σ := Unit) (fun (_ : Unit) =>
       (shr64 (wu64 (w64 (i1 + d2))) (1 : Int)).bind fun y0 =>
       (idx z2 (w64 ((w64 ((w64 ((w64 n0) + x2)) - (1 : Int))) - (w64 y0)))).bind fun dD =>
       (idx z2 (w64 y0)).bind fun eD =>
       (x4 dD eD).bind fun c6 =>
       bif (!(decide (c6 < (0 : Int)))) then
        kB ((w64 ((w64 y0) + (1 : Int))), d2)
       else
        kB (i1, (w64 y0))
       ) fun gD =>
      bif (decide (i1 < d2)) then
       gD ()
      else
       some (i1)
      ) big (a6, b6)
     ) fun j0 =>
    Option.bind (α := (List FaultDamage)) (
     Option.bind (α := Bool) (
      bif (decide (j0 < x2)) then
       some ((decide (x2 < (w64 ((w64 ((w64 n0) + x2)) - j0)))))
      else
       some (false)
      ) fun m4 =>
     bif m4 then
      (f113 z2 j0 x2 ((w64 ((w64 ((w64 n0) + x2)) - j0))) x4).bind fun iD =>
      some (iD)
     else
      some (z2)
     ) fun u4 =>
    Option.bind (α := (List FaultDamage)) (
     Option.bind (α := Bool) (
      bif (decide (x1 < j0)) then
       some ((decide (j0 < (w64 n0))))
      else
       some (false)
      ) fun n4 =>
     bif n4 then
      (f108 n u4 x1 j0 ((w64 n0)) x4).bind fun jD =>
      some (jD)
     else
      some (u4)
     ) fun z4 =>
    Option.bind (α := Bool) (
     bif (decide ((w64 n0) < (w64 ((w64 ((w64 n0) + x2)) - j0)))) then
      some ((decide ((w64 ((w64 ((w64 n0) + x2)) - j0)) < x3)))
     else
      some (false)
     ) fun o4 =>
    bif o4 then
     (f108 n z4 ((w64 n0)) ((w64 ((w64 ((w64 n0) + x2)) - j0))) x3 x4).bind fun kD =>
     some (kD)
    else
     some (z4)
    ) fun lD =>
   bif ((w64 (x3 - x2)) == (1 : Int)) then
    Option.bind (α := Int) (
     lp (σ := Int × Int) (fun lB (j1, i2) =>
      jn (σ := Unit) (fun (_ : Unit) =>
       (shr64 (wu64 (w64 (j1 + i2))) (1 : Int)).bind fun q2 =>
       (idx i3 x2).bind fun mD =>
       (idx i3 (w64 q2)).bind fun nD =>
       (x4 mD nD).bind fun d6 =>
       bif (!(decide (d6 < (0 : Int)))) then
        lB ((w64 ((w64 q2) + (1 : Int))), i2)
       else
        lB (j1, (w64 q2))
       ) fun oD =>
      bif (decide (j1 < i2)) then
       oD ()
      else
       some (j1)
      ) big (x1, x2)
     ) fun j3 =>
    Option.bind (α := (List FaultDamage)) (
     lp (σ := (List FaultDamage) × Int) (fun pD (o3, o0) =>
      jn (σ := Unit) (fun (_ : Unit) =>
       Option.bind (α := (List FaultDamage)) (
        (idx o3 (w64 (o0 - (1 : Int)))).bind fun p8 =>
        (idx o3 o0).bind fun mB =>
        (idx o3 o0).bind fun _dH =>
        (idx ((List.set o3 (Int.toNat o0) p8)) (w64 (o0 - (1 : Int)))).bind fun _gH =>
        some ((List.set ((List.set o3 (Int.toNat o0) p8)) (Int.toNat (w64 (o0 - (1 : Int)))) mB))
        ) fun n5 =>
       pD (n5, (w64 (o0 - (1 : Int))))
       ) fun qD =>
      bif (decide (o0 > j3)) then
       qD ()
      else
       some (o3)
      ) big (i3, x2)
     ) fun r6 =>
    some (r6)
   else
    lD (i3)
   ) fun rD =>
  bif ((w64 (x2 - x1)) == (1 : Int)) then
   Option.bind (α := Int) (
    lp (σ := Int × Int) (fun nB (z1, j2) =>
     jn (σ := Unit) (fun (_ : Unit) =>
      (shr64 (wu64 (w64 (z1 + j2))) (1 : Int)).bind fun s2 =>
      (idx x0 (w64 s2)).bind fun sD =>
      (idx x0 x1).bind fun tD =>
      (x4 sD tD).bind fun t6 =>
      bif (decide (t6 < (0 : Int))) then
       nB ((w64 ((w64 s2) + (1 : Int))), j2)
      else
       nB (z1, (w64 s2))
      ) fun uD =>
     bif (decide (z1 < j2)) then
      uD ()
     else
      some (z1)
     ) big (x2, x3)
    ) fun d3 =>
   Option.bind (α := (List FaultDamage)) (
    lp (σ := (List FaultDamage) × Int) (fun vD (p3, u0) =>
     jn (σ := Unit) (fun (_ : Unit) =>
      Option.bind (α := (List FaultDamage)) (
       (idx p3 (w64 (u0 + (1 : Int)))).bind fun q8 =>
       (idx p3 u0).bind fun oB =>
       (idx p3 u0).bind fun _iH =>
       (idx ((List.set p3 (Int.toNat u0) q8)) (w64 (u0 + (1 : Int)))).bind fun _jH =>
       some ((List.set ((List.set p3 (Int.toNat u0) q8)) (Int.toNat (w64 (u0 + (1 : Int)))) oB))
       ) fun o5 =>
      vD (o5, (w64 (u0 + (1 : Int))))
      ) fun xD =>
     bif (decide (u0 < (w64 (d3 - (1 : Int))))) then
      xD ()
     else
      some (p3)
     ) big (x0, x1)
    ) fun u6 =>
   some (u6)
  else
   rD (x0)
theorem en108 : Enters Try.prog 108 := enters_of Try.func108 (by kernel_rfl) rfl
theorem wk108 (n : Nat) : ∀ {iI : Nat} {gI : Gh} {wI : World} {x0 : List FaultDamage} {x1 : Int} {x2 : Int} {x3 : Int} {x4 : FaultDamage → FaultDamage → Option Int} {up0 : Value} (_mp0 : OM iI gI wI 62 x0 up0) {up4 : Value} (_rp4 : FnV2 Try.prog x4 up4 gI wI) {r : (List FaultDamage)} (_h : f108 n x0 x1 x2 x3 x4 = some r), FnM Try.prog 108 #[up0, .int .i64 (x1), .int .i64 (x2), .int .i64 (x3), up4] iI gI wI (fun g w v => v = .tuple #[] ∧ OM iI g w 62 r up0) := by
 induction n with
 | zero => intros; rename_i h; cases h
 | succ n ih =>
 intro iI gI wI x0 x1 x2 x3 x4 up0 mp0 up4 rp4 r h
 simp only [f108] at h
 refine fnM_of_E Try.func108 rfl (Nat.le_of_ble_eq_true rfl) fun g0 hm hfr => ?_
 have q6 := mp0
 replace mp0 := mp0.enter
 rw [← hm] at mp0
 replace hm : g0.m = gI.m := by rw [hm]
 obtain ⟨ff4, fa4, fc4, rfl, fen4, fcl4⟩ := rp4
 show E _ 220 none _ _ _ _ _
 refine E_joinC h (fun (s : (List FaultDamage)) e w => ∃ (g : Gh) , FrM iI gI wI g w ∧ e 0 = up0 ∧ OM 1 g w 62 (s : List FaultDamage) up0 ∧ e 1 = .int .i64 (x1) ∧ e 2 = .int .i64 (x2) ∧ e 3 = .int .i64 (x3) ∧ e 4 = (.func (.func ff4) fa4 fc4)) (fun X202 rD yF h => ?_) ?_
 ·refine E_seq (E_region (EL_mw (.int .i64 (x2)) rfl rfl ?_))
  refine EL_mw (.int .i64 (x1)) rfl rfl ?_
  refine EL_in (.int .i64 ((w64 (x2 - x1)))) rfl rfl rfl rfl ?_
  refine EL_in (.bool (((w64 (x2 - x1)) == (1 : Int)))) rfl rfl rfl rfl ?_
  refine EL_nil (thn_n ?_)
  rcases csome h with ⟨r8, h⟩ | ⟨r8, h⟩
  ·refine E_ct r8 rfl ?_
   refine E_seq (E_region (EL_mw (.int .i64 (x2)) rfl rfl ?_))
   refine EL_at (.int .i64 (x2)) rfl rfl ?_
   refine EL_nil (thn_n (E_seq (E_region (EL_mw (.int .i64 (x3)) rfl rfl ?_))))
   refine EL_at (.int .i64 (x3)) rfl rfl ?_
   refine EL_nil (thn_n ?_)
   obtain ⟨d3, hx, h⟩ := bsome h
   refine E_join (fun e w => ∃ (g : Gh) , FrM iI gI wI g w ∧ e 0 = up0 ∧ OM 1 g w 62 (x0 : List FaultDamage) up0 ∧ e 1 = .int .i64 (x1) ∧ e 10 = .int .i64 (d3)) (fun Q' hQ => ?_) (fun vI bK hR => ?_)
   ·replace h := hx
    clear hx
    refine E_block ?_
    refine E_lp h (fun (s : Int × Int) e w => ∃ (g : Gh) , FrM iI gI wI g w ∧ e 0 = up0 ∧ OM 1 g w 62 (x0 : List FaultDamage) up0 ∧ e 1 = .int .i64 (x1) ∧ e 4 = (.func (.func ff4) fa4 fc4) ∧ e 10 = .int .i64 (s.1) ∧ e 11 = .int .i64 (s.2)) ⟨g0, hfr, rfl, mp0, rfl, rfl, rfl, rfl⟩ (fun X242 nB rB => ?_)
    rintro ⟨z1, j2⟩ xI cK ⟨yD, hfr, k9, l9, m9, zD, e6, p7⟩ h
    refine E_joinC h (fun (s : Unit) e w => ∃ (g : Gh) , FrM iI gI wI g w ∧ e 0 = up0 ∧ OM 1 g w 62 (x0 : List FaultDamage) up0 ∧ e 1 = .int .i64 (x1) ∧ e 4 = (.func (.func ff4) fa4 fc4) ∧ e 10 = .int .i64 (z1) ∧ e 11 = .int .i64 (j2)) (fun X245 uD zF h => ?_) ?_
    ·refine E_seq (E_region (EL_mv e6 rfl ?_))
     refine EL_mv p7 rfl ?_
     refine EL_in (.bool ((decide (z1 < j2)))) rfl rfl rfl rfl ?_
     refine EL_nil (thn_n ?_)
     rcases csome h with ⟨t8, h⟩ | ⟨t8, h⟩
     ·refine E_ct t8 rfl ?_
      exact E_skip (thn_n (zF () _ _ ⟨yD, hfr, k9, l9, m9, zD, e6, p7⟩ h))
     ·refine E_cf t8 rfl ?_
      refine E_exit ?_
      refine thn_e ?_
      refine thn_e ?_
      refine blk_hit ?_
      obtain rfl := sinj h
      exact hQ _ _ ⟨yD, hfr, k9, l9, m9, e6⟩
    ·rintro _ yI dK ⟨kH, hfr, p5, q3, v6, x6, q7, r7⟩ h
     refine E_block ?_
     refine E_seq (E_region (EL_mv q7 rfl ?_))
     refine EL_mv r7 rfl ?_
     refine EL_in (.int .i64 ((w64 (z1 + j2)))) rfl rfl rfl rfl ?_
     refine EL_pur (v := .int .u64 (wu64 (w64 (z1 + j2)))) (P_intu64 Try.underlying3 Try.underlying121 rfl) .plain rfl ?_
     obtain ⟨s2, aG, h⟩ := bsome h
     refine EL_pur (v := .int .u64 (s2)) (P_shrU rfl rfl aG) .plain rfl ?_
     refine EL_pur (v := .int .i64 ((w64 s2))) (P_u64int Try.underlying121 Try.underlying3 rfl) .plain rfl ?_
     refine EL_at (.int .i64 ((w64 s2))) rfl rfl ?_
     refine EL_nil (thn_n (E_seq ?_))
     obtain ⟨sD, sB, h⟩ := bsome h
     refine L_loadM (x := .tmp 43) Try.isAgg62 Try.sizeOf62 q3 sB fun aE lH bG => ?_
     obtain ⟨tD, tB, h⟩ := bsome h
     refine L_loadM (x := .tmp 47) Try.isAgg62 Try.sizeOf62 q3 tB fun bE mH cG => ?_
     obtain ⟨t6, dG, h⟩ := bsome h
     refine E_drawL (g := kH) (n := 11) [(9, (fun v g w => v = .int .i64 (t6)))] [0, 1, 2, 3, 4, 5, 6, 7, 8, 9, 10] rfl mixed (by kernel_rfl) (⟨fun _ => up_eq _, trivial⟩) ?_
     refine L_pur (c := (.func (.func ff4) fa4 fc4)) rfl rfl .plain (fun _ _ hd => P_move x6) ?_
     refine L_pur (c := up0) rfl rfl .plain (fun _ _ hd => P_move p5) ?_
     refine L_pur (c := .int .i64 ((w64 s2))) rfl rfl .plain (fun _ _ hd => P_move rfl) ?_
     refine L_pur (c := ePtr up0 (w64 s2) 5) rfl rfl .plain (fun _ _ hd => P_indexAddrM (α := FaultDamage) Try.underlying29 Try.sizeOf62 rfl q3 rfl sB) ?_
     refine L_ld (c := aE) rfl rfl .plain (fun _ _ h => ⟨h.ch, fun b hb _ => h.below.block b hb⟩) bG rfl ?_
     refine L_pur (c := up0) rfl rfl .plain (fun _ _ hd => P_move p5) ?_
     refine L_pur (c := .int .i64 (x1)) rfl rfl .plain (fun _ _ hd => P_move v6) ?_
     refine L_pur (c := ePtr up0 x1 5) rfl rfl .plain (fun _ _ hd => P_indexAddrM (α := FaultDamage) Try.underlying29 Try.sizeOf62 rfl q3 rfl tB) ?_
     refine L_ld (c := bE) rfl rfl .plain (fun _ _ h => ⟨h.ch, fun b hb _ => h.below.block b hb⟩) cG rfl ?_
     refine L_do (φ := fun v g w => v = .int .i64 (t6)) rfl rfl .plain (fun g w hd => D_callv (g := g) (vs := [aE, bE]) rfl fen4 (.cons rfl (.cons rfl .nil)) (fcl4 _ _ (hfr.ext hd.1).ch _ _ _ _ _  (lH.ext hd.1) (mH.ext hd.1) dG) fun g' w' v hs hr => ⟨g', hs, RV_int.1 hr⟩) (fun eK hv => ?_)
     obtain ⟨_, _, _, rfl⟩ := hv
     refine L_pur (c := .bool ((decide (t6 < (0 : Int))))) rfl rfl .plain (fun _ _ hd => P_int rfl rfl rfl) ?_
     refine L_nil fun cE gK hall => ?_
     have hs := hall.1
     have hfr := hfr.ext hs
     have q3 := q3.ext hs
     clear hs hall
     refine EL_nil (thn_n ?_)
     rcases csome h with ⟨v8, h⟩ | ⟨v8, h⟩
     ·refine E_ct v8 rfl ?_
      refine E_region (EL_mw (.int .i64 ((w64 s2))) rfl rfl ?_)
      refine EL_in (.int .i64 ((w64 ((w64 s2) + (1 : Int))))) rfl rfl rfl rfl ?_
      refine EL_at (.int .i64 ((w64 ((w64 s2) + (1 : Int))))) rfl rfl ?_
      exact EL_nil (blk_n (thn_n (rB ((w64 ((w64 s2) + (1 : Int))), j2) _ _ ⟨cE, hfr, p5, q3, v6, x6, rfl, r7⟩ h)))
     ·refine E_cf v8 rfl ?_
      refine E_region (EL_mw (.int .i64 ((w64 s2))) rfl rfl ?_)
      refine EL_at (.int .i64 ((w64 s2))) rfl rfl ?_
      exact EL_nil (blk_n (thn_n (rB (z1, (w64 s2)) _ _ ⟨cE, hfr, p5, q3, v6, x6, q7, rfl⟩ h)))
   ·clear hx
    obtain ⟨nH, hfr, dE, eE, gE, mC⟩ := hR
    obtain ⟨u6, hx, h⟩ := bsome h
    refine E_join (fun e w => ∃ (g : Gh) , FrM iI gI wI g w ∧ e 0 = up0 ∧ OM 1 g w 62 (u6 : List FaultDamage) up0) (fun Q' hQ => ?_) (fun zI iK hR => ?_)
    ·replace h := hx
     clear hx
     refine E_seq (E_region (EL_mv gE rfl ?_))
     refine EL_at (.int .i64 (x1)) rfl rfl ?_
     refine EL_nil (thn_n (E_block ?_))
     refine E_lp h (fun (s : (List FaultDamage) × Int) e w => ∃ (g : Gh) , FrM iI gI wI g w ∧ e 0 = up0 ∧ OM 1 g w 62 (s.1 : List FaultDamage) up0 ∧ e 10 = .int .i64 (d3) ∧ e 13 = .int .i64 (s.2)) ⟨nH, hfr, dE, eE, mC, rfl⟩ (fun X342 vD eG => ?_)
     rintro ⟨p3, u0⟩ aJ jK ⟨iE, hfr, n9, o9, t7, u7⟩ h
     refine E_joinC h (fun (s : Unit) e w => ∃ (g : Gh) , FrM iI gI wI g w ∧ e 0 = up0 ∧ OM 1 g w 62 (p3 : List FaultDamage) up0 ∧ e 10 = .int .i64 (d3) ∧ e 13 = .int .i64 (u0)) (fun X345 xD gG h => ?_) ?_
     ·refine E_seq (E_region (EL_mv u7 rfl ?_))
      refine EL_mv t7 rfl ?_
      refine EL_in (.int .i64 ((w64 (d3 - (1 : Int))))) rfl rfl rfl rfl ?_
      refine EL_pur (v := .bool ((decide (u0 < (w64 (d3 - (1 : Int))))))) (P_int rfl rfl rfl) .plain rfl ?_
      refine EL_nil (thn_n ?_)
      rcases csome h with ⟨x8, h⟩ | ⟨x8, h⟩
      ·refine E_ct x8 rfl ?_
       exact E_skip (thn_n (gG () _ _ ⟨iE, hfr, n9, o9, t7, u7⟩ h))
      ·refine E_cf x8 rfl ?_
       refine E_exit ?_
       refine thn_e ?_
       refine thn_e ?_
       refine blk_hit ?_
       obtain rfl := sinj h
       exact hQ _ _ ⟨iE, hfr, n9, o9⟩
     ·rintro _ bJ kK ⟨oH, hfr, c5, s3, nC, p4⟩ h
      obtain ⟨o5, hx, h⟩ := bsome h
      refine E_join (fun e w => ∃ (g : Gh) , FrM iI gI wI g w ∧ e 0 = up0 ∧ OM 1 g w 62 (o5 : List FaultDamage) up0 ∧ e 10 = .int .i64 (d3) ∧ e 13 = .int .i64 (u0)) (fun Q' hQ => ?_) (fun cJ lK hR => ?_)
      ·replace h := hx
       clear hx
       refine E_block ?_
       obtain ⟨q8, uB, h⟩ := bsome h
       refine L_loadM (x := .tmp 69) Try.isAgg62 Try.sizeOf62 s3 uB fun pH pB hG => ?_
       obtain ⟨oB, vB, h⟩ := bsome h
       refine L_loadM (x := .tmp 73) Try.isAgg62 Try.sizeOf62 s3 vB fun qH y6 iG => ?_
       obtain ⟨iH, xB, h⟩ := bsome h
       refine E_drawTL (g := oH) (n := 15) [2, 3, 4] [] [0, 1, 2, 3, 4, 5, 6, 7, 8, 9, 10, 11, 12, 13, 14] rfl mixed (by kernel_rfl) trivial rfl ?_
       refine L_pur (c := up0) rfl rfl .plain (fun _ _ hd => P_move c5) ?_
       refine L_pur (c := .int .i64 (u0)) rfl rfl .plain (fun _ _ hd => P_move p4) ?_
       refine L_purL (c := up0) rfl rfl .plain (P_move c5) ?_
       refine L_purL (c := .int .i64 (u0)) rfl rfl .plain (P_move p4) ?_
       refine L_purL (c := .int .i64 ((w64 (u0 + (1 : Int))))) rfl rfl .plain (P_int rfl rfl rfl) ?_
       refine L_pur (c := up0) rfl rfl .plain (fun _ _ hd => P_move c5) ?_
       refine L_pur (c := .int .i64 (u0)) rfl rfl .plain (fun _ _ hd => P_move p4) ?_
       refine L_pur (c := .int .i64 ((w64 (u0 + (1 : Int))))) rfl rfl .plain (fun _ _ hd => P_int rfl rfl rfl) ?_
       refine L_pur (c := ePtr up0 (w64 (u0 + (1 : Int))) 5) rfl rfl .plain (fun _ _ hd => P_indexAddrM (α := FaultDamage) Try.underlying29 Try.sizeOf62 rfl s3 rfl uB) ?_
       refine L_ld (c := pH) rfl rfl .plain (fun _ _ h => ⟨h.ch, fun b hb _ => h.below.block b hb⟩) hG rfl ?_
       refine L_pur (c := up0) rfl rfl .plain (fun _ _ hd => P_move c5) ?_
       refine L_pur (c := .int .i64 (u0)) rfl rfl .plain (fun _ _ hd => P_move p4) ?_
       refine L_pur (c := ePtr up0 u0 5) rfl rfl .plain (fun _ _ hd => P_indexAddrM (α := FaultDamage) Try.underlying29 Try.sizeOf62 rfl s3 rfl vB) ?_
       refine L_ld (c := qH) rfl rfl .plain (fun _ _ h => ⟨h.ch, fun b hb _ => h.below.block b hb⟩) iG rfl ?_
       refine L_pur (c := ePtr up0 u0 5) rfl rfl .plain (fun _ _ hd => P_indexAddrM (α := FaultDamage) Try.underlying29 Try.sizeOf62 rfl s3 rfl xB) ?_
       refine L_nil fun sH mK hall => ?_
       have hs := hall.1
       have hfr := hfr.ext hs
       have s3 := s3.ext hs
       have pB := pB.ext hs
       have y6 := y6.ext hs
       clear hs hall
       refine TL_do .plain rfl (D_storeM (g := sH) (α := FaultDamage) (a' := q8) Try.sizeOf62 rfl s3 xB rfl pB fun tH nK hs b399 => ?_)
       have hfr := hfr.stp hs
       have y6 := y6.stp hs
       obtain ⟨jH, yB, h⟩ := bsome h
       refine TL_pur (v := ePtr up0 (w64 (u0 + (1 : Int))) 5) (P_indexAddrM (α := FaultDamage) Try.underlying29 Try.sizeOf62 rfl b399 rfl yB) .plain rfl ?_
       refine TL_do .plain rfl (D_storeM (g := tH) (α := FaultDamage) (a' := oB) Try.sizeOf62 rfl b399 yB rfl y6 fun uH oK hs b401 => ?_)
       have hfr := hfr.stp hs
       refine TL_nil ?_
       refine blk_n ?_
       obtain rfl := sinj h
       exact hQ _ _ ⟨uH, hfr, c5, b401, nC, p4⟩
      ·clear hx
       obtain ⟨vH, hfr, jE, kE, oC, pC⟩ := hR
       refine E_region (EL_mv pC rfl ?_)
       refine EL_in (.int .i64 ((w64 (u0 + (1 : Int))))) rfl rfl rfl rfl ?_
       refine EL_at (.int .i64 ((w64 (u0 + (1 : Int))))) rfl rfl ?_
       exact EL_nil (thn_n (eG (o5, (w64 (u0 + (1 : Int)))) _ _ ⟨vH, hfr, jE, kE, oC, rfl⟩ h))
    ·clear hx
     obtain ⟨pK, hfr, tI, lE⟩ := hR
     refine E_ret (thn_r ?_)
     obtain rfl := sinj h
     exact end0 rfl rfl ⟨_, hfr, rfl, q6.back lE⟩
  ·refine E_cf r8 rfl ?_
   exact E_skip (thn_n (yF (x0) _ _ ⟨g0, hfr, rfl, mp0, rfl, rfl, rfl, rfl⟩ h))
 ·rintro i3 dJ qK ⟨mE, hfr, p9, q9, r9, q5, s9, t9⟩ h
  refine E_joinC h (fun (s : (List FaultDamage)) e w => ∃ (g : Gh) , FrM iI gI wI g w ∧ e 0 = up0 ∧ OM 1 g w 62 (s : List FaultDamage) up0 ∧ e 1 = .int .i64 (x1) ∧ e 2 = .int .i64 (x2) ∧ e 3 = .int .i64 (x3) ∧ e 4 = (.func (.func ff4) fa4 fc4)) (fun X608 lD jG h => ?_) ?_
  ·refine E_seq (E_region (EL_mv s9 rfl ?_))
   refine EL_mv q5 rfl ?_
   refine EL_in (.int .i64 ((w64 (x3 - x2)))) rfl rfl rfl rfl ?_
   refine EL_in (.bool (((w64 (x3 - x2)) == (1 : Int)))) rfl rfl rfl rfl ?_
   refine EL_nil (thn_n ?_)
   rcases csome h with ⟨y8, h⟩ | ⟨y8, h⟩
   ·refine E_ct y8 rfl ?_
    refine E_seq (E_region (EL_mv r9 rfl ?_))
    refine EL_at (.int .i64 (x1)) rfl rfl ?_
    refine EL_nil (thn_n (E_seq (E_region (EL_mv q5 rfl ?_))))
    refine EL_at (.int .i64 (x2)) rfl rfl ?_
    refine EL_nil (thn_n ?_)
    obtain ⟨j3, hx, h⟩ := bsome h
    refine E_join (fun e w => ∃ (g : Gh) , FrM iI gI wI g w ∧ e 0 = up0 ∧ OM 1 g w 62 (i3 : List FaultDamage) up0 ∧ e 2 = .int .i64 (x2) ∧ e 14 = .int .i64 (j3)) (fun Q' hQ => ?_) (fun eJ sK hR => ?_)
    ·replace h := hx
     clear hx
     refine E_block ?_
     refine E_lp h (fun (s : Int × Int) e w => ∃ (g : Gh) , FrM iI gI wI g w ∧ e 0 = up0 ∧ OM 1 g w 62 (i3 : List FaultDamage) up0 ∧ e 2 = .int .i64 (x2) ∧ e 4 = (.func (.func ff4) fa4 fc4) ∧ e 14 = .int .i64 (s.1) ∧ e 15 = .int .i64 (s.2)) ⟨mE, hfr, p9, q9, q5, t9, rfl, rfl⟩ (fun X649 lB zB => ?_)
     rintro ⟨j1, i2⟩ gJ tK ⟨nE, hfr, u9, v9, x9, oE, i6, v7⟩ h
     refine E_joinC h (fun (s : Unit) e w => ∃ (g : Gh) , FrM iI gI wI g w ∧ e 0 = up0 ∧ OM 1 g w 62 (i3 : List FaultDamage) up0 ∧ e 2 = .int .i64 (x2) ∧ e 4 = (.func (.func ff4) fa4 fc4) ∧ e 14 = .int .i64 (j1) ∧ e 15 = .int .i64 (i2)) (fun X652 oD kG h => ?_) ?_
     ·refine E_seq (E_region (EL_mv i6 rfl ?_))
      refine EL_mv v7 rfl ?_
      refine EL_in (.bool ((decide (j1 < i2)))) rfl rfl rfl rfl ?_
      refine EL_nil (thn_n ?_)
      rcases csome h with ⟨z8, h⟩ | ⟨z8, h⟩
      ·refine E_ct z8 rfl ?_
       exact E_skip (thn_n (kG () _ _ ⟨nE, hfr, u9, v9, x9, oE, i6, v7⟩ h))
      ·refine E_cf z8 rfl ?_
       refine E_exit ?_
       refine thn_e ?_
       refine thn_e ?_
       refine blk_hit ?_
       obtain rfl := sinj h
       exact hQ _ _ ⟨nE, hfr, u9, v9, x9, i6⟩
     ·rintro _ iJ uK ⟨xH, hfr, t5, u3, z6, a7, x7, y7⟩ h
      refine E_block ?_
      refine E_seq (E_region (EL_mv x7 rfl ?_))
      refine EL_mv y7 rfl ?_
      refine EL_in (.int .i64 ((w64 (j1 + i2)))) rfl rfl rfl rfl ?_
      refine EL_pur (v := .int .u64 (wu64 (w64 (j1 + i2)))) (P_intu64 Try.underlying3 Try.underlying121 rfl) .plain rfl ?_
      obtain ⟨q2, lG, h⟩ := bsome h
      refine EL_pur (v := .int .u64 (q2)) (P_shrU rfl rfl lG) .plain rfl ?_
      refine EL_pur (v := .int .i64 ((w64 q2))) (P_u64int Try.underlying121 Try.underlying3 rfl) .plain rfl ?_
      refine EL_at (.int .i64 ((w64 q2))) rfl rfl ?_
      refine EL_nil (thn_n (E_seq ?_))
      obtain ⟨mD, aC, h⟩ := bsome h
      refine L_loadM (x := .tmp 95) Try.isAgg62 Try.sizeOf62 u3 aC fun pE yH mG => ?_
      obtain ⟨nD, bC, h⟩ := bsome h
      refine L_loadM (x := .tmp 99) Try.isAgg62 Try.sizeOf62 u3 bC fun qE zH nG => ?_
      obtain ⟨d6, oG, h⟩ := bsome h
      refine E_drawL (g := xH) (n := 12) [(9, (fun v g w => v = .int .i64 (d6)))] [0, 1, 2, 3, 4, 5, 6, 7, 8, 9, 10, 11] rfl mixed (by kernel_rfl) (⟨fun _ => up_eq _, trivial⟩) ?_
      refine L_pur (c := (.func (.func ff4) fa4 fc4)) rfl rfl .plain (fun _ _ hd => P_move a7) ?_
      refine L_pur (c := up0) rfl rfl .plain (fun _ _ hd => P_move t5) ?_
      refine L_pur (c := .int .i64 (x2)) rfl rfl .plain (fun _ _ hd => P_move z6) ?_
      refine L_pur (c := ePtr up0 x2 5) rfl rfl .plain (fun _ _ hd => P_indexAddrM (α := FaultDamage) Try.underlying29 Try.sizeOf62 rfl u3 rfl aC) ?_
      refine L_ld (c := pE) rfl rfl .plain (fun _ _ h => ⟨h.ch, fun b hb _ => h.below.block b hb⟩) mG rfl ?_
      refine L_pur (c := up0) rfl rfl .plain (fun _ _ hd => P_move t5) ?_
      refine L_pur (c := .int .i64 ((w64 q2))) rfl rfl .plain (fun _ _ hd => P_move rfl) ?_
      refine L_pur (c := ePtr up0 (w64 q2) 5) rfl rfl .plain (fun _ _ hd => P_indexAddrM (α := FaultDamage) Try.underlying29 Try.sizeOf62 rfl u3 rfl bC) ?_
      refine L_ld (c := qE) rfl rfl .plain (fun _ _ h => ⟨h.ch, fun b hb _ => h.below.block b hb⟩) nG rfl ?_
      refine L_do (φ := fun v g w => v = .int .i64 (d6)) rfl rfl .plain (fun g w hd => D_callv (g := g) (vs := [pE, qE]) rfl fen4 (.cons rfl (.cons rfl .nil)) (fcl4 _ _ (hfr.ext hd.1).ch _ _ _ _ _  (yH.ext hd.1) (zH.ext hd.1) oG) fun g' w' v hs hr => ⟨g', hs, RV_int.1 hr⟩) (fun vK hv => ?_)
      obtain ⟨_, _, _, rfl⟩ := hv
      refine L_pur (c := .bool ((decide (d6 < (0 : Int))))) rfl rfl .plain (fun _ _ hd => P_int rfl rfl rfl) ?_
      refine L_pur (c := .bool (!(decide (d6 < (0 : Int))))) rfl rfl .plain (fun _ _ hd => P_not rfl) ?_
      refine L_nil fun rE xK hall => ?_
      have hs := hall.1
      have hfr := hfr.ext hs
      have u3 := u3.ext hs
      clear hs hall
      refine EL_nil (thn_n ?_)
      rcases csome h with ⟨a9, h⟩ | ⟨a9, h⟩
      ·refine E_ct a9 rfl ?_
       refine E_region (EL_mw (.int .i64 ((w64 q2))) rfl rfl ?_)
       refine EL_in (.int .i64 ((w64 ((w64 q2) + (1 : Int))))) rfl rfl rfl rfl ?_
       refine EL_at (.int .i64 ((w64 ((w64 q2) + (1 : Int))))) rfl rfl ?_
       exact EL_nil (blk_n (thn_n (zB ((w64 ((w64 q2) + (1 : Int))), i2) _ _ ⟨rE, hfr, t5, u3, z6, a7, rfl, y7⟩ h)))
      ·refine E_cf a9 rfl ?_
       refine E_region (EL_mw (.int .i64 ((w64 q2))) rfl rfl ?_)
       refine EL_at (.int .i64 ((w64 q2))) rfl rfl ?_
       exact EL_nil (blk_n (thn_n (zB (j1, (w64 q2)) _ _ ⟨rE, hfr, t5, u3, z6, a7, x7, rfl⟩ h)))
    ·clear hx
     obtain ⟨aI, hfr, sE, tE, uE, qC⟩ := hR
     obtain ⟨r6, hx, h⟩ := bsome h
     refine E_join (fun e w => ∃ (g : Gh) , FrM iI gI wI g w ∧ e 0 = up0 ∧ OM 1 g w 62 (r6 : List FaultDamage) up0) (fun Q' hQ => ?_) (fun jJ yK hR => ?_)
     ·replace h := hx
      clear hx
      refine E_seq (E_region (EL_mv uE rfl ?_))
      refine EL_at (.int .i64 (x2)) rfl rfl ?_
      refine EL_nil (thn_n (E_block ?_))
      refine E_lp h (fun (s : (List FaultDamage) × Int) e w => ∃ (g : Gh) , FrM iI gI wI g w ∧ e 0 = up0 ∧ OM 1 g w 62 (s.1 : List FaultDamage) up0 ∧ e 14 = .int .i64 (j3) ∧ e 17 = .int .i64 (s.2)) ⟨aI, hfr, sE, tE, qC, rfl⟩ (fun X750 pD pG => ?_)
      rintro ⟨o3, o0⟩ kJ zK ⟨vE, hfr, y9, z9, z7, a8⟩ h
      refine E_joinC h (fun (s : Unit) e w => ∃ (g : Gh) , FrM iI gI wI g w ∧ e 0 = up0 ∧ OM 1 g w 62 (o3 : List FaultDamage) up0 ∧ e 14 = .int .i64 (j3) ∧ e 17 = .int .i64 (o0)) (fun X753 qD qG h => ?_) ?_
      ·refine E_seq (E_region (EL_mv a8 rfl ?_))
       refine EL_mv z7 rfl ?_
       refine EL_in (.bool ((decide (o0 > j3)))) rfl rfl rfl rfl ?_
       refine EL_nil (thn_n ?_)
       rcases csome h with ⟨b9, h⟩ | ⟨b9, h⟩
       ·refine E_ct b9 rfl ?_
        exact E_skip (thn_n (qG () _ _ ⟨vE, hfr, y9, z9, z7, a8⟩ h))
       ·refine E_cf b9 rfl ?_
        refine E_exit ?_
        refine thn_e ?_
        refine thn_e ?_
        refine blk_hit ?_
        obtain rfl := sinj h
        exact hQ _ _ ⟨vE, hfr, y9, z9⟩
      ·rintro _ lJ aL ⟨bI, hfr, d5, z3, rC, q4⟩ h
       obtain ⟨n5, hx, h⟩ := bsome h
       refine E_join (fun e w => ∃ (g : Gh) , FrM iI gI wI g w ∧ e 0 = up0 ∧ OM 1 g w 62 (n5 : List FaultDamage) up0 ∧ e 14 = .int .i64 (j3) ∧ e 17 = .int .i64 (o0)) (fun Q' hQ => ?_) (fun mJ bL hR => ?_)
       ·replace h := hx
        clear hx
        refine E_block ?_
        obtain ⟨p8, cC, h⟩ := bsome h
        refine L_loadM (x := .tmp 121) Try.isAgg62 Try.sizeOf62 z3 cC fun cI qB rG => ?_
        obtain ⟨mB, dC, h⟩ := bsome h
        refine L_loadM (x := .tmp 125) Try.isAgg62 Try.sizeOf62 z3 dC fun dI b7 sG => ?_
        obtain ⟨dH, eC, h⟩ := bsome h
        refine E_drawTL (g := bI) (n := 15) [2, 3, 4] [] [0, 1, 2, 3, 4, 5, 6, 7, 8, 9, 10, 11, 12, 13, 14] rfl mixed (by kernel_rfl) trivial rfl ?_
        refine L_pur (c := up0) rfl rfl .plain (fun _ _ hd => P_move d5) ?_
        refine L_pur (c := .int .i64 (o0)) rfl rfl .plain (fun _ _ hd => P_move q4) ?_
        refine L_purL (c := up0) rfl rfl .plain (P_move d5) ?_
        refine L_purL (c := .int .i64 (o0)) rfl rfl .plain (P_move q4) ?_
        refine L_purL (c := .int .i64 ((w64 (o0 - (1 : Int))))) rfl rfl .plain (P_int rfl rfl rfl) ?_
        refine L_pur (c := up0) rfl rfl .plain (fun _ _ hd => P_move d5) ?_
        refine L_pur (c := .int .i64 (o0)) rfl rfl .plain (fun _ _ hd => P_move q4) ?_
        refine L_pur (c := .int .i64 ((w64 (o0 - (1 : Int))))) rfl rfl .plain (fun _ _ hd => P_int rfl rfl rfl) ?_
        refine L_pur (c := ePtr up0 (w64 (o0 - (1 : Int))) 5) rfl rfl .plain (fun _ _ hd => P_indexAddrM (α := FaultDamage) Try.underlying29 Try.sizeOf62 rfl z3 rfl cC) ?_
        refine L_ld (c := cI) rfl rfl .plain (fun _ _ h => ⟨h.ch, fun b hb _ => h.below.block b hb⟩) rG rfl ?_
        refine L_pur (c := up0) rfl rfl .plain (fun _ _ hd => P_move d5) ?_
        refine L_pur (c := .int .i64 (o0)) rfl rfl .plain (fun _ _ hd => P_move q4) ?_
        refine L_pur (c := ePtr up0 o0 5) rfl rfl .plain (fun _ _ hd => P_indexAddrM (α := FaultDamage) Try.underlying29 Try.sizeOf62 rfl z3 rfl dC) ?_
        refine L_ld (c := dI) rfl rfl .plain (fun _ _ h => ⟨h.ch, fun b hb _ => h.below.block b hb⟩) sG rfl ?_
        refine L_pur (c := ePtr up0 o0 5) rfl rfl .plain (fun _ _ hd => P_indexAddrM (α := FaultDamage) Try.underlying29 Try.sizeOf62 rfl z3 rfl eC) ?_
        refine L_nil fun eI cL hall => ?_
        have hs := hall.1
        have hfr := hfr.ext hs
        have z3 := z3.ext hs
        have qB := qB.ext hs
        have b7 := b7.ext hs
        clear hs hall
        refine TL_do .plain rfl (D_storeM (g := eI) (α := FaultDamage) (a' := p8) Try.sizeOf62 rfl z3 eC rfl qB fun jI dL hs b807 => ?_)
        have hfr := hfr.stp hs
        have b7 := b7.stp hs
        obtain ⟨gH, iC, h⟩ := bsome h
        refine TL_pur (v := ePtr up0 (w64 (o0 - (1 : Int))) 5) (P_indexAddrM (α := FaultDamage) Try.underlying29 Try.sizeOf62 rfl b807 rfl iC) .plain rfl ?_
        refine TL_do .plain rfl (D_storeM (g := jI) (α := FaultDamage) (a' := mB) Try.sizeOf62 rfl b807 iC rfl b7 fun kI eL hs b809 => ?_)
        have hfr := hfr.stp hs
        refine TL_nil ?_
        refine blk_n ?_
        obtain rfl := sinj h
        exact hQ _ _ ⟨kI, hfr, d5, b809, rC, q4⟩
       ·clear hx
        obtain ⟨lI, hfr, xE, yE, sC, tC⟩ := hR
        refine E_region (EL_mv tC rfl ?_)
        refine EL_in (.int .i64 ((w64 (o0 - (1 : Int))))) rfl rfl rfl rfl ?_
        refine EL_at (.int .i64 ((w64 (o0 - (1 : Int))))) rfl rfl ?_
        exact EL_nil (thn_n (pG (n5, (w64 (o0 - (1 : Int)))) _ _ ⟨lI, hfr, xE, yE, sC, rfl⟩ h))
     ·clear hx
      obtain ⟨gL, hfr, uI, zE⟩ := hR
      refine E_ret (thn_r ?_)
      obtain rfl := sinj h
      exact end0 rfl rfl ⟨_, hfr, rfl, q6.back zE⟩
   ·refine E_cf y8 rfl ?_
    exact E_skip (thn_n (jG (i3) _ _ ⟨mE, hfr, p9, q9, r9, q5, s9, t9⟩ h))
  ·rintro z2 nJ iL ⟨aF, hfr, aA, bA, u5, i5, x5, cA⟩ h
   refine E_seq (E_region (EL_mv u5 rfl ?_))
   refine EL_mv x5 rfl ?_
   refine EL_in (.int .i64 ((w64 (x1 + x3)))) rfl rfl rfl rfl ?_
   refine EL_pur (v := .int .u64 (wu64 (w64 (x1 + x3)))) (P_intu64 Try.underlying3 Try.underlying121 rfl) .plain rfl ?_
   obtain ⟨n0, tG, h⟩ := bsome h
   refine EL_pur (v := .int .u64 (n0)) (P_shrU rfl rfl tG) .plain rfl ?_
   refine EL_pur (v := .int .i64 ((w64 n0))) (P_u64int Try.underlying121 Try.underlying3 rfl) .plain rfl ?_
   refine EL_at (.int .i64 ((w64 n0))) rfl rfl ?_
   refine EL_nil (thn_n (E_seq (E_region (EL_mw (.int .i64 ((w64 n0))) rfl rfl ?_))))
   refine EL_mv i5 rfl ?_
   refine EL_in (.int .i64 ((w64 ((w64 n0) + x2)))) rfl rfl rfl rfl ?_
   refine EL_at (.int .i64 ((w64 ((w64 n0) + x2)))) rfl rfl ?_
   refine EL_nil (thn_n (E_seq (E_region (EL_at (.int .i64 (0)) rfl rfl ?_))))
   refine EL_at (.int .i64 (0)) rfl rfl ?_
   refine EL_nil (thn_n ?_)
   obtain ⟨⟨a6, b6⟩, hx, h⟩ := bsome h
   refine E_join (fun e w => ∃ (g : Gh) , FrM iI gI wI g w ∧ e 0 = up0 ∧ OM 1 g w 62 (z2 : List FaultDamage) up0 ∧ e 1 = .int .i64 (x1) ∧ e 2 = .int .i64 (x2) ∧ e 3 = .int .i64 (x3) ∧ e 4 = (.func (.func ff4) fa4 fc4) ∧ e 18 = .int .i64 ((w64 n0)) ∧ e 19 = .int .i64 ((w64 ((w64 n0) + x2))) ∧ e 20 = .int .i64 (a6) ∧ e 21 = .int .i64 (b6)) (fun Q' hQ => ?_) (fun oJ jL hR => ?_)
   ·replace h := hx
    clear hx
    refine E_seq (E_region (EL_mv i5 rfl ?_))
    refine EL_mw (.int .i64 ((w64 n0))) rfl rfl ?_
    refine EL_in (.bool ((decide (x2 > (w64 n0))))) rfl rfl rfl rfl ?_
    refine EL_nil (thn_n ?_)
    rcases csome h with ⟨c9, h⟩ | ⟨c9, h⟩
    ·refine E_ct c9 rfl ?_
     refine E_seq (E_region (EL_mw (.int .i64 ((w64 ((w64 n0) + x2)))) rfl rfl ?_))
     refine EL_mv x5 rfl ?_
     refine EL_pur (v := .int .i64 ((w64 ((w64 ((w64 n0) + x2)) - x3)))) (P_int rfl rfl rfl) .plain rfl ?_
     refine EL_pur (v := .int .i64 ((w64 ((w64 ((w64 n0) + x2)) - x3)))) (P_assign rfl) .plain rfl ?_
     refine EL_nil (thn_n (E_region (EL_mw (.int .i64 ((w64 n0))) rfl rfl ?_)))
     refine EL_at (.int .i64 ((w64 n0))) rfl rfl ?_
     refine EL_nil ?_
     obtain ⟨rfl, rfl⟩ := pairs2 h
     exact hQ _ _ ⟨aF, hfr, aA, bA, u5, i5, x5, cA, rfl, rfl, rfl, rfl⟩
    ·refine E_cf c9 rfl ?_
     refine E_seq (E_region (EL_mv u5 rfl ?_))
     refine EL_at (.int .i64 (x1)) rfl rfl ?_
     refine EL_nil (thn_n (E_region (EL_mv i5 rfl ?_)))
     refine EL_at (.int .i64 (x2)) rfl rfl ?_
     refine EL_nil ?_
     obtain ⟨rfl, rfl⟩ := pairs2 h
     exact hQ _ _ ⟨aF, hfr, aA, bA, u5, i5, x5, cA, rfl, rfl, rfl, rfl⟩
   ·clear hx
    obtain ⟨mI, hfr, bF, cF, dF, eF, gF, iF, uC, b8, vC, xC⟩ := hR
    refine E_seq (E_region (EL_mv b8 rfl ?_))
    refine EL_pur (v := .int .i64 ((w64 ((w64 ((w64 n0) + x2)) - (1 : Int))))) (P_int rfl rfl rfl) .plain rfl ?_
    refine EL_pur (v := .int .i64 ((w64 ((w64 ((w64 n0) + x2)) - (1 : Int))))) (P_assign rfl) .plain rfl ?_
    refine EL_nil (thn_n ?_)
    obtain ⟨j0, hx, h⟩ := bsome h
    refine E_join (fun e w => ∃ (g : Gh) , FrM iI gI wI g w ∧ e 0 = up0 ∧ OM 1 g w 62 (z2 : List FaultDamage) up0 ∧ e 1 = .int .i64 (x1) ∧ e 2 = .int .i64 (x2) ∧ e 3 = .int .i64 (x3) ∧ e 4 = (.func (.func ff4) fa4 fc4) ∧ e 18 = .int .i64 ((w64 n0)) ∧ e 19 = .int .i64 ((w64 ((w64 n0) + x2))) ∧ e 20 = .int .i64 (j0)) (fun Q' hQ => ?_) (fun pJ kL hR => ?_)
    ·replace h := hx
     clear hx
     refine E_block ?_
     refine E_lp h (fun (s : Int × Int) e w => ∃ (g : Gh) , FrM iI gI wI g w ∧ e 0 = up0 ∧ OM 1 g w 62 (z2 : List FaultDamage) up0 ∧ e 1 = .int .i64 (x1) ∧ e 2 = .int .i64 (x2) ∧ e 3 = .int .i64 (x3) ∧ e 4 = (.func (.func ff4) fa4 fc4) ∧ e 18 = .int .i64 ((w64 n0)) ∧ e 19 = .int .i64 ((w64 ((w64 n0) + x2))) ∧ e 20 = .int .i64 (s.1) ∧ e 21 = .int .i64 (s.2) ∧ e 22 = .int .i64 ((w64 ((w64 ((w64 n0) + x2)) - (1 : Int))))) ⟨mI, hfr, bF, cF, dF, eF, gF, iF, uC, b8, vC, xC, rfl⟩ (fun X863 kB jC => ?_)
     rintro ⟨i1, d2⟩ qJ lL ⟨jF, hfr, dA, eA, gA, iA, jA, kA, c8, d8, j6, e8, yC⟩ h
     refine E_joinC h (fun (s : Unit) e w => ∃ (g : Gh) , FrM iI gI wI g w ∧ e 0 = up0 ∧ OM 1 g w 62 (z2 : List FaultDamage) up0 ∧ e 1 = .int .i64 (x1) ∧ e 2 = .int .i64 (x2) ∧ e 3 = .int .i64 (x3) ∧ e 4 = (.func (.func ff4) fa4 fc4) ∧ e 18 = .int .i64 ((w64 n0)) ∧ e 19 = .int .i64 ((w64 ((w64 n0) + x2))) ∧ e 20 = .int .i64 (i1) ∧ e 21 = .int .i64 (d2) ∧ e 22 = .int .i64 ((w64 ((w64 ((w64 n0) + x2)) - (1 : Int))))) (fun X866 gD uG h => ?_) ?_
     ·refine E_seq (E_region (EL_mv j6 rfl ?_))
      refine EL_mv e8 rfl ?_
      refine EL_in (.bool ((decide (i1 < d2)))) rfl rfl rfl rfl ?_
      refine EL_nil (thn_n ?_)
      rcases csome h with ⟨d9, h⟩ | ⟨d9, h⟩
      ·refine E_ct d9 rfl ?_
       exact E_skip (thn_n (uG () _ _ ⟨jF, hfr, dA, eA, gA, iA, jA, kA, c8, d8, j6, e8, yC⟩ h))
      ·refine E_cf d9 rfl ?_
       refine E_exit ?_
       refine thn_e ?_
       refine thn_e ?_
       refine blk_hit ?_
       obtain rfl := sinj h
       exact hQ _ _ ⟨jF, hfr, dA, eA, gA, iA, jA, kA, c8, d8, j6⟩
     ·rintro _ rJ mL ⟨nI, hfr, y5, c4, lA, mA, nA, c7, g8, i8, j8, k8, k6⟩ h
      refine E_block ?_
      refine E_seq (E_region (EL_mv j8 rfl ?_))
      refine EL_mv k8 rfl ?_
      refine EL_in (.int .i64 ((w64 (i1 + d2)))) rfl rfl rfl rfl ?_
      refine EL_pur (v := .int .u64 (wu64 (w64 (i1 + d2)))) (P_intu64 Try.underlying3 Try.underlying121 rfl) .plain rfl ?_
      obtain ⟨y0, vG, h⟩ := bsome h
      refine EL_pur (v := .int .u64 (y0)) (P_shrU rfl rfl vG) .plain rfl ?_
      refine EL_pur (v := .int .i64 ((w64 y0))) (P_u64int Try.underlying121 Try.underlying3 rfl) .plain rfl ?_
      refine EL_at (.int .i64 ((w64 y0))) rfl rfl ?_
      refine EL_nil (thn_n (E_seq ?_))
      obtain ⟨dD, kC, h⟩ := bsome h
      refine L_loadM (x := .tmp 163) Try.isAgg62 Try.sizeOf62 c4 kC fun kF oI xG => ?_
      obtain ⟨eD, lC, h⟩ := bsome h
      refine L_loadM (x := .tmp 167) Try.isAgg62 Try.sizeOf62 c4 lC fun lF pI yG => ?_
      obtain ⟨c6, zG, h⟩ := bsome h
      refine E_drawL (g := nI) (n := 14) [(11, (fun v g w => v = .int .i64 (c6)))] [0, 1, 2, 3, 4, 5, 6, 7, 8, 9, 10, 11, 12, 13] rfl mixed (by kernel_rfl) (⟨fun _ => up_eq _, trivial⟩) ?_
      refine L_pur (c := (.func (.func ff4) fa4 fc4)) rfl rfl .plain (fun _ _ hd => P_move c7) ?_
      refine L_pur (c := up0) rfl rfl .plain (fun _ _ hd => P_move y5) ?_
      refine L_pur (c := .int .i64 ((w64 ((w64 ((w64 n0) + x2)) - (1 : Int))))) rfl rfl .plain (fun _ _ hd => P_move k6) ?_
      refine L_pur (c := .int .i64 ((w64 y0))) rfl rfl .plain (fun _ _ hd => P_move rfl) ?_
      refine L_pur (c := .int .i64 ((w64 ((w64 ((w64 ((w64 n0) + x2)) - (1 : Int))) - (w64 y0))))) rfl rfl .plain (fun _ _ hd => P_int rfl rfl rfl) ?_
      refine L_pur (c := ePtr up0 (w64 ((w64 ((w64 ((w64 n0) + x2)) - (1 : Int))) - (w64 y0))) 5) rfl rfl .plain (fun _ _ hd => P_indexAddrM (α := FaultDamage) Try.underlying29 Try.sizeOf62 rfl c4 rfl kC) ?_
      refine L_ld (c := kF) rfl rfl .plain (fun _ _ h => ⟨h.ch, fun b hb _ => h.below.block b hb⟩) xG rfl ?_
      refine L_pur (c := up0) rfl rfl .plain (fun _ _ hd => P_move y5) ?_
      refine L_pur (c := .int .i64 ((w64 y0))) rfl rfl .plain (fun _ _ hd => P_move rfl) ?_
      refine L_pur (c := ePtr up0 (w64 y0) 5) rfl rfl .plain (fun _ _ hd => P_indexAddrM (α := FaultDamage) Try.underlying29 Try.sizeOf62 rfl c4 rfl lC) ?_
      refine L_ld (c := lF) rfl rfl .plain (fun _ _ h => ⟨h.ch, fun b hb _ => h.below.block b hb⟩) yG rfl ?_
      refine L_do (φ := fun v g w => v = .int .i64 (c6)) rfl rfl .plain (fun g w hd => D_callv (g := g) (vs := [kF, lF]) rfl fen4 (.cons rfl (.cons rfl .nil)) (fcl4 _ _ (hfr.ext hd.1).ch _ _ _ _ _  (oI.ext hd.1) (pI.ext hd.1) zG) fun g' w' v hs hr => ⟨g', hs, RV_int.1 hr⟩) (fun nL hv => ?_)
      obtain ⟨_, _, _, rfl⟩ := hv
      refine L_pur (c := .bool ((decide (c6 < (0 : Int))))) rfl rfl .plain (fun _ _ hd => P_int rfl rfl rfl) ?_
      refine L_pur (c := .bool (!(decide (c6 < (0 : Int))))) rfl rfl .plain (fun _ _ hd => P_not rfl) ?_
      refine L_nil fun mF oL hall => ?_
      have hs := hall.1
      have hfr := hfr.ext hs
      have c4 := c4.ext hs
      clear hs hall
      refine EL_nil (thn_n ?_)
      rcases csome h with ⟨e9, h⟩ | ⟨e9, h⟩
      ·refine E_ct e9 rfl ?_
       refine E_region (EL_mw (.int .i64 ((w64 y0))) rfl rfl ?_)
       refine EL_in (.int .i64 ((w64 ((w64 y0) + (1 : Int))))) rfl rfl rfl rfl ?_
       refine EL_at (.int .i64 ((w64 ((w64 y0) + (1 : Int))))) rfl rfl ?_
       exact EL_nil (blk_n (thn_n (jC ((w64 ((w64 y0) + (1 : Int))), d2) _ _ ⟨mF, hfr, y5, c4, lA, mA, nA, c7, g8, i8, rfl, k8, k6⟩ h)))
      ·refine E_cf e9 rfl ?_
       refine E_region (EL_mw (.int .i64 ((w64 y0))) rfl rfl ?_)
       refine EL_at (.int .i64 ((w64 y0))) rfl rfl ?_
       exact EL_nil (blk_n (thn_n (jC (i1, (w64 y0)) _ _ ⟨mF, hfr, y5, c4, lA, mA, nA, c7, g8, i8, j8, rfl, k6⟩ h)))
    ·clear hx
     obtain ⟨nF, hfr, oA, pA, qA, z5, rA, sA, l8, zC, j5⟩ := hR
     refine E_seq (E_region (EL_mv zC rfl ?_))
     refine EL_mv j5 rfl ?_
     refine EL_pur (v := .int .i64 ((w64 ((w64 ((w64 n0) + x2)) - j0)))) (P_int rfl rfl rfl) .plain rfl ?_
     refine EL_pur (v := .int .i64 ((w64 ((w64 ((w64 n0) + x2)) - j0)))) (P_assign rfl) .plain rfl ?_
     refine EL_nil (thn_n ?_)
     obtain ⟨u4, hx, h⟩ := bsome h
     refine E_join (fun e w => ∃ (g : Gh) , FrM iI gI wI g w ∧ e 0 = up0 ∧ OM 1 g w 62 (u4 : List FaultDamage) up0 ∧ e 1 = .int .i64 (x1) ∧ e 3 = .int .i64 (x3) ∧ e 4 = (.func (.func ff4) fa4 fc4) ∧ e 18 = .int .i64 ((w64 n0)) ∧ e 20 = .int .i64 (j0) ∧ e 24 = .int .i64 ((w64 ((w64 ((w64 n0) + x2)) - j0)))) (fun Q' hQ => ?_) (fun sJ pL hR => ?_)
     ·replace h := hx
      clear hx
      obtain ⟨m4, hx, h⟩ := bsome h
      refine E_join (fun e w => ∃ (g : Gh) , FrM iI gI wI g w ∧ e 0 = up0 ∧ OM 1 g w 62 (z2 : List FaultDamage) up0 ∧ e 1 = .int .i64 (x1) ∧ e 2 = .int .i64 (x2) ∧ e 3 = .int .i64 (x3) ∧ e 4 = (.func (.func ff4) fa4 fc4) ∧ e 18 = .int .i64 ((w64 n0)) ∧ e 20 = .int .i64 (j0) ∧ e 24 = .int .i64 ((w64 ((w64 ((w64 n0) + x2)) - j0))) ∧ e 185 = .bool (m4)) (fun Q' hQ => ?_) (fun tJ qL hR => ?_)
      ·replace h := hx
       clear hx
       refine E_region (EL_mv j5 rfl ?_)
       refine EL_mv z5 rfl ?_
       refine EL_in (.bool ((decide (j0 < x2)))) rfl rfl rfl rfl ?_
       refine EL_mw (.bool ((decide (j0 < x2)))) rfl rfl ?_
       rcases csome h with ⟨d4, h⟩ | ⟨d4, h⟩
       ·refine EL_pur (v := .int .i64 (x2)) (P_move z5) (.yes2 rfl rfl d4) rfl ?_
        refine EL_pur (v := .int .i64 ((w64 ((w64 ((w64 n0) + x2)) - j0)))) (P_move rfl) (.yes2 rfl rfl d4) rfl ?_
        refine EL_pur (v := .bool ((decide (x2 < (w64 ((w64 ((w64 n0) + x2)) - j0)))))) (P_int rfl rfl rfl) (.yes2 rfl rfl d4) rfl ?_
        refine EL_pur (v := .bool ((decide (x2 < (w64 ((w64 ((w64 n0) + x2)) - j0)))))) (P_pick (b := (decide (j0 < x2))) rfl (pick_t d4 rfl)) .plain rfl ?_
        refine EL_nil ?_
        obtain rfl := sinj h
        exact hQ _ _ ⟨nF, hfr, oA, pA, qA, z5, rA, sA, l8, j5, rfl, rfl⟩
       ·refine EL_skip (.no2 rfl rfl d4 rfl) rfl ?_
        refine EL_skip (.no2 rfl rfl d4 rfl) rfl ?_
        refine EL_skip (.no2 rfl rfl d4 rfl) rfl ?_
        refine EL_pur (v := .bool false) (P_pick (b := (decide (j0 < x2))) rfl (pick_f d4 rfl)) .plain rfl ?_
        refine EL_nil ?_
        obtain rfl := sinj h
        exact hQ _ _ ⟨nF, hfr, oA, pA, qA, z5, rA, sA, l8, j5, rfl, rfl⟩
      ·clear hx
       obtain ⟨oF, hfr, d7, tA, uA, pF, vA, e7, m8, l6, m6, g7⟩ := hR
       rcases csome h with ⟨g9, h⟩ | ⟨g9, h⟩
       ·refine E_cond_true (Eq.trans (show ev _ _ = .bool (m4) from g7) (congrArg Value.bool g9)) ?_
        refine E_region (EL_mv d7 rfl ?_)
        refine EL_mv l6 rfl ?_
        refine EL_mv pF rfl ?_
        refine EL_pur (v := .int .i64 ((w64 ((w64 ((w64 n0) + x2)) - j0)))) (P_move m6) .plain rfl ?_
        refine EL_mv e7 rfl ?_
        obtain ⟨iD, aH, h⟩ := bsome h
        refine EL_do .plain rfl (D_callM (g := oF) (i := 1) (vs := [up0, .int .i64 (j0), .int .i64 (x2), .int .i64 ((w64 ((w64 ((w64 n0) + x2)) - j0))), (.func (.func ff4) fa4 fc4)]) en113 (.cons rfl (.cons rfl (.cons rfl (.cons rfl (.cons rfl .nil))))) (wk113 tA (FnV2.ch ⟨_, _, _, rfl, fen4, fcl4⟩ hfr.ch) aH) fun qI uJ rL hs hr => ?_)
        obtain ⟨hrv, b920⟩ := hr
        subst hrv
        have hfr := hfr.stp hs
        refine EL_nil ?_
        obtain rfl := sinj h
        exact hQ _ _ ⟨qI, hfr, d7, b920, uA, vA, e7, m8, l6, m6⟩
       ·refine E_cond_false (Eq.trans (show ev _ _ = .bool (m4) from g7) (congrArg Value.bool g9)) ?_
        refine E_skip ?_
        obtain rfl := sinj h
        exact hQ _ _ ⟨oF, hfr, d7, tA, uA, vA, e7, m8, l6, m6⟩
     ·clear hx
      obtain ⟨qF, hfr, xA, yA, i7, zA, aB, n6, l5, n8⟩ := hR
      obtain ⟨z4, hx, h⟩ := bsome h
      refine E_join (fun e w => ∃ (g : Gh) , FrM iI gI wI g w ∧ e 0 = up0 ∧ OM 1 g w 62 (z4 : List FaultDamage) up0 ∧ e 3 = .int .i64 (x3) ∧ e 4 = (.func (.func ff4) fa4 fc4) ∧ e 18 = .int .i64 ((w64 n0)) ∧ e 24 = .int .i64 ((w64 ((w64 ((w64 n0) + x2)) - j0)))) (fun Q' hQ => ?_) (fun vJ sL hR => ?_)
      ·replace h := hx
       clear hx
       obtain ⟨n4, hx, h⟩ := bsome h
       refine E_join (fun e w => ∃ (g : Gh) , FrM iI gI wI g w ∧ e 0 = up0 ∧ OM 1 g w 62 (u4 : List FaultDamage) up0 ∧ e 1 = .int .i64 (x1) ∧ e 3 = .int .i64 (x3) ∧ e 4 = (.func (.func ff4) fa4 fc4) ∧ e 18 = .int .i64 ((w64 n0)) ∧ e 20 = .int .i64 (j0) ∧ e 24 = .int .i64 ((w64 ((w64 ((w64 n0) + x2)) - j0))) ∧ e 199 = .bool (n4)) (fun Q' hQ => ?_) (fun xJ tL hR => ?_)
       ·replace h := hx
        clear hx
        refine E_region (EL_mv i7 rfl ?_)
        refine EL_mv l5 rfl ?_
        refine EL_in (.bool ((decide (x1 < j0)))) rfl rfl rfl rfl ?_
        refine EL_mw (.bool ((decide (x1 < j0)))) rfl rfl ?_
        rcases csome h with ⟨i4, h⟩ | ⟨i4, h⟩
        ·refine EL_pur (v := .int .i64 (j0)) (P_move l5) (.yes2 rfl rfl i4) rfl ?_
         refine EL_pur (v := .int .i64 ((w64 n0))) (P_move n6) (.yes2 rfl rfl i4) rfl ?_
         refine EL_pur (v := .bool ((decide (j0 < (w64 n0))))) (P_int rfl rfl rfl) (.yes2 rfl rfl i4) rfl ?_
         refine EL_pur (v := .bool ((decide (j0 < (w64 n0))))) (P_pick (b := (decide (x1 < j0))) rfl (pick_t i4 rfl)) .plain rfl ?_
         refine EL_nil ?_
         obtain rfl := sinj h
         exact hQ _ _ ⟨qF, hfr, xA, yA, i7, zA, aB, n6, l5, n8, rfl⟩
        ·refine EL_skip (.no2 rfl rfl i4 rfl) rfl ?_
         refine EL_skip (.no2 rfl rfl i4 rfl) rfl ?_
         refine EL_skip (.no2 rfl rfl i4 rfl) rfl ?_
         refine EL_pur (v := .bool false) (P_pick (b := (decide (x1 < j0))) rfl (pick_f i4 rfl)) .plain rfl ?_
         refine EL_nil ?_
         obtain rfl := sinj h
         exact hQ _ _ ⟨qF, hfr, xA, yA, i7, zA, aB, n6, l5, n8, rfl⟩
       ·clear hx
        obtain ⟨rF, hfr, j7, bB, sF, cB, l7, o6, aD, o8, m7⟩ := hR
        rcases csome h with ⟨i9, h⟩ | ⟨i9, h⟩
        ·refine E_cond_true (Eq.trans (show ev _ _ = .bool (n4) from m7) (congrArg Value.bool i9)) ?_
         refine E_region (EL_mv j7 rfl ?_)
         refine EL_mv sF rfl ?_
         refine EL_mv aD rfl ?_
         refine EL_mv o6 rfl ?_
         refine EL_mv l7 rfl ?_
         obtain ⟨jD, bH, h⟩ := bsome h
         refine EL_do .plain rfl (D_callM (g := rF) (i := 1) (vs := [up0, .int .i64 (x1), .int .i64 (j0), .int .i64 ((w64 n0)), (.func (.func ff4) fa4 fc4)]) en108 (.cons rfl (.cons rfl (.cons rfl (.cons rfl (.cons rfl .nil))))) (ih bB (FnV2.ch ⟨_, _, _, rfl, fen4, fcl4⟩ hfr.ch) bH) fun rI yJ uL hs hr => ?_)
         obtain ⟨hrv, b933⟩ := hr
         subst hrv
         have hfr := hfr.stp hs
         refine EL_nil ?_
         obtain rfl := sinj h
         exact hQ _ _ ⟨rI, hfr, j7, b933, cB, l7, o6, o8⟩
        ·refine E_cond_false (Eq.trans (show ev _ _ = .bool (n4) from m7) (congrArg Value.bool i9)) ?_
         refine E_skip ?_
         obtain rfl := sinj h
         exact hQ _ _ ⟨rF, hfr, j7, bB, cB, l7, o6, o8⟩
      ·clear hx
       obtain ⟨tF, hfr, dB, eB, n7, iB, p6, m5⟩ := hR
       obtain ⟨o4, hx, h⟩ := bsome h
       refine E_join (fun e w => ∃ (g : Gh) , FrM iI gI wI g w ∧ e 0 = up0 ∧ OM 1 g w 62 (z4 : List FaultDamage) up0 ∧ e 3 = .int .i64 (x3) ∧ e 4 = (.func (.func ff4) fa4 fc4) ∧ e 18 = .int .i64 ((w64 n0)) ∧ e 24 = .int .i64 ((w64 ((w64 ((w64 n0) + x2)) - j0))) ∧ e 213 = .bool (o4)) (fun Q' hQ => ?_) (fun zJ vL hR => ?_)
       ·replace h := hx
        clear hx
        refine E_region (EL_mv p6 rfl ?_)
        refine EL_pur (v := .int .i64 ((w64 ((w64 ((w64 n0) + x2)) - j0)))) (P_move m5) .plain rfl ?_
        refine EL_pur (v := .bool ((decide ((w64 n0) < (w64 ((w64 ((w64 n0) + x2)) - j0)))))) (P_int rfl rfl rfl) .plain rfl ?_
        refine EL_pur (v := .bool ((decide ((w64 n0) < (w64 ((w64 ((w64 n0) + x2)) - j0)))))) (P_move rfl) .plain rfl ?_
        rcases csome h with ⟨j4, h⟩ | ⟨j4, h⟩
        ·refine EL_pur (v := .int .i64 ((w64 ((w64 ((w64 n0) + x2)) - j0)))) (P_move m5) (.yes2 rfl rfl j4) rfl ?_
         refine EL_pur (v := .int .i64 (x3)) (P_move n7) (.yes2 rfl rfl j4) rfl ?_
         refine EL_pur (v := .bool ((decide ((w64 ((w64 ((w64 n0) + x2)) - j0)) < x3)))) (P_int rfl rfl rfl) (.yes2 rfl rfl j4) rfl ?_
         refine EL_pur (v := .bool ((decide ((w64 ((w64 ((w64 n0) + x2)) - j0)) < x3)))) (P_pick (b := (decide ((w64 n0) < (w64 ((w64 ((w64 n0) + x2)) - j0))))) rfl (pick_t j4 rfl)) .plain rfl ?_
         refine EL_nil ?_
         obtain rfl := sinj h
         exact hQ _ _ ⟨tF, hfr, dB, eB, n7, iB, p6, m5, rfl⟩
        ·refine EL_skip (.no2 rfl rfl j4 rfl) rfl ?_
         refine EL_skip (.no2 rfl rfl j4 rfl) rfl ?_
         refine EL_skip (.no2 rfl rfl j4 rfl) rfl ?_
         refine EL_pur (v := .bool false) (P_pick (b := (decide ((w64 n0) < (w64 ((w64 ((w64 n0) + x2)) - j0))))) rfl (pick_f j4 rfl)) .plain rfl ?_
         refine EL_nil ?_
         obtain rfl := sinj h
         exact hQ _ _ ⟨tF, hfr, dB, eB, n7, iB, p6, m5, rfl⟩
       ·clear hx
        obtain ⟨sI, hfr, uF, jB, vF, xF, bD, cD, o7⟩ := hR
        rcases csome h with ⟨j9, h⟩ | ⟨j9, h⟩
        ·refine E_cond_true (Eq.trans (show ev _ _ = .bool (o4) from o7) (congrArg Value.bool j9)) ?_
         refine E_region (EL_mv uF rfl ?_)
         refine EL_mv bD rfl ?_
         refine EL_pur (v := .int .i64 ((w64 ((w64 ((w64 n0) + x2)) - j0)))) (P_move cD) .plain rfl ?_
         refine EL_mv vF rfl ?_
         refine EL_mv xF rfl ?_
         obtain ⟨kD, cH, h⟩ := bsome h
         refine EL_do .plain rfl (D_callM (g := sI) (i := 1) (vs := [up0, .int .i64 ((w64 n0)), .int .i64 ((w64 ((w64 ((w64 n0) + x2)) - j0))), .int .i64 (x3), (.func (.func ff4) fa4 fc4)]) en108 (.cons rfl (.cons rfl (.cons rfl (.cons rfl (.cons rfl .nil))))) (ih jB (FnV2.ch ⟨_, _, _, rfl, fen4, fcl4⟩ hfr.ch) cH) fun xL aK yL hs hr => ?_)
         obtain ⟨hrv, b940⟩ := hr
         subst hrv
         have hfr := hfr.stp hs
         refine EL_nil ?_
         obtain rfl := sinj h
         exact end0n rfl rfl ⟨_, hfr, rfl, q6.back b940⟩
        ·refine E_cond_false (Eq.trans (show ev _ _ = .bool (o4) from o7) (congrArg Value.bool j9)) ?_
         refine E_skip ?_
         obtain rfl := sinj h
         exact end0n rfl rfl ⟨_, hfr, rfl, q6.back jB⟩
/-- griffe/grifferef05.Check -/
def f23 (x0 : FaultLoom) (x1 : List FaultDamage) : Option (Int) :=
 jn (σ := Unit) (fun (_ : Unit) =>
  jn (σ := Unit) (fun (_ : Unit) =>
   jn (σ := Unit) (fun (_ : Unit) =>
    some ((0 : Int))
    ) fun p4 =>
   lp (σ := Int) (fun q4 j0 =>
    jn (σ := Unit) (fun (_ : Unit) =>
     jn (σ := Unit) (fun (_ : Unit) =>
      q4 ((w64 (j0 + (1 : Int))))
      ) fun u4 =>
     (idx x1 j0).bind fun x4 =>
     (f59 x0 x4).bind fun y0 =>
     bif (!y0) then
      some ((2 : Int))
     else
      u4 ()
     ) fun z4 =>
    bif (decide (j0 < ((x1).length : Int))) then
     z4 ()
    else
     p4 ()
    ) big ((0 : Int))
   ) fun c5 =>
  bif (decide (((x1).length : Int) > (100 : Int))) then
   some ((5 : Int))
  else
   c5 ()
  ) fun k6 =>
 (f33 x0).bind fun y9 =>
 bif (y9 != (0 : Int)) then
  some (y9)
 else
  k6 ()
theorem en23 : Enters Try.prog 23 := enters_of Try.func23 (by kernel_rfl) rfl
theorem wk23 {gI : Gh} {wI : World} {x0 : FaultLoom} {x1 : List FaultDamage} {up0 : Value} (rp0 : RV gI.m wI x0 up0) {up1 : Value} (rp1 : RV gI.m wI x1 up1) {r : Int} (h : f23 x0 x1 = some r) : Fn Try.prog 23 #[up0, up1] gI wI (fun _ _ v => v = .int .i64 (r)) := by
 unfold f23 at h
 refine fn_of_E Try.func23 rfl (Nat.le_of_ble_eq_true rfl) fun g0 hm hfr => ?_
 have rp0 : RV g0.m wI x0 up0 := hm ▸ rp0
 have rp1 : RV g0.m wI x1 up1 := hm ▸ rp1
 show E _ 28 none _ _ _ _ _
 refine E_seq (E_region (EL_do .plain rfl (D_box (g := g0) rfl rp0 fun g1 w1 p1 hs q1 => ?_)))
 have hfr := hfr.ext hs
 have rp1 := rp1.ext hs
 refine EL_at (.int .i64 (0)) rfl rfl ?_
 refine EL_nil (thn_n (E_joinC h (fun (s : Unit) e w => ∃ (g : Gh) , Fr gI wI g w ∧ e 1 = up1 ∧ RV g.m w (x1 : List FaultDamage) up1 ∧ e 2 = p1 ∧ PT g.m w (x0 : FaultLoom) p1) (fun X6 k6 hk6 h => ?_) ?_))
 ·refine E_seq (E_region (EL_do .plain rfl (D_load (g := g1) Try.isAgg28 Try.sizeOf28 rfl q1 fun v7 r7 => ?_)))
  obtain ⟨y9, y5, h⟩ := bsome h
  refine EL_do .plain rfl (D_call (g := g1) (vs := [v7]) en33 (.cons rfl .nil) (wk33 r7 y5) fun g8 w8_ v8 hs hr => ?_)
  have hfr := hfr.ext hs
  have rp1 := rp1.ext hs
  have q1 := q1.ext hs
  subst hr
  refine EL_at (.int .i64 (y9)) rfl rfl ?_
  refine EL_nil (thn_n (E_seq (E_region (EL_mw (.int .i64 (y9)) rfl rfl ?_))))
  refine EL_in (.bool ((y9 != (0 : Int)))) rfl rfl rfl rfl ?_
  refine EL_nil (thn_n ?_)
  rcases csome h with ⟨i1, h⟩ | ⟨i1, h⟩
  ·refine E_ct i1 rfl ?_
   refine E_seq (E_region (EL_mw (.int .i64 (y9)) rfl rfl ?_))
   refine EL_at (.int .i64 (y9)) rfl rfl ?_
   refine EL_nil (thn_n (E_ret (thn_r ?_)))
   obtain rfl := sinj h
   exact end1 rfl rfl (show _ = .int .i64 (y9) from rfl) ⟨_, hfr, rfl⟩
  ·refine E_cf i1 rfl ?_
   exact E_skip (thn_n (hk6 () _ _ ⟨g8, hfr, rfl, rp1, rfl, q1⟩ h))
 ·rintro _ m6 u6 ⟨z5, hfr, d2, i2, z3, c4⟩ h
  refine E_joinC h (fun (s : Unit) e w => ∃ (g : Gh) , Fr gI wI g w ∧ e 1 = up1 ∧ RV g.m w (x1 : List FaultDamage) up1 ∧ e 2 = p1 ∧ PT g.m w (x0 : FaultLoom) p1) (fun X13 c5 l5 h => ?_) ?_
  ·refine E_seq (E_region (EL_mv d2 rfl ?_))
   refine EL_pur (v := .int .i64 ((x1).length : Int)) (P_len Try.underlying29 rfl i2) .plain rfl ?_
   refine EL_in (.bool ((decide (((x1).length : Int) > (100 : Int))))) rfl rfl rfl rfl ?_
   refine EL_nil (thn_n ?_)
   rcases csome h with ⟨j1, h⟩ | ⟨j1, h⟩
   ·refine E_ct j1 rfl ?_
    refine E_seq (E_region (EL_at (.int .i64 (5)) rfl rfl ?_))
    refine EL_nil (thn_n (E_ret (thn_r ?_)))
    obtain rfl := sinj h
    exact end1 rfl rfl (show _ = .int .i64 (5) from rfl) ⟨_, hfr, rfl⟩
   ·refine E_cf j1 rfl ?_
    exact E_skip (thn_n (l5 () _ _ ⟨z5, hfr, d2, i2, z3, c4⟩ h))
  ·rintro _ n6 v6 ⟨a6, hfr, d4, i4, j4, m4⟩ h
   refine E_joinC h (fun (s : Unit) e w => ∃ (g : Gh) , Fr gI wI g w) (fun X60 p4 m5 h => ?_) ?_
   ·refine E_seq (E_region (EL_at (.int .i64 (0)) rfl rfl ?_))
    refine EL_nil (thn_n (E_block ?_))
    refine E_lp h (fun (s : Int) e w => ∃ (g : Gh) , Fr gI wI g w ∧ e 1 = up1 ∧ RV g.m w (x1 : List FaultDamage) up1 ∧ e 2 = p1 ∧ PT g.m w (x0 : FaultLoom) p1 ∧ e 6 = .int .i64 (s)) ⟨a6, hfr, d4, i4, j4, m4, rfl⟩ (fun X61 q4 n5 => ?_)
    rintro j0 o6 x6 ⟨d5, hfr, j2, q2, n4, o4, s2⟩ h
    refine E_joinC h (fun (s : Unit) e w => ∃ (g : Gh) , Fr gI wI g w ∧ e 1 = up1 ∧ RV g.m w (x1 : List FaultDamage) up1 ∧ e 2 = p1 ∧ PT g.m w (x0 : FaultLoom) p1 ∧ e 6 = .int .i64 (j0)) (fun X64 z4 o5 h => ?_) ?_
    ·refine E_seq (E_region (EL_mv s2 rfl ?_))
     refine EL_mv j2 rfl ?_
     refine EL_pur (v := .int .i64 ((x1).length : Int)) (P_len Try.underlying29 rfl q2) .plain rfl ?_
     refine EL_in (.bool ((decide (j0 < ((x1).length : Int))))) rfl rfl rfl rfl ?_
     refine EL_nil (thn_n ?_)
     rcases csome h with ⟨z1, h⟩ | ⟨z1, h⟩
     ·refine E_ct z1 rfl ?_
      exact E_skip (thn_n (o5 () _ _ ⟨d5, hfr, j2, q2, n4, o4, s2⟩ h))
     ·refine E_cf z1 rfl ?_
      refine E_exit ?_
      refine thn_e ?_
      refine thn_e ?_
      refine blk_hit ?_
      exact thn_n (m5 () _ _ ⟨d5, hfr⟩ h)
    ·rintro _ p6 y6 ⟨b6, hfr, z2, n0, d3, o0, i3⟩ h
     refine E_joinC h (fun (s : Unit) e w => ∃ (g : Gh) , Fr gI wI g w ∧ e 1 = up1 ∧ RV g.m w (x1 : List FaultDamage) up1 ∧ e 2 = p1 ∧ PT g.m w (x0 : FaultLoom) p1 ∧ e 6 = .int .i64 (j0)) (fun X85 u4 p5 h => ?_) ?_
     ·refine E_block ?_
      refine E_seq (L_load (x := .tmp 2) Try.isAgg28 Try.sizeOf28 o0 fun i5 c6 q5 => ?_)
      obtain ⟨x4, j3, h⟩ := bsome h
      have d6 := PT_idx n0 j3
      refine L_load (x := .tmp 24) Try.isAgg62 Try.sizeOf62 d6 fun j5 e6 t5 => ?_
      obtain ⟨y0, u5, h⟩ := bsome h
      refine E_drawL (g := b6) (n := 7) [(5, (fun v g w => v = .bool (y0)))] [0, 1, 2, 3, 4, 5, 6] rfl mixed (by kernel_rfl) (⟨fun _ => up_eq _, trivial⟩) ?_
      refine L_ld (c := i5) rfl rfl .plain (fun _ _ h => h.ch) q5 d3 ?_
      refine L_pur (c := up1) rfl rfl .plain (fun _ _ hd => P_move z2) ?_
      refine L_pur (c := .int .i64 (j0)) rfl rfl .plain (fun _ _ hd => P_move i3) ?_
      refine L_pur (c := ePtr up1 j0 5) rfl rfl .plain (fun _ _ hd => P_indexAddr (α := FaultDamage) Try.underlying29 Try.sizeOf62 rfl n0 rfl j3) ?_
      refine L_ld (c := j5) rfl rfl .plain (fun _ _ h => h.ch) t5 rfl ?_
      refine L_do (φ := fun v g w => v = .bool (y0)) rfl rfl .plain (fun g w hd => D_call (g := g) (vs := [i5, j5]) en59 (.cons rfl (.cons rfl .nil)) (wk59 (c6.ext hd.1) (e6.ext hd.1) u5) fun g' w' v hs hr => ⟨g', hs, hr⟩) (fun z6 hv => ?_)
      obtain ⟨_, _, _, rfl⟩ := hv
      refine L_pur (c := .bool (!y0)) rfl rfl .plain (fun _ _ hd => P_not rfl) ?_
      refine L_nil fun i6 a7 hall => ?_
      have hs := hall.1
      have hfr := hfr.ext hs
      have n0 := n0.ext hs
      have o0 := o0.ext hs
      clear hs hall
      refine EL_nil (thn_n ?_)
      rcases csome h with ⟨u0, h⟩ | ⟨u0, h⟩
      ·refine E_ct u0 rfl ?_
       refine E_seq (E_region (EL_at (.int .i64 (2)) rfl rfl ?_))
       refine EL_nil (thn_n (E_ret (blk_r ?_)))
       refine thn_r ?_
       refine thn_r ?_
       refine blk_r ?_
       refine thn_r ?_
       obtain rfl := sinj h
       exact end1 rfl rfl (show _ = .int .i64 (2) from rfl) ⟨_, hfr, rfl⟩
      ·refine E_cf u0 rfl ?_
       exact E_skip (blk_n (thn_n (p5 () _ _ ⟨i6, hfr, z2, n0, d3, o0, i3⟩ h)))
     ·rintro _ j6 q6 ⟨x5, hfr, o3, p3, q3, s3, u3⟩ h
      refine E_region (EL_mv u3 rfl ?_)
      refine EL_in (.int .i64 ((w64 (j0 + (1 : Int))))) rfl rfl rfl rfl ?_
      refine EL_at (.int .i64 ((w64 (j0 + (1 : Int))))) rfl rfl ?_
      exact EL_nil (thn_n (n5 ((w64 (j0 + (1 : Int)))) _ _ ⟨x5, hfr, o3, p3, q3, s3, rfl⟩ h))
   ·rintro _ l6 r6 ⟨t6, hfr⟩ h
    refine E_seq (E_region (EL_at (.int .i64 (0)) rfl rfl ?_))
    refine EL_nil (thn_n (E_ret ?_))
    obtain rfl := sinj h
    exact end1 rfl rfl (show _ = .int .i64 (0) from rfl) ⟨_, hfr, rfl⟩
/-- griffe/fault.checkLoom -/
def f50 (x0 : FaultLoom) : Option (Int) :=
 jn (σ := Unit) (fun (_ : Unit) =>
  jn (σ := Unit) (fun (_ : Unit) =>
   jn (σ := Unit) (fun (_ : Unit) =>
    some ((0 : Int))
    ) fun k33 =>
   bif (((x0).Harness).Hooks != ((x0).Design).Hooks) then
    some ((4 : Int))
   else
    k33 ()
   ) fun k19 =>
  (f74 ((x0).Design)).bind fun y23 =>
  bif (y23 != (0 : Int)) then
   some (y23)
  else
   k19 ()
  ) fun k7 =>
 (f73 ((x0).Harness)).bind fun y11 =>
 bif (y11 != (0 : Int)) then
  some (y11)
 else
  k7 ()
theorem en50 : Enters Try.prog 50 := enters_of Try.func50 (by kernel_rfl) rfl
theorem wk50 {gI : Gh} {wI : World} {x0 : FaultLoom} {up0 : Value} (rp0 : RV gI.m wI x0 up0) {r : Int} (h : f50 x0 = some r) : Fn Try.prog 50 #[up0] gI wI (fun _ _ v => v = .int .i64 (r)) := by
 unfold f50 at h
 refine fn_of_E Try.func50 rfl (Nat.le_of_ble_eq_true rfl) fun g0 hm hfr => ?_
 have rp0 : RV g0.m wI x0 up0 := hm ▸ rp0
 show E _ 24 none _ _ _ _ _
 refine E_seq (E_region (EL_do .plain rfl (D_box (g := g0) rfl rp0 fun g1 w1 p1 hs q1 => ?_)))
 have hfr := hfr.ext hs
 refine EL_at (.int .i64 (0)) rfl rfl ?_
 refine EL_nil (thn_n (E_joinC h (fun (s : Unit) e w => ∃ (g : Gh) , Fr gI wI g w ∧ e 1 = p1 ∧ PT g.m w (x0 : FaultLoom) p1) (fun X7 k7 i3 h => ?_) ?_))
 ·refine E_seq (E_region (EL_pur (v := fPtr p1 0) (P_fieldAddr at_28_0 rfl (PT.ptr q1)) .plain rfl ?_))
  have q8 := PT_field (part_FaultLoom_0).1 q1
  refine EL_do .plain rfl (D_load (g := g1) Try.isAgg24 Try.sizeOf24 rfl q8 fun v9 r9 => ?_)
  obtain ⟨y11, q2, h⟩ := bsome h
  refine EL_do .plain rfl (D_call (g := g1) (vs := [v9]) en73 (.cons rfl .nil) (wk73 r9 q2) fun j3 i4 p4 hs hr => ?_)
  have hfr := hfr.ext hs
  have q1 := q1.ext hs
  subst hr
  refine EL_at (.int .i64 (y11)) rfl rfl ?_
  refine EL_nil (thn_n (E_seq (E_region (EL_mw (.int .i64 (y11)) rfl rfl ?_))))
  refine EL_in (.bool ((y11 != (0 : Int)))) rfl rfl rfl rfl ?_
  refine EL_nil (thn_n ?_)
  rcases csome h with ⟨o0, h⟩ | ⟨o0, h⟩
  ·refine E_ct o0 rfl ?_
   refine E_seq (E_region (EL_mw (.int .i64 (y11)) rfl rfl ?_))
   refine EL_at (.int .i64 (y11)) rfl rfl ?_
   refine EL_nil (thn_n (E_ret (thn_r ?_)))
   obtain rfl := sinj h
   exact end1 rfl rfl (show _ = .int .i64 (y11) from rfl) ⟨_, hfr, rfl⟩
  ·refine E_cf o0 rfl ?_
   exact E_skip (thn_n (i3 () _ _ ⟨j3, hfr, rfl, q1⟩ h))
 ·rintro _ j4 q4 ⟨d2, hfr, i1, j0⟩ h
  refine E_joinC h (fun (s : Unit) e w => ∃ (g : Gh) , Fr gI wI g w ∧ e 1 = p1 ∧ PT g.m w (x0 : FaultLoom) p1) (fun X19 k19 s2 h => ?_) ?_
  ·refine E_seq (E_region (EL_pur (v := fPtr p1 2) (P_fieldAddr at_28_1 i1 (PT.ptr j0)) .plain rfl ?_))
   have o3 := PT_field (part_FaultLoom_1).1 j0
   refine EL_do .plain rfl (D_load (g := d2) Try.isAgg26 Try.sizeOf26 rfl o3 fun p3 q3 => ?_)
   obtain ⟨y23, z2, h⟩ := bsome h
   refine EL_do .plain rfl (D_call (g := d2) (vs := [p3]) en74 (.cons rfl .nil) (wk74 q3 z2) fun s3 m4 u4 hs hr => ?_)
   have hfr := hfr.ext hs
   have j0 := j0.ext hs
   subst hr
   refine EL_at (.int .i64 (y23)) rfl rfl ?_
   refine EL_nil (thn_n (E_seq (E_region (EL_mw (.int .i64 (y23)) rfl rfl ?_))))
   refine EL_in (.bool ((y23 != (0 : Int)))) rfl rfl rfl rfl ?_
   refine EL_nil (thn_n ?_)
   rcases csome h with ⟨u0, h⟩ | ⟨u0, h⟩
   ·refine E_ct u0 rfl ?_
    refine E_seq (E_region (EL_mw (.int .i64 (y23)) rfl rfl ?_))
    refine EL_at (.int .i64 (y23)) rfl rfl ?_
    refine EL_nil (thn_n (E_ret (thn_r ?_)))
    obtain rfl := sinj h
    exact end1 rfl rfl (show _ = .int .i64 (y23) from rfl) ⟨_, hfr, rfl⟩
   ·refine E_cf u0 rfl ?_
    exact E_skip (thn_n (s2 () _ _ ⟨s3, hfr, i1, j0⟩ h))
  ·rintro _ n4 x4 ⟨z1, hfr, j1, n0⟩ h
   refine E_joinC h (fun (s : Unit) e w => ∃ (g : Gh) , Fr gI wI g w) (fun X33 k33 d3 h => ?_) ?_
   ·refine E_seq (E_region (EL_pur (v := fPtr p1 0) (P_fieldAddr at_28_0 j1 (PT.ptr n0)) .plain rfl ?_))
    have i2 := PT_field (part_FaultLoom_0).1 n0
    refine EL_pur (v := fPtr (fPtr p1 0) 0) (P_fieldAddr at_24_0 rfl (PT.ptr i2)) .plain rfl ?_
    have u3 := PT_field (part_TieHarness_0).1 i2
    refine EL_do .plain rfl (D_load (g := z1) Try.isAgg3 Try.sizeOf3 rfl u3 fun z4 z3 => ?_)
    obtain rfl := RV_int.1 z3
    refine EL_pur (v := fPtr p1 2) (P_fieldAddr at_28_1 j1 (PT.ptr n0)) .plain rfl ?_
    have j2 := PT_field (part_FaultLoom_1).1 n0
    refine EL_pur (v := fPtr (fPtr p1 2) 0) (P_fieldAddr at_26_0 rfl (PT.ptr j2)) .plain rfl ?_
    have c4 := PT_field (part_Design_0).1 j2
    refine EL_do .plain rfl (D_load (g := z1) Try.isAgg3 Try.sizeOf3 rfl c4 fun c5 d4 => ?_)
    obtain rfl := RV_int.1 d4
    refine EL_in (.bool ((((x0).Harness).Hooks != ((x0).Design).Hooks))) rfl rfl rfl rfl ?_
    refine EL_nil (thn_n ?_)
    rcases csome h with ⟨y0, h⟩ | ⟨y0, h⟩
    ·refine E_ct y0 rfl ?_
     refine E_seq (E_region (EL_at (.int .i64 (4)) rfl rfl ?_))
     refine EL_nil (thn_n (E_ret (thn_r ?_)))
     obtain rfl := sinj h
     exact end1 rfl rfl (show _ = .int .i64 (4) from rfl) ⟨_, hfr, rfl⟩
    ·refine E_cf y0 rfl ?_
     exact E_skip (thn_n (d3 () _ _ ⟨z1, hfr⟩ h))
   ·rintro _ o4 d5 ⟨i5, hfr⟩ h
    refine E_seq (E_region (EL_at (.int .i64 (0)) rfl rfl ?_))
    refine EL_nil (thn_n (E_ret ?_))
    obtain rfl := sinj h
    exact end1 rfl rfl (show _ = .int .i64 (0) from rfl) ⟨_, hfr, rfl⟩
/-- (griffe/fault.loom).isDamage -/
def f52 (x0 : FaultFaultLoom) (x1 : FaultDamage) : Option (Bool) :=
 Option.bind (α := FaultDamage × Bool) (
  bif ((x1).Kind == (1 : Int)) then
   some ({ { (⟨(x1).Kind, 0, 0, 0, false⟩ : FaultDamage) with Pick := (x1).Pick } with Hook := (x1).Hook }, true)
  else
   bif ((x1).Kind == (2 : Int)) then
    some ({ { (⟨(x1).Kind, 0, 0, 0, false⟩ : FaultDamage) with Hook := (x1).Hook } with Up := (x1).Up }, true)
   else
    Option.bind (α := Bool) (
     bif ((x1).Kind == (3 : Int)) then
      some (((x1).Kind == (3 : Int)))
     else
      some (((x1).Kind == (4 : Int)))
     ) fun i2 =>
    bif i2 then
     some ({ (⟨(x1).Kind, 0, 0, 0, false⟩ : FaultDamage) with Pick := (x1).Pick }, true)
    else
     bif ((x1).Kind == (5 : Int)) then
      some ({ (⟨(x1).Kind, 0, 0, 0, false⟩ : FaultDamage) with Warp := (x1).Warp }, true)
     else
      some ((⟨(x1).Kind, 0, 0, 0, false⟩ : FaultDamage), false)
  ) fun (j1, j2) =>
 Option.bind (α := Bool) (
  bif j2 then
   bif (decide (x1 = j1)) then
    (f62 ((0 : Int)) ((w64 ((((((x0).FaultLoom).Design).Rows).length : Int) - (1 : Int)))) (([(x1).Pick] : List Int))).bind fun p3 =>
    bif p3 then
     (f62 ((0 : Int)) ((w64 ((((x0).FaultLoom).Design).Hooks - (1 : Int)))) (([(x1).Hook] : List Int))).bind fun s3 =>
     bif s3 then
      (f62 ((0 : Int)) ((w64 ((((((x0).FaultLoom).Harness).Warps).length : Int) - (1 : Int)))) (([(x1).Warp] : List Int))).bind fun i4 =>
      some (i4)
     else
      some (false)
    else
     some (false)
   else
    some (false)
  else
   some (false)
  ) fun j3 =>
 some (j3)
theorem en52 : Enters Try.prog 52 := enters_of Try.func52 (by kernel_rfl) rfl
theorem wk52 {gI : Gh} {wI : World} {x0 : FaultFaultLoom} {x1 : FaultDamage} {up0 : Value} (rp0 : RV gI.m wI x0 up0) {up1 : Value} (rp1 : RV gI.m wI x1 up1) {r : Bool} (h : f52 x0 x1 = some r) : Fn Try.prog 52 #[up0, up1] gI wI (fun _ _ v => v = .bool (r)) := by
 unfold f52 at h
 refine fn_of_E Try.func52 rfl (Nat.le_of_ble_eq_true rfl) fun g0 hm hfr => ?_
 have rp0 : RV g0.m wI x0 up0 := hm ▸ rp0
 have rp1 : RV g0.m wI x1 up1 := hm ▸ rp1
 show E _ 80 none _ _ _ _ _
 refine E_seq (E_region (EL_do .plain rfl (D_box (g := g0) rfl rp0 fun g1 w1 p1 hs q1 => ?_)))
 have hfr := hfr.ext hs
 have rp1 := rp1.ext hs
 refine EL_do .plain rfl (D_box (g := g1) rfl rp1 fun g2 w2 p2 hs q2 => ?_)
 have hfr := hfr.ext hs
 have q1 := q1.ext hs
 refine EL_at (.bool false) rfl rfl ?_
 refine EL_nil (thn_n (E_seq (E_region (EL_pur (v := fPtr p2 0) (P_fieldAddr at_62_0 rfl (PT.ptr q2)) .plain rfl ?_))))
 have q3 := PT_field (part_FaultDamage_0).1 q2
 refine EL_do .plain rfl (D_load (g := g2) Try.isAgg60 Try.sizeOf60 rfl q3 fun v4 r4 => ?_)
 obtain rfl := RV_int.1 r4
 have r5 : RV g2.m w2 (⟨(x1).Kind, 0, 0, 0, false⟩ : FaultDamage) (.agg (setCh [[.int .i64 0], [.int .i64 0], [.int .i64 0], [.int .i64 0], [.bool false]] [(0, .int .i64 ((x1).Kind))]).flatten.toArray) := RV_build rfl (rep_pair (rfl) (rep_pair (rep_int) (rep_pair (rep_int) (rep_pair (rep_int) (rep_last (rep_bool))))))
 generalize b8 : (Value.agg (setCh [[.int .i64 0], [.int .i64 0], [.int .i64 0], [.int .i64 0], [.bool false]] [(0, .int .i64 ((x1).Kind))]).flatten.toArray) = v5 at r5
 refine EL_pur (v := v5) (b8 ▸ P_build (vs := [(0, .int .i64 ((x1).Kind))]) [[.int .i64 0], [.int .i64 0], [.int .i64 0], [.int .i64 0], [.bool false]] lay_62 rfl rfl (.cons rfl .nil) ⟨⟨_, rfl, rfl⟩, trivial⟩) .plain rfl ?_
 refine EL_do .plain rfl (D_allocOc (g := g2) 2005 (⟨0, 0, 0, 0, false⟩ : FaultDamage) Try.zeroValue62 (fun m w => ⟨_, (rep_two rep_int (rep_two rep_int (rep_two rep_int (rep_two rep_int rep_bool)))), rfl⟩) fun g6 w6 p6 hs b6 cb => ?_)
 have hfr := hfr.stp hs
 have q1 := q1.stp hs
 have q2 := q2.stp hs
 have r5 := r5.stp hs
 clear cb
 refine EL_do .plain rfl (D_storeOc (g := g6) (v := v5) Try.sizeOf62 rfl b6 rfl r5 fun g7 w7 hs b7 cb => ?_)
 clear cb
 have hfr := hfr.stp hs
 have q1 := q1.stp hs
 have q2 := q2.stp hs
 refine EL_nil (thn_n (E_seq (E_region (EL_at (.bool true) rfl rfl ?_))))
 refine EL_nil (thn_n ?_)
 obtain ⟨⟨j1, j2⟩, hx, h⟩ := bsome h
 refine E_join (fun e w => ∃ (g : Gh) , Fr gI wI g w ∧ e 2 = p1 ∧ PT g.m w (x0 : FaultFaultLoom) p1 ∧ e 3 = p2 ∧ PT g.m w (x1 : FaultDamage) p2 ∧ e 5 = p6 ∧ OB 2005 g w 62 (j1 : FaultDamage) p6 ∧ e 6 = .bool (j2)) (fun Q' hQ => ?_) (fun l8 r8 hR => ?_)
 ·replace h := hx
  clear hx
  refine E_seq (E_region (EL_pur (v := fPtr p2 0) (P_fieldAddr at_62_0 rfl (PT.ptr q2)) .plain rfl ?_))
  have c8 := PT_field (part_FaultDamage_0).1 q2
  refine EL_do .plain rfl (D_load (g := g7) Try.isAgg60 Try.sizeOf60 rfl c8 fun z9 d8 => ?_)
  obtain rfl := RV_int.1 d8
  refine EL_nil (thn_n (E_block ?_))
  refine E_seq (E_region (EL_in (.bool (((x1).Kind == (1 : Int)))) rfl rfl rfl rfl ?_))
  refine EL_at (.bool (((x1).Kind == (1 : Int)))) rfl rfl ?_
  refine EL_nil (thn_n ?_)
  rcases csome h with ⟨x4, h⟩ | ⟨x4, h⟩
  ·refine E_ct x4 rfl ?_
   have e8 := PT_field (part_FaultDamage_1).1 q2
   refine L_load (x := .tmp 14) Try.isAgg3 Try.sizeOf3 e8 fun aA g8 a6 => ?_
   obtain rfl := RV_int.1 g8
   have i8 := PT_field (part_FaultDamage_2).1 q2
   refine L_load (x := .tmp 16) Try.isAgg3 Try.sizeOf3 i8 fun bA j8 c6 => ?_
   obtain rfl := RV_int.1 j8
   refine E_drawB (a0 := ((⟨(x1).Kind, 0, 0, 0, false⟩ : FaultDamage) : FaultDamage)) (a1 := ({ (⟨(x1).Kind, 0, 0, 0, false⟩ : FaultDamage) with Pick := (x1).Pick } : FaultDamage)) b7 (n := 6) [(5, (fun _ g w => OB 2005 g w 62 ({ (⟨(x1).Kind, 0, 0, 0, false⟩ : FaultDamage) with Pick := (x1).Pick } : FaultDamage) p6))] [0, 1, 2, 3, 4, 5] rfl mixed (by kernel_rfl) (⟨fun _ => up_box, trivial⟩) ?_
   refine L_pur (c := fPtr p2 1) rfl rfl .plain (fun _ _ hd => P_fieldAddr at_62_1 rfl (PT.ptr q2)) ?_
   refine L_ld (c := .int .i64 ((x1).Pick)) rfl rfl .plain (fun _ _ h => h.1.ch) a6 rfl ?_
   refine L_pur (c := fPtr p2 2) rfl rfl .plain (fun _ _ hd => P_fieldAddr at_62_2 rfl (PT.ptr q2)) ?_
   refine L_ld (c := .int .i64 ((x1).Hook)) rfl rfl .plain (fun _ _ h => h.1.ch) c6 rfl ?_
   refine L_pur (c := fPtr p6 1) rfl rfl .plain (fun _ _ hd => P_fieldAddr at_62_1 rfl (OB.ptr b7)) ?_
   refine L_do (φ := fun _ g w => OB 2005 g w 62 ({ (⟨(x1).Kind, 0, 0, 0, false⟩ : FaultDamage) with Pick := (x1).Pick } : FaultDamage) p6) rfl rfl .plain (fun g w hd => D_storeR (g := g) rfl rfl part_FaultDamage_1 Try.sizeOf3 rfl hd.1.2 rfl (RV_int.2 rfl)) (fun cA hv => ?_)
   clear hv
   refine L_nil fun k8 dA hall => ?_
   have hs := hall.1.1
   have hfr := hfr.stp hs
   have q1 := q1.stp hs
   have q2 := q2.stp hs
   have b104 := (word_all (A := fun g w => OB 2005 g w 62 ({ (⟨(x1).Kind, 0, 0, 0, false⟩ : FaultDamage) with Pick := (x1).Pick } : FaultDamage) p6) 5 rfl hall)
   clear hs hall
   refine EL_pur (v := fPtr p6 2) (P_fieldAddr at_62_2 rfl (OB.ptr b104)) .plain rfl ?_
   refine EL_do .plain rfl (D_storeFc (g := k8) part_FaultDamage_2 Try.sizeOf3 rfl b104 rfl (RV_int.2 rfl) fun d6 t8 hs b116 rst hos => ?_)
   clear rst hos
   have hfr := hfr.stp hs
   have q1 := q1.stp hs
   have q2 := q2.stp hs
   refine EL_nil (blk_n ?_)
   obtain ⟨rfl, rfl⟩ := pairs2 h
   exact hQ _ _ ⟨d6, hfr, rfl, q1, rfl, q2, rfl, b116, rfl⟩
  ·refine E_cf x4 rfl ?_
   refine E_seq (E_region (EL_in (.bool (((x1).Kind == (2 : Int)))) rfl rfl rfl rfl ?_))
   refine EL_at (.bool (((x1).Kind == (2 : Int)))) rfl rfl ?_
   refine EL_nil (thn_n ?_)
   rcases csome h with ⟨j4, h⟩ | ⟨j4, h⟩
   ·refine E_ct j4 rfl ?_
    have e6 := PT_field (part_FaultDamage_2).1 q2
    refine L_load (x := .tmp 22) Try.isAgg3 Try.sizeOf3 e6 fun v8 i6 t5 => ?_
    obtain rfl := RV_int.1 i6
    have j6 := PT_field (part_FaultDamage_4).1 q2
    refine L_load (x := .tmp 24) Try.isAgg4 Try.sizeOf4 j6 fun x8 k6 u5 => ?_
    obtain rfl := RV_bool.1 k6
    refine E_drawB (a0 := ((⟨(x1).Kind, 0, 0, 0, false⟩ : FaultDamage) : FaultDamage)) (a1 := ({ (⟨(x1).Kind, 0, 0, 0, false⟩ : FaultDamage) with Hook := (x1).Hook } : FaultDamage)) b7 (n := 6) [(5, (fun _ g w => OB 2005 g w 62 ({ (⟨(x1).Kind, 0, 0, 0, false⟩ : FaultDamage) with Hook := (x1).Hook } : FaultDamage) p6))] [0, 1, 2, 3, 4, 5] rfl mixed (by kernel_rfl) (⟨fun _ => up_box, trivial⟩) ?_
    refine L_pur (c := fPtr p2 2) rfl rfl .plain (fun _ _ hd => P_fieldAddr at_62_2 rfl (PT.ptr q2)) ?_
    refine L_ld (c := .int .i64 ((x1).Hook)) rfl rfl .plain (fun _ _ h => h.1.ch) t5 rfl ?_
    refine L_pur (c := fPtr p2 4) rfl rfl .plain (fun _ _ hd => P_fieldAddr at_62_4 rfl (PT.ptr q2)) ?_
    refine L_ld (c := .bool ((x1).Up)) rfl rfl .plain (fun _ _ h => h.1.ch) u5 rfl ?_
    refine L_pur (c := fPtr p6 2) rfl rfl .plain (fun _ _ hd => P_fieldAddr at_62_2 rfl (OB.ptr b7)) ?_
    refine L_do (φ := fun _ g w => OB 2005 g w 62 ({ (⟨(x1).Kind, 0, 0, 0, false⟩ : FaultDamage) with Hook := (x1).Hook } : FaultDamage) p6) rfl rfl .plain (fun g w hd => D_storeR (g := g) rfl rfl part_FaultDamage_2 Try.sizeOf3 rfl hd.1.2 rfl (RV_int.2 rfl)) (fun y8 hv => ?_)
    clear hv
    refine L_nil fun l6 z8 hall => ?_
    have hs := hall.1.1
    have hfr := hfr.stp hs
    have q1 := q1.stp hs
    have q2 := q2.stp hs
    have b134 := (word_all (A := fun g w => OB 2005 g w 62 ({ (⟨(x1).Kind, 0, 0, 0, false⟩ : FaultDamage) with Hook := (x1).Hook } : FaultDamage) p6) 5 rfl hall)
    clear hs hall
    refine EL_pur (v := fPtr p6 4) (P_fieldAddr at_62_4 rfl (OB.ptr b134)) .plain rfl ?_
    refine EL_do .plain rfl (D_storeFc (g := l6) part_FaultDamage_4 Try.sizeOf4 rfl b134 rfl (RV_bool.2 rfl) fun m6 a9 hs b148 rst hos => ?_)
    clear rst hos
    have hfr := hfr.stp hs
    have q1 := q1.stp hs
    have q2 := q2.stp hs
    refine EL_nil (blk_n ?_)
    obtain ⟨rfl, rfl⟩ := pairs2 h
    exact hQ _ _ ⟨m6, hfr, rfl, q1, rfl, q2, rfl, b148, rfl⟩
   ·refine E_cf j4 rfl ?_
    obtain ⟨i2, hx, h⟩ := bsome h
    refine E_join (fun e w => ∃ (g : Gh) , Fr gI wI g w ∧ e 2 = p1 ∧ PT g.m w (x0 : FaultFaultLoom) p1 ∧ e 3 = p2 ∧ PT g.m w (x1 : FaultDamage) p2 ∧ e 5 = p6 ∧ OB 2005 g w 62 ((⟨(x1).Kind, 0, 0, 0, false⟩ : FaultDamage) : FaultDamage) p6 ∧ e 6 = .bool (true) ∧ e 11 = .int .i64 ((x1).Kind) ∧ e 28 = .bool (i2)) (fun Q' hQ => ?_) (fun m8 b9 hR => ?_)
    ·replace h := hx
     clear hx
     refine E_seq (E_region (EL_in (.bool (((x1).Kind == (3 : Int)))) rfl rfl rfl rfl ?_))
     refine EL_at (.bool (((x1).Kind == (3 : Int)))) rfl rfl ?_
     refine EL_nil (thn_n ?_)
     rcases csome h with ⟨m4, h⟩ | ⟨m4, h⟩
     ·refine E_ct m4 rfl ?_
      refine E_skip ?_
      obtain rfl := sinj h
      exact hQ _ _ ⟨g7, hfr, rfl, q1, rfl, q2, rfl, b7, rfl, rfl, rfl⟩
     ·refine E_cf m4 rfl ?_
      refine E_region (EL_in (.bool (((x1).Kind == (4 : Int)))) rfl rfl rfl rfl ?_)
      refine EL_at (.bool (((x1).Kind == (4 : Int)))) rfl rfl ?_
      refine EL_nil ?_
      obtain rfl := sinj h
      exact hQ _ _ ⟨g7, hfr, rfl, q1, rfl, q2, rfl, b7, rfl, rfl, rfl⟩
    ·clear hx
     obtain ⟨u3, hfr, z3, d2, s2, i1, z2, d3, u4, z4, d4⟩ := hR
     rcases csome h with ⟨n4, h⟩ | ⟨n4, h⟩
     ·refine E_cond_true (Eq.trans (show ev _ _ = .bool (i2) from d4) (congrArg Value.bool n4)) ?_
      refine E_region (EL_pur (v := fPtr p2 1) (P_fieldAddr at_62_1 s2 (PT.ptr i1)) .plain rfl ?_)
      have n6 := PT_field (part_FaultDamage_1).1 i1
      refine EL_do .plain rfl (D_load (g := u3) Try.isAgg3 Try.sizeOf3 rfl n6 fun c9 o6 => ?_)
      obtain rfl := RV_int.1 o6
      refine EL_pur (v := fPtr p6 1) (P_fieldAddr at_62_1 z2 (OB.ptr d3)) .plain rfl ?_
      refine EL_do .plain rfl (D_storeFc (g := u3) part_FaultDamage_1 Try.sizeOf3 rfl d3 rfl (RV_int.2 rfl) fun q6 d9 hs b156 rst hos => ?_)
      clear rst hos
      have hfr := hfr.stp hs
      have d2 := d2.stp hs
      have i1 := i1.stp hs
      refine EL_nil (blk_n ?_)
      obtain ⟨rfl, rfl⟩ := pairs2 h
      exact hQ _ _ ⟨q6, hfr, z3, d2, s2, i1, z2, b156, u4⟩
     ·refine E_cond_false (Eq.trans (show ev _ _ = .bool (i2) from d4) (congrArg Value.bool n4)) ?_
      refine E_seq (E_region (EL_in (.bool (((x1).Kind == (5 : Int)))) z4 rfl rfl rfl ?_))
      refine EL_at (.bool (((x1).Kind == (5 : Int)))) rfl rfl ?_
      refine EL_nil (thn_n ?_)
      rcases csome h with ⟨o4, h⟩ | ⟨o4, h⟩
      ·refine E_ct o4 rfl ?_
       refine E_region (EL_pur (v := fPtr p2 3) (P_fieldAddr at_62_3 s2 (PT.ptr i1)) .plain rfl ?_)
       have r6 := PT_field (part_FaultDamage_3).1 i1
       refine EL_do .plain rfl (D_load (g := u3) Try.isAgg3 Try.sizeOf3 rfl r6 fun e9 t6 => ?_)
       obtain rfl := RV_int.1 t6
       refine EL_pur (v := fPtr p6 3) (P_fieldAddr at_62_3 z2 (OB.ptr d3)) .plain rfl ?_
       refine EL_do .plain rfl (D_storeFc (g := u3) part_FaultDamage_3 Try.sizeOf3 rfl d3 rfl (RV_int.2 rfl) fun u6 g9 hs b161 rst hos => ?_)
       clear rst hos
       have hfr := hfr.stp hs
       have d2 := d2.stp hs
       have i1 := i1.stp hs
       refine EL_nil (blk_n ?_)
       obtain ⟨rfl, rfl⟩ := pairs2 h
       exact hQ _ _ ⟨u6, hfr, z3, d2, s2, i1, z2, b161, u4⟩
      ·refine E_cf o4 rfl ?_
       refine E_region (EL_at (.bool false) rfl rfl ?_)
       refine EL_nil (blk_n ?_)
       obtain ⟨rfl, rfl⟩ := pairs2 h
       exact hQ _ _ ⟨u3, hfr, z3, d2, s2, i1, z2, d3, rfl⟩
 ·clear hx
  obtain ⟨i3, hfr, c4, y0, o3, u0, c5, d5, i5⟩ := hR
  obtain ⟨j3, hx, h⟩ := bsome h
  refine E_join (fun e w => ∃ (g : Gh) , Fr gI wI g w ∧ e 4 = .bool (j3)) (fun Q' hQ => ?_) (fun n8 i9 hR => ?_)
  ·replace h := hx
   clear hx
   refine E_region (EL_mv i5 rfl ?_)
   refine EL_mw (.bool (j2)) rfl rfl ?_
   rcases csome h with ⟨z1, h⟩ | ⟨z1, h⟩
   ·refine EL_do (.yes2 rfl rfl z1) rfl (D_load (g := i3) Try.isAgg62 Try.sizeOf62 o3 u0 fun j9 v6 => ?_)
    refine EL_do (.yes2 rfl rfl z1) rfl (D_loadO (g := i3) Try.isAgg62 Try.sizeOf62 c5 d5 fun k9 x6 => ?_)
    refine EL_pur (v := .bool ((decide (x1 = j1)))) (P_seq seq_62 rfl eg_62 rfl rfl v6 x6) (.yes2 rfl rfl z1) rfl ?_
    refine EL_pur (v := .bool ((decide (x1 = j1)))) (P_pick (b := j2) rfl (pick_t z1 rfl)) .plain rfl ?_
    refine EL_mw (.bool ((decide (x1 = j1)))) rfl rfl ?_
    rcases csome h with ⟨j0, h⟩ | ⟨j0, h⟩
    ·refine EL_pur (v := fPtr p1 0) (P_fieldAddr at_98_0 c4 (PT.ptr y0)) (.yes2 rfl rfl j0) rfl ?_
     have j5 := PT_field (part_FaultFaultLoom_0).1 y0
     refine EL_pur (v := fPtr (fPtr p1 0) 2) (P_fieldAddr at_28_1 rfl (PT.ptr j5)) (.yes2 rfl rfl j0) rfl ?_
     have l5 := PT_field (part_FaultLoom_1).1 j5
     refine EL_pur (v := fPtr (fPtr (fPtr p1 0) 2) 1) (P_fieldAddr at_26_1 rfl (PT.ptr l5)) (.yes2 rfl rfl j0) rfl ?_
     have y6 := PT_field (part_Design_1).1 l5
     refine EL_do (.yes2 rfl rfl j0) rfl (D_load (g := i3) Try.isAgg22 Try.sizeOf22 rfl y6 fun l9 z6 => ?_)
     refine EL_pur (v := .int .i64 (((((x0).FaultLoom).Design).Rows).length : Int)) (P_len Try.underlying22 rfl z6) (.yes2 rfl rfl j0) rfl ?_
     refine EL_pur (v := .int .i64 ((w64 ((((((x0).FaultLoom).Design).Rows).length : Int) - (1 : Int))))) (P_int rfl rfl rfl) (.yes2 rfl rfl j0) rfl ?_
     refine EL_pur (v := fPtr p2 1) (P_fieldAddr at_62_1 o3 (PT.ptr u0)) (.yes2 rfl rfl j0) rfl ?_
     have a7 := PT_field (part_FaultDamage_1).1 u0
     refine EL_do (.yes2 rfl rfl j0) rfl (D_load (g := i3) Try.isAgg3 Try.sizeOf3 rfl a7 fun m9 c7 => ?_)
     obtain rfl := RV_int.1 c7
     refine EL_do (.yes2 rfl rfl j0) rfl (D_buildSlice (g := i3) 3054 (xs := ([(x1).Pick] : List Int)) (vs := [.int .i64 ((x1).Pick)]) Try.underlying22 Try.sizeOf3 Try.zeroValue3 rfl rfl (.cons rfl .nil) (RVs.cons (RV_int.2 rfl) RVs.nil) rfl rfl fun d7 n9 e7 hs o206 i7 hxt hfl => ?_)
     have hfr := hfr.stp hs
     have y0 := y0.stp hs
     have u0 := u0.stp hs
     obtain ⟨p3, x5, h⟩ := bsome h
     refine EL_do (.yes2 rfl rfl j0) rfl (D_call (g := d7) (vs := [.int .i64 (0), .int .i64 ((w64 ((((((x0).FaultLoom).Design).Rows).length : Int) - (1 : Int)))), e7]) en62 (.cons rfl (.cons rfl (.cons rfl .nil))) (wk62 i7 x5) fun p4 o8 o9 hs hr => ?_)
     have hfr := hfr.ext hs
     have y0 := y0.ext hs
     have u0 := u0.ext hs
     subst hr
     refine EL_pur (v := .bool (p3)) (P_pick (b := (decide (x1 = j1))) rfl (pick_t j0 rfl)) .plain rfl ?_
     refine EL_mw (.bool (p3)) rfl rfl ?_
     rcases csome h with ⟨o0, h⟩ | ⟨o0, h⟩
     ·refine EL_pur (v := fPtr p1 0) (P_fieldAddr at_98_0 c4 (PT.ptr y0)) (.yes2 rfl rfl o0) rfl ?_
      have m5 := PT_field (part_FaultFaultLoom_0).1 y0
      refine EL_pur (v := fPtr (fPtr p1 0) 2) (P_fieldAddr at_28_1 rfl (PT.ptr m5)) (.yes2 rfl rfl o0) rfl ?_
      have n5 := PT_field (part_FaultLoom_1).1 m5
      refine EL_pur (v := fPtr (fPtr (fPtr p1 0) 2) 0) (P_fieldAddr at_26_0 rfl (PT.ptr n5)) (.yes2 rfl rfl o0) rfl ?_
      have j7 := PT_field (part_Design_0).1 n5
      refine EL_do (.yes2 rfl rfl o0) rfl (D_load (g := p4) Try.isAgg3 Try.sizeOf3 rfl j7 fun p9 l7 => ?_)
      obtain rfl := RV_int.1 l7
      refine EL_pur (v := .int .i64 ((w64 ((((x0).FaultLoom).Design).Hooks - (1 : Int))))) (P_int rfl rfl rfl) (.yes2 rfl rfl o0) rfl ?_
      refine EL_pur (v := fPtr p2 2) (P_fieldAddr at_62_2 o3 (PT.ptr u0)) (.yes2 rfl rfl o0) rfl ?_
      have m7 := PT_field (part_FaultDamage_2).1 u0
      refine EL_do (.yes2 rfl rfl o0) rfl (D_load (g := p4) Try.isAgg3 Try.sizeOf3 rfl m7 fun q9 n7 => ?_)
      obtain rfl := RV_int.1 n7
      refine EL_do (.yes2 rfl rfl o0) rfl (D_buildSlice (g := p4) 3065 (xs := ([(x1).Hook] : List Int)) (vs := [.int .i64 ((x1).Hook)]) Try.underlying22 Try.sizeOf3 Try.zeroValue3 rfl rfl (.cons rfl .nil) (RVs.cons (RV_int.2 rfl) RVs.nil) rfl rfl fun o7 r9 p7 hs o216 q7 hxt hfl => ?_)
      have hfr := hfr.stp hs
      have y0 := y0.stp hs
      have u0 := u0.stp hs
      obtain ⟨s3, y5, h⟩ := bsome h
      refine EL_do (.yes2 rfl rfl o0) rfl (D_call (g := o7) (vs := [.int .i64 (0), .int .i64 ((w64 ((((x0).FaultLoom).Design).Hooks - (1 : Int)))), p7]) en62 (.cons rfl (.cons rfl (.cons rfl .nil))) (wk62 q7 y5) fun q4 p8 s9 hs hr => ?_)
      have hfr := hfr.ext hs
      have y0 := y0.ext hs
      have u0 := u0.ext hs
      subst hr
      refine EL_pur (v := .bool (s3)) (P_pick (b := p3) rfl (pick_t o0 rfl)) .plain rfl ?_
      refine EL_mw (.bool (s3)) rfl rfl ?_
      rcases csome h with ⟨n0, h⟩ | ⟨n0, h⟩
      ·refine EL_pur (v := fPtr p1 0) (P_fieldAddr at_98_0 c4 (PT.ptr y0)) (.yes2 rfl rfl n0) rfl ?_
       have o5 := PT_field (part_FaultFaultLoom_0).1 y0
       refine EL_pur (v := fPtr (fPtr p1 0) 0) (P_fieldAddr at_28_0 rfl (PT.ptr o5)) (.yes2 rfl rfl n0) rfl ?_
       have p5 := PT_field (part_FaultLoom_0).1 o5
       refine EL_pur (v := fPtr (fPtr (fPtr p1 0) 0) 1) (P_fieldAddr at_24_1 rfl (PT.ptr p5)) (.yes2 rfl rfl n0) rfl ?_
       have r7 := PT_field (part_TieHarness_1).1 p5
       refine EL_do (.yes2 rfl rfl n0) rfl (D_load (g := q4) Try.isAgg22 Try.sizeOf22 rfl r7 fun t9 t7 => ?_)
       refine EL_pur (v := .int .i64 (((((x0).FaultLoom).Harness).Warps).length : Int)) (P_len Try.underlying22 rfl t7) (.yes2 rfl rfl n0) rfl ?_
       refine EL_pur (v := .int .i64 ((w64 ((((((x0).FaultLoom).Harness).Warps).length : Int) - (1 : Int))))) (P_int rfl rfl rfl) (.yes2 rfl rfl n0) rfl ?_
       refine EL_pur (v := fPtr p2 3) (P_fieldAddr at_62_3 o3 (PT.ptr u0)) (.yes2 rfl rfl n0) rfl ?_
       have u7 := PT_field (part_FaultDamage_3).1 u0
       refine EL_do (.yes2 rfl rfl n0) rfl (D_load (g := q4) Try.isAgg3 Try.sizeOf3 rfl u7 fun u9 v7 => ?_)
       obtain rfl := RV_int.1 v7
       refine EL_do (.yes2 rfl rfl n0) rfl (D_buildSlice (g := q4) 3077 (xs := ([(x1).Warp] : List Int)) (vs := [.int .i64 ((x1).Warp)]) Try.underlying22 Try.sizeOf3 Try.zeroValue3 rfl rfl (.cons rfl .nil) (RVs.cons (RV_int.2 rfl) RVs.nil) rfl rfl fun x7 v9 y7 hs o226 z7 hxt hfl => ?_)
       have hfr := hfr.stp hs
       obtain ⟨i4, z5, h⟩ := bsome h
       refine EL_do (.yes2 rfl rfl n0) rfl (D_call (g := x7) (vs := [.int .i64 (0), .int .i64 ((w64 ((((((x0).FaultLoom).Harness).Warps).length : Int) - (1 : Int)))), y7]) en62 (.cons rfl (.cons rfl (.cons rfl .nil))) (wk62 z7 z5) fun a8 q8 x9 hs hr => ?_)
       have hfr := hfr.ext hs
       subst hr
       refine EL_pur (v := .bool (i4)) (P_pick (b := s3) rfl (pick_t n0 rfl)) .plain rfl ?_
       refine EL_at (.bool (i4)) rfl rfl ?_
       refine EL_nil ?_
       obtain rfl := sinj h
       exact hQ _ _ ⟨a8, hfr, rfl⟩
      ·refine EL_skip (.no2 rfl rfl n0 rfl) rfl ?_
       refine EL_skip (.no2 rfl rfl n0 rfl) rfl ?_
       refine EL_skip (.no2 rfl rfl n0 rfl) rfl ?_
       refine EL_skip (.no2 rfl rfl n0 rfl) rfl ?_
       refine EL_skip (.no2 rfl rfl n0 rfl) rfl ?_
       refine EL_skip (.no2 rfl rfl n0 rfl) rfl ?_
       refine EL_skip (.no2 rfl rfl n0 rfl) rfl ?_
       refine EL_skip (.no2 rfl rfl n0 rfl) rfl ?_
       refine EL_skip (.no2 rfl rfl n0 rfl) rfl ?_
       refine EL_skip (.no2 rfl rfl n0 rfl) rfl ?_
       refine EL_pur (v := .bool false) (P_pick (b := s3) rfl (pick_f n0 rfl)) .plain rfl ?_
       refine EL_at (.bool false) rfl rfl ?_
       refine EL_nil ?_
       obtain rfl := sinj h
       exact hQ _ _ ⟨q4, hfr, rfl⟩
     ·refine EL_skip (.no2 rfl rfl o0 rfl) rfl ?_
      refine EL_skip (.no2 rfl rfl o0 rfl) rfl ?_
      refine EL_skip (.no2 rfl rfl o0 rfl) rfl ?_
      refine EL_skip (.no2 rfl rfl o0 rfl) rfl ?_
      refine EL_skip (.no2 rfl rfl o0 rfl) rfl ?_
      refine EL_skip (.no2 rfl rfl o0 rfl) rfl ?_
      refine EL_skip (.no2 rfl rfl o0 rfl) rfl ?_
      refine EL_skip (.no2 rfl rfl o0 rfl) rfl ?_
      refine EL_skip (.no2 rfl rfl o0 rfl) rfl ?_
      refine EL_pur (v := .bool false) (P_pick (b := p3) rfl (pick_f o0 rfl)) .plain rfl ?_
      refine EL_dead 12 rfl ?_
      refine EL_at (.bool false) rfl rfl ?_
      refine EL_nil ?_
      obtain rfl := sinj h
      exact hQ _ _ ⟨p4, hfr, rfl⟩
    ·refine EL_skip (.no2 rfl rfl j0 rfl) rfl ?_
     refine EL_skip (.no2 rfl rfl j0 rfl) rfl ?_
     refine EL_skip (.no2 rfl rfl j0 rfl) rfl ?_
     refine EL_skip (.no2 rfl rfl j0 rfl) rfl ?_
     refine EL_skip (.no2 rfl rfl j0 rfl) rfl ?_
     refine EL_skip (.no2 rfl rfl j0 rfl) rfl ?_
     refine EL_skip (.no2 rfl rfl j0 rfl) rfl ?_
     refine EL_skip (.no2 rfl rfl j0 rfl) rfl ?_
     refine EL_skip (.no2 rfl rfl j0 rfl) rfl ?_
     refine EL_skip (.no2 rfl rfl j0 rfl) rfl ?_
     refine EL_pur (v := .bool false) (P_pick (b := (decide (x1 = j1))) rfl (pick_f j0 rfl)) .plain rfl ?_
     refine EL_dead 23 rfl ?_
     refine EL_at (.bool false) rfl rfl ?_
     refine EL_nil ?_
     obtain rfl := sinj h
     exact hQ _ _ ⟨i3, hfr, rfl⟩
   ·refine EL_skip (.no2 rfl rfl z1 rfl) rfl ?_
    refine EL_skip (.no2 rfl rfl z1 rfl) rfl ?_
    refine EL_skip (.no2 rfl rfl z1 rfl) rfl ?_
    refine EL_pur (v := .bool false) (P_pick (b := j2) rfl (pick_f z1 rfl)) .plain rfl ?_
    refine EL_dead 35 rfl ?_
    refine EL_at (.bool false) rfl rfl ?_
    refine EL_nil ?_
    obtain rfl := sinj h
    exact hQ _ _ ⟨i3, hfr, rfl⟩
  ·clear hx
   obtain ⟨y9, hfr, q5⟩ := hR
   refine E_ret ?_
   obtain rfl := sinj h
   exact end1 rfl rfl (show _ = .bool (j3) from q5) ⟨_, hfr, rfl⟩
theorem v86_0 {iO : Nat} {gI : Gh} {wI : World} {x0 : List Bool} {up0 : Value} (rp0 : RV gI.m wI x0 up0) {r : (List Bool)} (h : f86 x0 = some r) : FnG Try.prog 86 #[up0] gI wI (fun g w v => OM iO g w 4 (r) v) := by
 unfold f86 at h
 refine fnG_of_E Try.func86 rfl (Nat.le_of_ble_eq_true rfl) fun g0 hm hfr => ?_
 have rp0 : RV g0.m wI x0 up0 := hm ▸ rp0
 show E _ 21 none _ _ _ _ _
 refine E_seq (E_region (EL_at (.slice none 0 0) rfl rfl ?_))
 refine EL_nil (thn_n (E_seq (E_region (EL_do .plain rfl (D_buildSlice (g := g0) 3005 (xs := ([] : List Bool)) (vs := []) Try.underlying110 Try.sizeOf4 Try.zeroValue4 rfl rfl .nil RVs.nil rfl rfl fun g1 w1 v1 hs o1 r1 hxt hfl => ?_)))))
 have hfr := hfr.stp hs
 have rp0 := rp0.stp hs
 refine EL_at v1 rfl rfl ?_
 refine EL_nil (thn_n ?_)
 obtain ⟨z1, hx, h⟩ := bsome h
 refine E_join (fun e w => ∃ (g : Gh) (v3 : Value), Fr gI wI g w ∧ e 3 = v3 ∧ RV g.m w (z1 : List Bool) v3 ∧ OS 3005 g w 4 (z1 : List Bool) v3) (fun Q' hQ => ?_) (fun q5 y5 hR => ?_)
 ·replace h := hx
  clear hx
  refine E_seq (E_region (EL_mw up0 rfl rfl ?_))
  refine EL_pur (v := .int .i64 ((x0).length : Int)) (P_len Try.underlying110 rfl rp0) .plain rfl ?_
  refine EL_in (.int .i64 ((w64 (((x0).length : Int) - (1 : Int))))) rfl rfl rfl rfl ?_
  refine EL_at (.int .i64 ((w64 (((x0).length : Int) - (1 : Int))))) rfl rfl ?_
  refine EL_nil (thn_n (E_block ?_))
  refine E_lp h (fun (s : (List Bool) × Int) e w => ∃ (g : Gh) (v3 : Value), Fr gI wI g w ∧ e 0 = up0 ∧ RV g.m w (x0 : List Bool) up0 ∧ e 3 = v3 ∧ RV g.m w (s.1 : List Bool) v3 ∧ OS 3005 g w 4 (s.1 : List Bool) v3 ∧ e 4 = .int .i64 (s.2)) ⟨g1, (v1), hfr, rfl, rp0, rfl, r1, o1, rfl⟩ (fun X21 z5 z4 => ?_)
  rintro ⟨d2, j0⟩ t5 a6 ⟨p4, o0, hfr, o3, p3, i2, j2, q2, s2⟩ h
  refine E_joinC h (fun (s : Unit) e w => ∃ (g : Gh) , Fr gI wI g w ∧ e 0 = up0 ∧ RV g.m w (x0 : List Bool) up0 ∧ e 3 = o0 ∧ RV g.m w (d2 : List Bool) o0 ∧ OS 3005 g w 4 (d2 : List Bool) o0 ∧ e 4 = .int .i64 (j0)) (fun X24 b6 c5 h => ?_) ?_
  ·refine E_seq (E_region (EL_mv s2 rfl ?_))
   refine EL_in (.bool ((decide (j0 ≥ (0 : Int))))) rfl rfl rfl rfl ?_
   refine EL_nil (thn_n ?_)
   rcases csome h with ⟨j1, h⟩ | ⟨j1, h⟩
   ·refine E_ct j1 rfl ?_
    exact E_skip (thn_n (c5 () _ _ ⟨p4, hfr, o3, p3, i2, j2, q2, s2⟩ h))
   ·refine E_cf j1 rfl ?_
    refine E_exit ?_
    refine thn_e ?_
    refine thn_e ?_
    refine blk_hit ?_
    obtain rfl := sinj h
    exact hQ _ _ ⟨p4, (o0), hfr, i2, j2, q2⟩
  ·rintro _ u5 c6 ⟨q4, hfr, z2, n0, q3, u0, y0, d3⟩ h
   obtain ⟨i1, hx, h⟩ := bsome h
   refine E_join (fun e w => ∃ (g : Gh) (v3 : Value), Fr gI wI g w ∧ e 0 = up0 ∧ RV g.m w (x0 : List Bool) up0 ∧ e 3 = v3 ∧ RV g.m w (i1 : List Bool) v3 ∧ OS 3005 g w 4 (i1 : List Bool) v3 ∧ e 4 = .int .i64 (j0)) (fun Q' hQ => ?_) (fun x5 d6 hR => ?_)
   ·replace h := hx
    clear hx
    refine E_block ?_
    refine E_region (EL_mv q3 rfl ?_)
    refine EL_mv z2 rfl ?_
    refine EL_mv d3 rfl ?_
    obtain ⟨u4, j3, h⟩ := bsome h
    refine EL_pur (v := ePtr up0 j0 1) (P_indexAddr (α := Bool) Try.underlying110 Try.sizeOf4 rfl n0 rfl j3) .plain rfl ?_
    have i5 := PT_idx n0 j3
    refine EL_do .plain rfl (D_load (g := q4) Try.isAgg4 Try.sizeOf4 rfl i5 fun e6 j5 => ?_)
    obtain rfl := RV_bool.1 j5
    refine EL_do .plain rfl (D_buildSlice (g := q4) 3018 (xs := ([u4] : List Bool)) (vs := [.bool (u4)]) Try.underlying110 Try.sizeOf4 Try.zeroValue4 rfl rfl (.cons rfl .nil) (RVs.cons (RV_bool.2 rfl) RVs.nil) rfl rfl fun l5 i6 j6 hs o36 m5 hxt hfl => ?_)
    have hfr := hfr.stp hs
    have n0 := n0.stp hs
    have u0 := u0.stp hs
    have y0 := y0.stp hs rfl
    obtain ⟨k6, d5, h⟩ := bsome h
    refine EL_do .plain rfl (D_append (g := l5) (i := 3005) Try.underlying110 info_4 rfl rfl y0 u0 rfl m5 d5 fun n5 l6 x4 hs o37 o5 _ => ?_)
    have hfr := hfr.stp hs
    have n0 := n0.stp hs
    refine EL_at x4 rfl rfl ?_
    refine EL_nil (blk_n ?_)
    obtain rfl := sinj h
    exact hQ _ _ ⟨n5, (x4), hfr, z2, n0, rfl, o5, o37, d3⟩
   ·clear hx
    obtain ⟨p5, s3, hfr, u3, z3, c4, d4, i4, j4⟩ := hR
    refine E_region (EL_mv j4 rfl ?_)
    refine EL_in (.int .i64 ((w64 (j0 - (1 : Int))))) rfl rfl rfl rfl ?_
    refine EL_at (.int .i64 ((w64 (j0 - (1 : Int))))) rfl rfl ?_
    exact EL_nil (thn_n (z4 (i1, (w64 (j0 - (1 : Int)))) _ _ ⟨p5, (s3), hfr, u3, z3, c4, d4, i4, rfl⟩ h))
 ·clear hx
  obtain ⟨m6, i3, hfr, m4, n4, o4⟩ := hR
  refine E_seq (E_region (EL_mv m4 rfl ?_))
  refine EL_at i3 rfl rfl ?_
  refine EL_nil (thn_n (E_ret ?_))
  obtain rfl := sinj h
  obtain ⟨gh, hxh, homh⟩ := OM.hand (i := iO) plain_bool hfr o4 n4
  exact end1 rfl rfl (show _ = i3 from rfl) ⟨gh, hxh, homh⟩
/-- griffe/fault.Can$1 -/
def f61 (x0 : FaultSight) (z0 : FaultLoom) : Option (Bool) :=
 Option.bind (α := Bool) (
  (f62 ((0 : Int)) ((119 : Int)) (([(x0).Pick] : List Int))).bind fun o0 =>
  bif (!o0) then
   some (true)
  else
   (f62 ((0 : Int)) ((w64 (((((z0).Harness).Warps).length : Int) - (1 : Int)))) (([(x0).Warp] : List Int))).bind fun u0 =>
   some ((!u0))
  ) fun n0 =>
 some (n0)
theorem en61 : Enters Try.prog 61 := enters_of Try.func61 (by kernel_rfl) rfl
theorem wk61 {gI : Gh} {wI : World} {x0 : FaultSight} {z0 : FaultLoom} {up0 : Value} (rp0 : RV gI.m wI x0 up0) {pf0 : Value} (qf0 : PT gI.m wI z0 pf0) {r : Bool} (h : f61 x0 z0 = some r) : Fn Try.prog 61 #[up0, pf0] gI wI (fun _ _ v => v = .bool (r)) := by
 unfold f61 at h
 refine fn_of_E Try.func61 rfl (Nat.le_of_ble_eq_true rfl) fun g0 hm hfr => ?_
 have qf0 : PT g0.m wI z0 pf0 := hm ▸ qf0
 have rp0 : RV g0.m wI x0 up0 := hm ▸ rp0
 show E _ 21 none _ _ _ _ _
 refine E_seq (E_region (EL_do .plain rfl (D_box (g := g0) rfl rp0 fun g1 w1 p1 hs q1 => ?_)))
 have hfr := hfr.ext hs
 have qf0 := qf0.ext hs
 refine EL_at (.bool false) rfl rfl ?_
 refine EL_nil (thn_n ?_)
 obtain ⟨n0, hx, h⟩ := bsome h
 refine E_join (fun e w => ∃ (g : Gh) , Fr gI wI g w ∧ e 3 = .bool (n0)) (fun Q' hQ => ?_) (fun z3 i4 hR => ?_)
 ·replace h := hx
  clear hx
  refine E_region (EL_pur (v := fPtr p1 0) (P_fieldAddr at_56_0 rfl (PT.ptr q1)) .plain rfl ?_)
  have i2 := PT_field (part_FaultSight_0).1 q1
  refine EL_do .plain rfl (D_load (g := g1) Try.isAgg3 Try.sizeOf3 rfl i2 fun j4 j2 => ?_)
  obtain rfl := RV_int.1 j2
  refine EL_do .plain rfl (D_buildSlice (g := g1) 3006 (xs := ([(x0).Pick] : List Int)) (vs := [.int .i64 ((x0).Pick)]) Try.underlying22 Try.sizeOf3 Try.zeroValue3 rfl rfl (.cons rfl .nil) (RVs.cons (RV_int.2 rfl) RVs.nil) rfl rfl fun q2 m4 s2 hs o18 z2 hxt hfl => ?_)
  have hfr := hfr.stp hs
  have qf0 := qf0.stp hs
  have q1 := q1.stp hs
  obtain ⟨o0, z1, h⟩ := bsome h
  refine EL_do .plain rfl (D_call (g := q2) (vs := [.int .i64 (0), .int .i64 (119), s2]) en62 (.cons rfl (.cons rfl (.cons rfl .nil))) (wk62 z2 z1) fun y0 c4 n4 hs hr => ?_)
  have hfr := hfr.ext hs
  have qf0 := qf0.ext hs
  have q1 := q1.ext hs
  subst hr
  refine EL_pur (v := .bool (!o0)) (P_not rfl) .plain rfl ?_
  refine EL_mw (.bool (!o0)) rfl rfl ?_
  rcases csome h with ⟨j0, h⟩ | ⟨j0, h⟩
  ·refine EL_skip (.no2 rfl rfl j0 rfl) rfl ?_
   refine EL_skip (.no2 rfl rfl j0 rfl) rfl ?_
   refine EL_skip (.no2 rfl rfl j0 rfl) rfl ?_
   refine EL_skip (.no2 rfl rfl j0 rfl) rfl ?_
   refine EL_skip (.no2 rfl rfl j0 rfl) rfl ?_
   refine EL_skip (.no2 rfl rfl j0 rfl) rfl ?_
   refine EL_skip (.no2 rfl rfl j0 rfl) rfl ?_
   refine EL_skip (.no2 rfl rfl j0 rfl) rfl ?_
   refine EL_skip (.no2 rfl rfl j0 rfl) rfl ?_
   refine EL_skip (.no2 rfl rfl j0 rfl) rfl ?_
   refine EL_pur (v := .bool true) (P_pick (b := (!o0)) rfl (pick_t j0 rfl)) .plain rfl ?_
   refine EL_at (.bool true) rfl rfl ?_
   refine EL_nil ?_
   obtain rfl := sinj h
   exact hQ _ _ ⟨y0, hfr, rfl⟩
  ·refine EL_pur (v := fPtr pf0 0) (P_fieldAddr at_28_0 rfl (PT.ptr qf0)) (.yes2 rfl rfl j0) rfl ?_
   have j1 := PT_field (part_FaultLoom_0).1 qf0
   refine EL_pur (v := fPtr (fPtr pf0 0) 1) (P_fieldAddr at_24_1 rfl (PT.ptr j1)) (.yes2 rfl rfl j0) rfl ?_
   have d3 := PT_field (part_TieHarness_1).1 j1
   refine EL_do (.yes2 rfl rfl j0) rfl (D_load (g := y0) Try.isAgg22 Try.sizeOf22 rfl d3 fun o4 i3 => ?_)
   refine EL_pur (v := .int .i64 ((((z0).Harness).Warps).length : Int)) (P_len Try.underlying22 rfl i3) (.yes2 rfl rfl j0) rfl ?_
   refine EL_pur (v := .int .i64 ((w64 (((((z0).Harness).Warps).length : Int) - (1 : Int))))) (P_int rfl rfl rfl) (.yes2 rfl rfl j0) rfl ?_
   refine EL_pur (v := fPtr p1 1) (P_fieldAddr at_56_1 rfl (PT.ptr q1)) (.yes2 rfl rfl j0) rfl ?_
   have j3 := PT_field (part_FaultSight_1).1 q1
   refine EL_do (.yes2 rfl rfl j0) rfl (D_load (g := y0) Try.isAgg3 Try.sizeOf3 rfl j3 fun p4 o3 => ?_)
   obtain rfl := RV_int.1 o3
   refine EL_do (.yes2 rfl rfl j0) rfl (D_buildSlice (g := y0) 3017 (xs := ([(x0).Warp] : List Int)) (vs := [.int .i64 ((x0).Warp)]) Try.underlying22 Try.sizeOf3 Try.zeroValue3 rfl rfl (.cons rfl .nil) (RVs.cons (RV_int.2 rfl) RVs.nil) rfl rfl fun p3 q4 q3 hs o27 s3 hxt hfl => ?_)
   have hfr := hfr.stp hs
   obtain ⟨u0, d2, h⟩ := bsome h
   refine EL_do (.yes2 rfl rfl j0) rfl (D_call (g := p3) (vs := [.int .i64 (0), .int .i64 ((w64 (((((z0).Harness).Warps).length : Int) - (1 : Int)))), q3]) en62 (.cons rfl (.cons rfl (.cons rfl .nil))) (wk62 s3 d2) fun u3 d4 u4 hs hr => ?_)
   have hfr := hfr.ext hs
   subst hr
   refine EL_pur (v := .bool (!u0)) (P_not rfl) (.yes2 rfl rfl j0) rfl ?_
   refine EL_pur (v := .bool (!u0)) (P_pick (b := (!o0)) rfl (pick_f j0 rfl)) .plain rfl ?_
   refine EL_at (.bool (!u0)) rfl rfl ?_
   refine EL_nil ?_
   obtain rfl := sinj h
   exact hQ _ _ ⟨u3, hfr, rfl⟩
 ·clear hx
  obtain ⟨x4, hfr, i1⟩ := hR
  refine E_ret ?_
  obtain rfl := sinj h
  exact end1 rfl rfl (show _ = .bool (n0) from i1) ⟨_, hfr, rfl⟩
/-- slices.stableCmpFunc[griffe/api.FaultDamage] -/
def f96 (x0 : List FaultDamage) (x1 : Int) (x2 : FaultDamage → FaultDamage → Option Int) : Option ((List FaultDamage)) :=
 Option.bind (α := (List FaultDamage) × Int) (
  lp (σ := (List FaultDamage) × Int × Int) (fun k9 (j1, i1, n0) =>
   jn (σ := Unit) (fun (_ : Unit) =>
    (f107 j1 i1 n0 x2).bind fun d6 =>
    k9 (d6, n0, (w64 (n0 + (20 : Int))))
    ) fun e7 =>
   bif (decide (n0 ≤ x1)) then
    e7 ()
   else
    some (j1, i1)
   ) big (x0, (0 : Int), (20 : Int))
  ) fun (z2, z1) =>
 (f107 z2 z1 x1 x2).bind fun g7 =>
 lp (σ := (List FaultDamage) × Int) (fun i7 (d2, j0) =>
  jn (σ := Unit) (fun (_ : Unit) =>
   Option.bind (α := (List FaultDamage) × Int) (
    lp (σ := (List FaultDamage) × Int × Int) (fun j7 (i2, y0, o0) =>
     jn (σ := Unit) (fun (_ : Unit) =>
      (f108 big i2 y0 ((w64 (y0 + j0))) o0 x2).bind fun e6 =>
      j7 (e6, o0, (w64 (o0 + (w64 ((2 : Int) * j0)))))
      ) fun l7 =>
     bif (decide (o0 ≤ x1)) then
      l7 ()
     else
      some (i2, y0)
     ) big (d2, (0 : Int), (w64 ((2 : Int) * j0)))
    ) fun (j2, u0) =>
   Option.bind (α := (List FaultDamage)) (
    bif (decide ((w64 (u0 + j0)) < x1)) then
     (f108 big j2 u0 ((w64 (u0 + j0))) x1 x2).bind fun m7 =>
     some (m7)
    else
     some (j2)
    ) fun q2 =>
   i7 (q2, (w64 (j0 * (2 : Int))))
   ) fun n7 =>
  bif (decide (j0 < x1)) then
   n7 ()
  else
   some (d2)
  ) big (g7, (20 : Int))
theorem en96 : Enters Try.prog 96 := enters_of Try.func96 (by kernel_rfl) rfl
theorem wk96 {iI : Nat} {gI : Gh} {wI : World} {x0 : List FaultDamage} {x1 : Int} {x2 : FaultDamage → FaultDamage → Option Int} {up0 : Value} (mp0 : OM iI gI wI 62 x0 up0) {up2 : Value} (rp2 : FnV2 Try.prog x2 up2 gI wI) {r : (List FaultDamage)} (h : f96 x0 x1 x2 = some r) : FnM Try.prog 96 #[up0, .int .i64 (x1), up2] iI gI wI (fun g w v => v = .tuple #[] ∧ OM iI g w 62 r up0) := by
 unfold f96 at h
 refine fnM_of_E Try.func96 rfl (Nat.le_of_ble_eq_true rfl) fun g0 hm hfr => ?_
 have i6 := mp0
 replace mp0 := mp0.enter
 rw [← hm] at mp0
 replace hm : g0.m = gI.m := by rw [hm]
 obtain ⟨ff2, fa2, fc2, rfl, fen2, fcl2⟩ := rp2
 show E _ 63 none _ _ _ _ _
 refine E_seq (E_region (EL_at (.int .i64 (20)) rfl rfl ?_))
 refine EL_nil (thn_n (E_seq (E_region (EL_mw (.int .i64 (20)) rfl rfl ?_))))
 refine EL_at (.int .i64 (0)) rfl rfl ?_
 refine EL_at (.int .i64 (20)) rfl rfl ?_
 refine EL_nil (thn_n ?_)
 obtain ⟨⟨z2, z1⟩, hx, h⟩ := bsome h
 refine E_join (fun e w => ∃ (g : Gh) , FrM iI gI wI g w ∧ e 0 = up0 ∧ OM 1 g w 62 (z2 : List FaultDamage) up0 ∧ e 1 = .int .i64 (x1) ∧ e 2 = (.func (.func ff2) fa2 fc2) ∧ e 6 = .int .i64 ((20 : Int)) ∧ e 7 = .int .i64 (z1)) (fun Q' hQ => ?_) (fun p8 g9 hR => ?_)
 ·replace h := hx
  clear hx
  refine E_block ?_
  refine E_lp h (fun (s : (List FaultDamage) × Int × Int) e w => ∃ (g : Gh) , FrM iI gI wI g w ∧ e 0 = up0 ∧ OM 1 g w 62 (s.1 : List FaultDamage) up0 ∧ e 1 = .int .i64 (x1) ∧ e 2 = (.func (.func ff2) fa2 fc2) ∧ e 6 = .int .i64 ((20 : Int)) ∧ e 7 = .int .i64 (s.2.1) ∧ e 8 = .int .i64 (s.2.2)) ⟨g0, hfr, rfl, mp0, rfl, rfl, rfl, rfl, rfl⟩ (fun X9 k9 c8 => ?_)
  rintro ⟨j1, i1, n0⟩ q8 i9 ⟨o7, hfr, j4, m4, d3, n4, o4, p4, q4⟩ h
  refine E_joinC h (fun (s : Unit) e w => ∃ (g : Gh) , FrM iI gI wI g w ∧ e 0 = up0 ∧ OM 1 g w 62 (j1 : List FaultDamage) up0 ∧ e 1 = .int .i64 (x1) ∧ e 2 = (.func (.func ff2) fa2 fc2) ∧ e 6 = .int .i64 ((20 : Int)) ∧ e 7 = .int .i64 (i1) ∧ e 8 = .int .i64 (n0)) (fun X12 e7 r7 h => ?_) ?_
  ·refine E_seq (E_region (EL_mv q4 rfl ?_))
   refine EL_mv d3 rfl ?_
   refine EL_in (.bool ((decide (n0 ≤ x1)))) rfl rfl rfl rfl ?_
   refine EL_nil (thn_n ?_)
   rcases csome h with ⟨z3, h⟩ | ⟨z3, h⟩
   ·refine E_ct z3 rfl ?_
    exact E_skip (thn_n (r7 () _ _ ⟨o7, hfr, j4, m4, d3, n4, o4, p4, q4⟩ h))
   ·refine E_cf z3 rfl ?_
    refine E_exit ?_
    refine thn_e ?_
    refine thn_e ?_
    refine blk_hit ?_
    obtain ⟨rfl, rfl⟩ := pairs2 h
    exact hQ _ _ ⟨o7, hfr, j4, m4, d3, n4, o4, p4⟩
  ·rintro _ r8 j9 ⟨d8, hfr, u4, j6, k6, x4, z4, l6, i3⟩ h
   refine E_block ?_
   refine E_seq (E_region (EL_mv u4 rfl ?_))
   refine EL_mv l6 rfl ?_
   refine EL_mv i3 rfl ?_
   refine EL_mv x4 rfl ?_
   obtain ⟨d6, t7, h⟩ := bsome h
   refine EL_do .plain rfl (D_callM (g := d8) (i := 1) (vs := [up0, .int .i64 (i1), .int .i64 (n0), (.func (.func ff2) fa2 fc2)]) en107 (.cons rfl (.cons rfl (.cons rfl (.cons rfl .nil)))) (wk107 j6 (FnV2.ch ⟨_, _, _, rfl, fen2, fcl2⟩ hfr.ch) t7) fun e8 t8 l9 hs hr => ?_)
   obtain ⟨hrv, b15⟩ := hr
   subst hrv
   have hfr := hfr.stp hs
   refine EL_nil (thn_n (E_seq (E_region (EL_mv i3 rfl ?_))))
   refine EL_at (.int .i64 (n0)) rfl rfl ?_
   refine EL_nil (thn_n (E_region (EL_mv i3 rfl ?_)))
   refine EL_mv z4 rfl ?_
   refine EL_in (.int .i64 ((w64 (n0 + (20 : Int))))) rfl rfl rfl rfl ?_
   refine EL_at (.int .i64 ((w64 (n0 + (20 : Int))))) rfl rfl ?_
   exact EL_nil (blk_n (thn_n (c8 (d6, n0, (w64 (n0 + (20 : Int)))) _ _ ⟨e8, hfr, u4, b15, k6, x4, z4, rfl, rfl⟩ h)))
 ·clear hx
  obtain ⟨g8, hfr, c5, m6, d5, i5, n6, o6⟩ := hR
  refine E_seq (E_region (EL_mv c5 rfl ?_))
  refine EL_mv o6 rfl ?_
  refine EL_mv d5 rfl ?_
  refine EL_mv i5 rfl ?_
  obtain ⟨g7, u7, h⟩ := bsome h
  refine EL_do .plain rfl (D_callM (g := g8) (i := 1) (vs := [up0, .int .i64 (z1), .int .i64 (x1), (.func (.func ff2) fa2 fc2)]) en107 (.cons rfl (.cons rfl (.cons rfl (.cons rfl .nil)))) (wk107 m6 (FnV2.ch ⟨_, _, _, rfl, fen2, fcl2⟩ hfr.ch) u7) fun i8 v8 m9 hs hr => ?_)
  obtain ⟨hrv, b18⟩ := hr
  subst hrv
  have hfr := hfr.stp hs
  refine EL_nil (thn_n (E_block ?_))
  refine E_lp h (fun (s : (List FaultDamage) × Int) e w => ∃ (g : Gh) , FrM iI gI wI g w ∧ e 0 = up0 ∧ OM 1 g w 62 (s.1 : List FaultDamage) up0 ∧ e 1 = .int .i64 (x1) ∧ e 2 = (.func (.func ff2) fa2 fc2) ∧ e 6 = .int .i64 (s.2)) ⟨i8, hfr, c5, b18, d5, i5, n6⟩ (fun X20 i7 v7 => ?_)
  rintro ⟨d2, j0⟩ x8 n9 ⟨j8, hfr, p6, j5, l5, q6, m5⟩ h
  refine E_joinC h (fun (s : Unit) e w => ∃ (g : Gh) , FrM iI gI wI g w ∧ e 0 = up0 ∧ OM 1 g w 62 (d2 : List FaultDamage) up0 ∧ e 1 = .int .i64 (x1) ∧ e 2 = (.func (.func ff2) fa2 fc2) ∧ e 6 = .int .i64 (j0)) (fun X23 n7 x7 h => ?_) ?_
  ·refine E_seq (E_region (EL_mv m5 rfl ?_))
   refine EL_mv l5 rfl ?_
   refine EL_in (.bool ((decide (j0 < x1)))) rfl rfl rfl rfl ?_
   refine EL_nil (thn_n ?_)
   rcases csome h with ⟨c4, h⟩ | ⟨c4, h⟩
   ·refine E_ct c4 rfl ?_
    exact E_skip (thn_n (x7 () _ _ ⟨j8, hfr, p6, j5, l5, q6, m5⟩ h))
   ·refine E_cf c4 rfl ?_
    refine E_exit ?_
    refine thn_e ?_
    refine thn_e ?_
    refine blk_hit ?_
    obtain rfl := sinj h
    exact end0n rfl rfl ⟨_, hfr, rfl, i6.back j5⟩
  ·rintro _ y8 o9 ⟨k8, hfr, r6, t6, u6, v6, n5⟩ h
   refine E_block ?_
   refine E_seq (E_region (EL_mv n5 rfl ?_))
   refine EL_in (.int .i64 ((w64 ((2 : Int) * j0)))) rfl rfl rfl rfl ?_
   refine EL_at (.int .i64 (0)) rfl rfl ?_
   refine EL_at (.int .i64 ((w64 ((2 : Int) * j0)))) rfl rfl ?_
   refine EL_nil (thn_n ?_)
   obtain ⟨⟨j2, u0⟩, hx, h⟩ := bsome h
   refine E_join (fun e w => ∃ (g : Gh) , FrM iI gI wI g w ∧ e 0 = up0 ∧ OM 1 g w 62 (j2 : List FaultDamage) up0 ∧ e 1 = .int .i64 (x1) ∧ e 2 = (.func (.func ff2) fa2 fc2) ∧ e 6 = .int .i64 (j0) ∧ e 7 = .int .i64 (u0)) (fun Q' hQ => ?_) (fun z8 p9 hR => ?_)
   ·replace h := hx
    clear hx
    refine E_block ?_
    refine E_lp h (fun (s : (List FaultDamage) × Int × Int) e w => ∃ (g : Gh) , FrM iI gI wI g w ∧ e 0 = up0 ∧ OM 1 g w 62 (s.1 : List FaultDamage) up0 ∧ e 1 = .int .i64 (x1) ∧ e 2 = (.func (.func ff2) fa2 fc2) ∧ e 6 = .int .i64 (j0) ∧ e 7 = .int .i64 (s.2.1) ∧ e 8 = .int .i64 (s.2.2)) ⟨k8, hfr, r6, t6, u6, v6, n5, rfl, rfl⟩ (fun X34 j7 y7 => ?_)
    rintro ⟨i2, y0, o0⟩ a9 q9 ⟨p7, hfr, o5, p5, j3, q5, t5, u5, x5⟩ h
    refine E_joinC h (fun (s : Unit) e w => ∃ (g : Gh) , FrM iI gI wI g w ∧ e 0 = up0 ∧ OM 1 g w 62 (i2 : List FaultDamage) up0 ∧ e 1 = .int .i64 (x1) ∧ e 2 = (.func (.func ff2) fa2 fc2) ∧ e 6 = .int .i64 (j0) ∧ e 7 = .int .i64 (y0) ∧ e 8 = .int .i64 (o0)) (fun X37 l7 z7 h => ?_) ?_
    ·refine E_seq (E_region (EL_mv x5 rfl ?_))
     refine EL_mv j3 rfl ?_
     refine EL_in (.bool ((decide (o0 ≤ x1)))) rfl rfl rfl rfl ?_
     refine EL_nil (thn_n ?_)
     rcases csome h with ⟨d4, h⟩ | ⟨d4, h⟩
     ·refine E_ct d4 rfl ?_
      exact E_skip (thn_n (z7 () _ _ ⟨p7, hfr, o5, p5, j3, q5, t5, u5, x5⟩ h))
     ·refine E_cf d4 rfl ?_
      refine E_exit ?_
      refine thn_e ?_
      refine thn_e ?_
      refine blk_hit ?_
      obtain ⟨rfl, rfl⟩ := pairs2 h
      exact hQ _ _ ⟨p7, hfr, o5, p5, j3, q5, t5, u5⟩
    ·rintro _ b9 r9 ⟨l8, hfr, y5, x6, y6, z5, o3, a6, p3⟩ h
     refine E_block ?_
     refine E_seq (E_region (EL_mv y5 rfl ?_))
     refine EL_mv a6 rfl ?_
     refine EL_mv a6 rfl ?_
     refine EL_mv o3 rfl ?_
     refine EL_in (.int .i64 ((w64 (y0 + j0)))) rfl rfl rfl rfl ?_
     refine EL_mv p3 rfl ?_
     refine EL_mv z5 rfl ?_
     obtain ⟨e6, a8, h⟩ := bsome h
     refine EL_do .plain rfl (D_callM (g := l8) (i := 1) (vs := [up0, .int .i64 (y0), .int .i64 ((w64 (y0 + j0))), .int .i64 (o0), (.func (.func ff2) fa2 fc2)]) en108 (.cons rfl (.cons rfl (.cons rfl (.cons rfl (.cons rfl .nil))))) (wk108 big x6 (FnV2.ch ⟨_, _, _, rfl, fen2, fcl2⟩ hfr.ch) a8) fun m8 c9 s9 hs hr => ?_)
     obtain ⟨hrv, b40⟩ := hr
     subst hrv
     have hfr := hfr.stp hs
     refine EL_nil (thn_n (E_seq (E_region (EL_mv p3 rfl ?_))))
     refine EL_at (.int .i64 (o0)) rfl rfl ?_
     refine EL_nil (thn_n (E_region (EL_mv p3 rfl ?_)))
     refine EL_mv o3 rfl ?_
     refine EL_in (.int .i64 ((w64 ((2 : Int) * j0)))) rfl rfl rfl rfl ?_
     refine EL_pur (v := .int .i64 ((w64 (o0 + (w64 ((2 : Int) * j0)))))) (P_int rfl rfl rfl) .plain rfl ?_
     refine EL_pur (v := .int .i64 ((w64 (o0 + (w64 ((2 : Int) * j0)))))) (P_assign rfl) .plain rfl ?_
     exact EL_nil (blk_n (thn_n (y7 (e6, o0, (w64 (o0 + (w64 ((2 : Int) * j0))))) _ _ ⟨m8, hfr, y5, b40, y6, z5, o3, rfl, rfl⟩ h)))
   ·clear hx
    obtain ⟨q7, hfr, q3, b6, s2, s3, u3, c6⟩ := hR
    obtain ⟨q2, hx, h⟩ := bsome h
    refine E_join (fun e w => ∃ (g : Gh) , FrM iI gI wI g w ∧ e 0 = up0 ∧ OM 1 g w 62 (q2 : List FaultDamage) up0 ∧ e 1 = .int .i64 (x1) ∧ e 2 = (.func (.func ff2) fa2 fc2) ∧ e 6 = .int .i64 (j0)) (fun Q' hQ => ?_) (fun d9 t9 hR => ?_)
    ·replace h := hx
     clear hx
     refine E_seq (E_region (EL_mv c6 rfl ?_))
     refine EL_mv u3 rfl ?_
     refine EL_in (.int .i64 ((w64 (u0 + j0)))) rfl rfl rfl rfl ?_
     refine EL_at (.int .i64 ((w64 (u0 + j0)))) rfl rfl ?_
     refine EL_nil (thn_n (E_seq (E_region (EL_mw (.int .i64 ((w64 (u0 + j0)))) rfl rfl ?_))))
     refine EL_mv s2 rfl ?_
     refine EL_in (.bool ((decide ((w64 (u0 + j0)) < x1)))) rfl rfl rfl rfl ?_
     refine EL_nil (thn_n ?_)
     rcases csome h with ⟨i4, h⟩ | ⟨i4, h⟩
     ·refine E_ct i4 rfl ?_
      refine E_region (EL_mv q3 rfl ?_)
      refine EL_mv c6 rfl ?_
      refine EL_mw (.int .i64 ((w64 (u0 + j0)))) rfl rfl ?_
      refine EL_mv s2 rfl ?_
      refine EL_mv s3 rfl ?_
      obtain ⟨m7, b8, h⟩ := bsome h
      refine EL_do .plain rfl (D_callM (g := q7) (i := 1) (vs := [up0, .int .i64 (u0), .int .i64 ((w64 (u0 + j0))), .int .i64 (x1), (.func (.func ff2) fa2 fc2)]) en108 (.cons rfl (.cons rfl (.cons rfl (.cons rfl (.cons rfl .nil))))) (wk108 big b6 (FnV2.ch ⟨_, _, _, rfl, fen2, fcl2⟩ hfr.ch) b8) fun n8 e9 u9 hs hr => ?_)
      obtain ⟨hrv, b47⟩ := hr
      subst hrv
      have hfr := hfr.stp hs
      refine EL_nil ?_
      obtain rfl := sinj h
      exact hQ _ _ ⟨n8, hfr, q3, b47, s2, s3, u3⟩
     ·refine E_cf i4 rfl ?_
      refine E_skip ?_
      obtain rfl := sinj h
      exact hQ _ _ ⟨q7, hfr, q3, b6, s2, s3, u3⟩
    ·clear hx
     obtain ⟨o8, hfr, z6, a7, b7, c7, d7⟩ := hR
     refine E_region (EL_mv d7 rfl ?_)
     refine EL_in (.int .i64 ((w64 (j0 * (2 : Int))))) rfl rfl rfl rfl ?_
     refine EL_at (.int .i64 ((w64 (j0 * (2 : Int))))) rfl rfl ?_
     exact EL_nil (blk_n (thn_n (v7 (q2, (w64 (j0 * (2 : Int)))) _ _ ⟨o8, hfr, z6, a7, b7, c7, rfl⟩ h)))
/-- griffe/fault.Check$1 -/
def f51 (x0 : FaultDamage) (z0 : FaultLoom) : Option (Bool) :=
 (f52 ((⟨z0⟩ : FaultFaultLoom)) x0).bind fun y6 =>
 some ((!y6))
theorem en51 : Enters Try.prog 51 := enters_of Try.func51 (by kernel_rfl) rfl
theorem wk51 {gI : Gh} {wI : World} {x0 : FaultDamage} {z0 : FaultLoom} {up0 : Value} (rp0 : RV gI.m wI x0 up0) {pf0 : Value} (qf0 : PT gI.m wI z0 pf0) {r : Bool} (h : f51 x0 z0 = some r) : Fn Try.prog 51 #[up0, pf0] gI wI (fun _ _ v => v = .bool (r)) := by
 unfold f51 at h
 refine fn_of_E Try.func51 rfl (Nat.le_of_ble_eq_true rfl) fun g0 hm hfr => ?_
 have qf0 : PT g0.m wI z0 pf0 := hm ▸ qf0
 have rp0 : RV g0.m wI x0 up0 := hm ▸ rp0
 show E _ 9 none _ _ _ _ _
 refine E_seq (E_region (EL_do .plain rfl (D_box (g := g0) rfl rp0 fun g1 w1 p1 hs q1 => ?_)))
 have hfr := hfr.ext hs
 have qf0 := qf0.ext hs
 refine EL_at (.bool false) rfl rfl ?_
 refine EL_nil (thn_n (E_seq (E_region (EL_do .plain rfl (D_load (g := g1) Try.isAgg28 Try.sizeOf28 rfl qf0 fun v2 r2 => ?_)))))
 have r3 : RV g1.m _ (⟨z0⟩ : FaultFaultLoom) (.agg (setCh [[.int .i64 0, .slice none 0 0, .int .i64 0, .slice none 0 0]] [(0, v2)]).flatten.toArray) := RV_build rfl (rep_last (RV.cells r2))
 generalize hv3 : (Value.agg (setCh [[.int .i64 0, .slice none 0 0, .int .i64 0, .slice none 0 0]] [(0, v2)]).flatten.toArray) = v3 at r3
 refine EL_pur (v := v3) (hv3 ▸ P_build (vs := [(0, v2)]) [[.int .i64 0, .slice none 0 0, .int .i64 0, .slice none 0 0]] lay_98 rfl rfl (.cons rfl .nil) ⟨⟨_, rfl, cells_size r2⟩, trivial⟩) .plain rfl ?_
 refine EL_do .plain rfl (D_load (g := g1) Try.isAgg62 Try.sizeOf62 rfl q1 fun v4 r4 => ?_)
 obtain ⟨y6, j0, h⟩ := bsome h
 refine EL_do .plain rfl (D_call (g := g1) (vs := [v3, v4]) en52 (.cons rfl (.cons rfl .nil)) (wk52 r3 r4 j0) fun g5 w5_ v5 hs hr => ?_)
 have hfr := hfr.ext hs
 subst hr
 refine EL_pur (v := .bool (!y6)) (P_not rfl) .plain rfl ?_
 refine EL_at (.bool (!y6)) rfl rfl ?_
 refine EL_nil (thn_n (E_ret ?_))
 obtain rfl := sinj h
 exact end1 rfl rfl (show _ = .bool (!y6) from rfl) ⟨_, hfr, rfl⟩
/-- griffe/grifferef05.Cards -/
def f60 (x0 : FaultLoom) (x1 : List FaultDamage) : Option ((List (List Bool))) :=
 (f85 ((x0).Design)).bind fun y5 =>
 Option.bind (α := (List (List Bool))) (
  lp (σ := (List (List Bool)) × Int) (fun j5 (y0, j1) =>
   jn (σ := Unit) (fun (_ : Unit) =>
    Option.bind (α := (List (List Bool))) (
     (idx x1 j1).bind fun u0 =>
     bif ((u0).Kind == (1 : Int)) then
      (idx y0 (u0).Pick).bind fun p4 =>
      (idx y0 (u0).Pick).bind fun l5 =>
      (idx l5 (u0).Hook).bind fun z2 =>
      (idx p4 (u0).Hook).bind fun _n7 =>
      some ((List.set y0 (Int.toNat (u0).Pick) (List.set p4 (Int.toNat (u0).Hook) ((!z2)))))
     else
      bif ((u0).Kind == (3 : Int)) then
       (idx y0 ((u0).Pick)).bind fun m5 =>
       (f86 m5).bind fun d3 =>
       some ((List.set y0 (Int.toNat (u0).Pick) d3))
      else
       bif ((u0).Kind == (4 : Int)) then
        (rem64 (w64 ((u0).Pick + (1 : Int))) ((y0).length : Int)).bind fun d2 =>
        (idx y0 (u0).Pick).bind fun n5 =>
        (idx y0 d2).bind fun o5 =>
        (idx y0 (u0).Pick).bind fun _o7 =>
        some ((List.set (List.set y0 (Int.toNat (u0).Pick) o5) (Int.toNat d2) n5))
       else
        some (y0)
     ) fun s2 =>
    j5 (s2, (w64 (j1 + (1 : Int))))
    ) fun p5 =>
   bif (decide (j1 < ((x1).length : Int))) then
    p5 ()
   else
    some (y0)
   ) big (y5, (0 : Int))
  ) fun i3 =>
 some (i3)
theorem en60 : Enters Try.prog 60 := enters_of Try.func60 (by kernel_rfl) rfl
theorem wk60 {gI : Gh} {wI : World} {x0 : FaultLoom} {x1 : List FaultDamage} {up0 : Value} (rp0 : RV gI.m wI x0 up0) {up1 : Value} (rp1 : RV gI.m wI x1 up1) {r : (List (List Bool))} (h : f60 x0 x1 = some r) : Fn Try.prog 60 #[up0, up1] gI wI (fun m w v => RV m w (r) v) := by
 unfold f60 at h
 refine fn_of_E Try.func60 rfl (Nat.le_of_ble_eq_true rfl) fun g0 hm hfr => ?_
 have rp0 : RV g0.m wI x0 up0 := hm ▸ rp0
 have rp1 : RV g0.m wI x1 up1 := hm ▸ rp1
 show E _ 85 none _ _ _ _ _
 refine E_seq (E_region (EL_do .plain rfl (D_box (g := g0) rfl rp0 fun g1 w1 p1 hs q1 => ?_)))
 have hfr := hfr.ext hs
 have rp1 := rp1.ext hs
 refine EL_at (.slice none 0 0) rfl rfl ?_
 refine EL_nil (thn_n (E_seq (E_region (EL_pur (v := fPtr p1 2) (P_fieldAddr at_28_1 rfl (PT.ptr q1)) .plain rfl ?_))))
 have q2 := PT_field (part_FaultLoom_1).1 q1
 refine EL_do .plain rfl (D_load (g := g1) Try.isAgg26 Try.sizeOf26 rfl q2 fun v3 r3 => ?_)
 obtain ⟨y5, a9, h⟩ := bsome h
 refine EL_do .plain rfl (D_callG (g := g1) (vs := [v3]) en85 (.cons rfl .nil) (v85_0 (iO := 9013) (jO := 9513) r3 a9) fun g4 w4_ v4 hs hr => ?_)
 have hfr := hfr.ext hs
 have rp1 := rp1.ext hs
 obtain ⟨q4, b4, c4⟩ := hr
 refine EL_at v4 rfl rfl ?_
 refine EL_nil (thn_n ?_)
 obtain ⟨i3, hx, h⟩ := bsome h
 refine E_join (fun e w => ∃ (g : Gh) , Fr gI wI g w ∧ e 5 = v4 ∧ NS (RM (α := Bool) 4) 9013 9513 g w 110 (i3 : List (List Bool)) v4) (fun Q' hQ => ?_) (fun g9 l9 hR => ?_)
 ·replace h := hx
  clear hx
  refine E_seq (E_region (EL_at (.int .i64 (0)) rfl rfl ?_))
  refine EL_nil (thn_n (E_block ?_))
  refine E_lp h (fun (s : (List (List Bool)) × Int) e w => ∃ (g : Gh) , Fr gI wI g w ∧ e 1 = up1 ∧ RV g.m w (x1 : List FaultDamage) up1 ∧ e 5 = v4 ∧ NS (RM (α := Bool) 4) 9013 9513 g w 110 (s.1 : List (List Bool)) v4 ∧ e 6 = .int .i64 (s.2)) ⟨g4, hfr, rfl, rp1, rfl, ⟨_, b4, c4⟩, rfl⟩ (fun X309 j5 l6 => ?_)
  rintro ⟨y0, j1⟩ i9 m9 ⟨q5, hfr, d4, i4, j4, ⟨b9, m4, n4⟩, o4⟩ h
  refine E_joinC h (fun (s : Unit) e w => ∃ (g : Gh) , Fr gI wI g w ∧ e 1 = up1 ∧ RV g.m w (x1 : List FaultDamage) up1 ∧ e 5 = v4 ∧ NS (RM (α := Bool) 4) 9013 9513 g w 110 (y0 : List (List Bool)) v4 ∧ e 6 = .int .i64 (j1)) (fun X312 p5 m6 h => ?_) ?_
  ·refine E_seq (E_region (EL_mv o4 rfl ?_))
   refine EL_mv d4 rfl ?_
   refine EL_pur (v := .int .i64 ((x1).length : Int)) (P_len Try.underlying29 rfl i4) .plain rfl ?_
   refine EL_in (.bool ((decide (j1 < ((x1).length : Int))))) rfl rfl rfl rfl ?_
   refine EL_nil (thn_n ?_)
   rcases csome h with ⟨j3, h⟩ | ⟨j3, h⟩
   ·refine E_ct j3 rfl ?_
    exact E_skip (thn_n (m6 () _ _ ⟨q5, hfr, d4, i4, j4, ⟨_, m4, n4⟩, o4⟩ h))
   ·refine E_cf j3 rfl ?_
    refine E_exit ?_
    refine thn_e ?_
    refine thn_e ?_
    refine blk_hit ?_
    obtain rfl := sinj h
    exact hQ _ _ ⟨q5, hfr, j4, ⟨_, m4, n4⟩⟩
  ·rintro _ j9 n9 ⟨t5, hfr, i2, n0, i1, ⟨c9, j0, o0⟩, j2⟩ h
   obtain ⟨s2, hx, h⟩ := bsome h
   refine E_join (fun e w => ∃ (g : Gh) , Fr gI wI g w ∧ e 1 = up1 ∧ RV g.m w (x1 : List FaultDamage) up1 ∧ e 5 = v4 ∧ NS (RM (α := Bool) 4) 9013 9513 g w 110 (s2 : List (List Bool)) v4 ∧ e 6 = .int .i64 (j1)) (fun Q' hQ => ?_) (fun k9 o9 hR => ?_)
   ·replace h := hx
    clear hx
    refine E_block ?_
    refine E_seq (E_region (EL_mv i2 rfl ?_))
    refine EL_mv j2 rfl ?_
    obtain ⟨u0, c5, h⟩ := bsome h
    refine EL_pur (v := ePtr up1 j1 5) (P_indexAddr (α := FaultDamage) Try.underlying29 Try.sizeOf62 rfl n0 rfl c5) .plain rfl ?_
    have p7 := PT_idx n0 c5
    refine EL_do .plain rfl (D_load (g := t5) Try.isAgg62 Try.sizeOf62 rfl p7 fun q7 u4 => ?_)
    refine EL_do .plain rfl (D_allocOc (g := t5) 2007 (⟨0, 0, 0, 0, false⟩ : FaultDamage) Try.zeroValue62 (fun m w => ⟨_, (rep_two rep_int (rep_two rep_int (rep_two rep_int (rep_two rep_int rep_bool)))), rfl⟩) fun r7 p9 z1 hs b466 cb => ?_)
    have hfr := hfr.stp hs
    have n0 := n0.stp hs
    have j0 := j0.stp hs rfl
    have o0 := o0.stp (rowM _) hs rfl
    have u4 := u4.stp hs
    clear cb
    refine EL_do .plain rfl (D_storeOc (g := r7) (v := q7) Try.sizeOf62 rfl b466 rfl u4 fun q9 r9 hs b467 cb => ?_)
    clear cb
    have hfr := hfr.stp hs
    have n0 := n0.stp hs
    have j0 := j0.stp hs rfl
    have o0 := o0.stp (rowM _) hs rfl
    obtain ⟨gp467, hs, qp467⟩ := OB.pub b467
    have hfr := hfr.stp hs
    have n0 := n0.stp hs
    have j0 := j0.stp hs rfl
    have o0 := o0.stp (rowM _) hs rfl
    refine EL_nil (thn_n (E_seq (E_region (EL_pur (v := fPtr z1 0) (P_fieldAddr at_62_0 rfl (PT.ptr qp467)) .plain rfl ?_))))
    have t7 := PT_field (part_FaultDamage_0).1 qp467
    refine EL_do .plain rfl (D_load (g := gp467) Try.isAgg60 Try.sizeOf60 rfl t7 fun s9 u7 => ?_)
    obtain rfl := RV_int.1 u7
    refine EL_nil (thn_n (E_block ?_))
    refine E_seq (E_region (EL_in (.bool (((u0).Kind == (1 : Int)))) rfl rfl rfl rfl ?_))
    refine EL_at (.bool (((u0).Kind == (1 : Int)))) rfl rfl ?_
    refine EL_nil (thn_n ?_)
    rcases csome h with ⟨o3, h⟩ | ⟨o3, h⟩
    ·refine E_ct o3 rfl ?_
     have v7 := PT_field (part_FaultDamage_1).1 qp467
     refine L_load (x := .tmp 29) Try.isAgg3 Try.sizeOf3 v7 fun t9 x7 n6 => ?_
     obtain rfl := RV_int.1 x7
     obtain ⟨p4, o6, h⟩ := bsome h
     obtain ⟨x4, hri474, hrn474, hxn474⟩ := Pool.idx o0 o6
     refine L_loadM (x := .tmp 31) (α := Fv) Try.isAgg110 Try.sizeOf110 (RO.toM j0) hri474 fun u9 y7 p6 => ?_
     obtain rfl := RV_fv.1 y7
     have z7 := PT_field (part_FaultDamage_2).1 qp467
     refine L_load (x := .tmp 33) Try.isAgg3 Try.sizeOf3 z7 fun v9 a8 q6 => ?_
     obtain rfl := RV_int.1 a8
     have b8 := PT_field (part_FaultDamage_1).1 qp467
     refine L_load (x := .tmp 36) Try.isAgg3 Try.sizeOf3 b8 fun x9 c8 r6 => ?_
     obtain rfl := RV_int.1 c8
     obtain ⟨l5, t6, h⟩ := bsome h
     obtain ⟨u5, hri481, hrn481, hxn481⟩ := Pool.idx o0 t6
     refine L_loadM (x := .tmp 38) (α := Fv) Try.isAgg110 Try.sizeOf110 (RO.toM j0) hri481 fun y9 d8 u6 => ?_
     obtain rfl := RV_fv.1 d8
     have e8 := PT_field (part_FaultDamage_2).1 qp467
     refine L_load (x := .tmp 40) Try.isAgg3 Try.sizeOf3 e8 fun z9 g8 v6 => ?_
     obtain rfl := RV_int.1 g8
     obtain ⟨z2, d5, h⟩ := bsome h
     refine L_loadM (x := .tmp 42) (α := Bool) Try.isAgg4 Try.sizeOf4 (o0.2.1 _ _ _ (by simp) hrn481 hxn481) d5 fun aA i8 x6 => ?_
     obtain rfl := RV_bool.1 i8
     obtain ⟨n7, i5, h⟩ := bsome h
     refine E_drawL (g := gp467) (n := 18) [] [0, 1, 2, 3, 4, 5, 6, 7, 8, 9, 10, 11, 12, 13, 14, 15, 16, 17] rfl mixed (by kernel_rfl) trivial ?_
     refine L_pur (c := v4) rfl rfl .plain (fun _ _ hd => P_move i1) ?_
     refine L_pur (c := fPtr z1 1) rfl rfl .plain (fun _ _ hd => P_fieldAddr at_62_1 rfl (PT.ptr qp467)) ?_
     refine L_ld (c := .int .i64 ((u0).Pick)) rfl rfl .plain (fun _ _ h => h.ch) n6 rfl ?_
     refine L_pur (c := ePtr v4 (u0).Pick 1) rfl rfl .plain (fun _ _ hd => P_indexAddrM (α := Fv) Try.underlying108 Try.sizeOf110 rfl (RO.toM j0) rfl hri474) ?_
     refine L_ld (c := x4.v) rfl rfl .plain (fun _ _ h => ⟨h.ch, fun b hb _ => h.below.block b hb⟩) p6 rfl ?_
     refine L_pur (c := fPtr z1 2) rfl rfl .plain (fun _ _ hd => P_fieldAddr at_62_2 rfl (PT.ptr qp467)) ?_
     refine L_ld (c := .int .i64 ((u0).Hook)) rfl rfl .plain (fun _ _ h => h.ch) q6 rfl ?_
     refine L_pur (c := v4) rfl rfl .plain (fun _ _ hd => P_move i1) ?_
     refine L_pur (c := fPtr z1 1) rfl rfl .plain (fun _ _ hd => P_fieldAddr at_62_1 rfl (PT.ptr qp467)) ?_
     refine L_ld (c := .int .i64 ((u0).Pick)) rfl rfl .plain (fun _ _ h => h.ch) r6 rfl ?_
     refine L_pur (c := ePtr v4 (u0).Pick 1) rfl rfl .plain (fun _ _ hd => P_indexAddrM (α := Fv) Try.underlying108 Try.sizeOf110 rfl (RO.toM j0) rfl hri481) ?_
     refine L_ld (c := u5.v) rfl rfl .plain (fun _ _ h => ⟨h.ch, fun b hb _ => h.below.block b hb⟩) u6 rfl ?_
     refine L_pur (c := fPtr z1 2) rfl rfl .plain (fun _ _ hd => P_fieldAddr at_62_2 rfl (PT.ptr qp467)) ?_
     refine L_ld (c := .int .i64 ((u0).Hook)) rfl rfl .plain (fun _ _ h => h.ch) v6 rfl ?_
     refine L_pur (c := ePtr (u5.v) (u0).Hook 1) rfl rfl .plain (fun _ _ hd => P_indexAddrM (α := Bool) Try.underlying110 Try.sizeOf4 rfl (o0.2.1 _ _ _ (by simp) hrn481 hxn481) rfl d5) ?_
     refine L_ld (c := .bool (z2)) rfl rfl .plain (fun _ _ h => ⟨h.ch, fun b hb _ => h.below.block b hb⟩) x6 rfl ?_
     refine L_pur (c := .bool (!z2)) rfl rfl .plain (fun _ _ hd => P_not rfl) ?_
     refine L_pur (c := ePtr (x4.v) (u0).Hook 1) rfl rfl .plain (fun _ _ hd => P_indexAddrM (α := Bool) Try.underlying110 Try.sizeOf4 rfl (o0.2.1 _ _ _ (by simp) hrn474 hxn474) rfl i5) ?_
     refine L_nil fun bA cA hall => ?_
     have hs := hall.1
     have hfr := hfr.ext hs
     have n0 := n0.ext hs
     have j0 := j0.ext hs
     have o0 := o0.ext (rowM _) hs
     clear hs hall
     obtain ⟨ga519, _, hs, hw519, ck519⟩ := Pool.take (rowM _) o0 hrn474 hxn474 10319
     have hfr := hfr.stp hs
     have n0 := n0.stp hs
     have j0 := j0.stp hs rfl
     refine EL_do .plain rfl (D_storeM (g := ga519) (α := Bool) (a' := ((!z2))) Try.sizeOf4 rfl hw519 i5 rfl (RV_bool.2 rfl) fun dA eA hs b519 => ?_)
     have hfr := hfr.stp hs
     have n0 := n0.stp hs
     have j0 := j0.stp hs rfl
     have ck519 := ck519.stp (rowM _) hs rfl
     obtain ⟨gb519, _, hs, cp519⟩ := Pool.put (rowM _) ck519 x4 b519 rfl
     rw [set_same hrn474] at cp519
     have hfr := hfr.stp hs
     have n0 := n0.stp hs
     have j0 := j0.stp hs rfl
     refine EL_nil (blk_n (blk_n ?_))
     obtain rfl := sinj h
     exact hQ _ _ ⟨gb519, hfr, i2, n0, i1, ⟨_, j0, cp519⟩, j2⟩
    ·refine E_cf o3 rfl ?_
     refine E_seq (E_region (EL_in (.bool (((u0).Kind == (3 : Int)))) rfl rfl rfl rfl ?_))
     refine EL_at (.bool (((u0).Kind == (3 : Int)))) rfl rfl ?_
     refine EL_nil (thn_n ?_)
     rcases csome h with ⟨p3, h⟩ | ⟨p3, h⟩
     ·refine E_ct p3 rfl ?_
      obtain ⟨m5, y6, h⟩ := bsome h
      obtain ⟨x5, hri521, hrn521, hxn521⟩ := Pool.idx o0 y6
      obtain ⟨ga521, _, hs, hw521, ck521⟩ := Pool.take (rowM _) o0 hrn521 hxn521 9910
      have hfr := hfr.stp hs
      have n0 := n0.stp hs
      have j0 := j0.stp hs rfl
      have qp467 := qp467.stp hs
      obtain ⟨gp521, hs, rp521⟩ := OM.pub hw521
      have hfr := hfr.stp hs
      have n0 := n0.stp hs
      have j0 := j0.stp hs rfl
      have ck521 := ck521.stp (rowM _) hs rfl
      have qp467 := qp467.stp hs
      have j8 := PT_field (part_FaultDamage_1).1 qp467
      refine L_load (x := .tmp 49) Try.isAgg3 Try.sizeOf3 j8 fun gA k8 z6 => ?_
      obtain rfl := RV_int.1 k8
      have l8 := PT_field (part_FaultDamage_1).1 qp467
      refine L_load (x := .tmp 52) Try.isAgg3 Try.sizeOf3 l8 fun iA m8 a7 => ?_
      obtain rfl := RV_int.1 m8
      refine L_loadM (x := .tmp 54) (α := Fv) Try.isAgg110 Try.sizeOf110 (RO.toM j0) hri521 fun jA n8 b7 => ?_
      obtain rfl := RV_fv.1 n8
      obtain ⟨d3, c7, h⟩ := bsome h
      refine E_drawL (g := gp521) (n := 10) [(8, (fun v g w => OM 9756 g w 4 d3 v))] [0, 1, 2, 3, 4, 5, 6, 7, 8, 9] rfl mixed (by kernel_rfl) (⟨fun _ => up_om, trivial⟩) ?_
      refine L_pur (c := v4) rfl rfl .plain (fun _ _ hd => P_move i1) ?_
      refine L_pur (c := fPtr z1 1) rfl rfl .plain (fun _ _ hd => P_fieldAddr at_62_1 rfl (PT.ptr qp467)) ?_
      refine L_ld (c := .int .i64 ((u0).Pick)) rfl rfl .plain (fun _ _ h => h.ch) z6 rfl ?_
      refine L_pur (c := v4) rfl rfl .plain (fun _ _ hd => P_move i1) ?_
      refine L_pur (c := fPtr z1 1) rfl rfl .plain (fun _ _ hd => P_fieldAddr at_62_1 rfl (PT.ptr qp467)) ?_
      refine L_ld (c := .int .i64 ((u0).Pick)) rfl rfl .plain (fun _ _ h => h.ch) a7 rfl ?_
      refine L_pur (c := ePtr v4 (u0).Pick 1) rfl rfl .plain (fun _ _ hd => P_indexAddrM (α := Fv) Try.underlying108 Try.sizeOf110 rfl (RO.toM j0) rfl hri521) ?_
      refine L_ld (c := x5.v) rfl rfl .plain (fun _ _ h => ⟨h.ch, fun b hb _ => h.below.block b hb⟩) b7 rfl ?_
      refine L_do (φ := fun v g w => OM 9756 g w 4 d3 v) rfl rfl .plain (fun g w hd => D_callG (g := g) (vs := [x5.v]) en86 (.cons rfl .nil) (v86_0 (iO := 9756) (rp521.ext hd.1) c7) fun g' w' v hs hr => ⟨g', hs, hr⟩) (fun z4 hv => ?_)
      obtain ⟨_, _, _, rq528⟩ := hv
      have one528 := K_one (rowM (α := Bool) 4) rq528
      refine L_pur (c := ePtr v4 (u0).Pick 1) rfl rfl .plain (fun _ _ hd => P_indexAddrM (α := Fv) Try.underlying108 Try.sizeOf110 rfl (RO.toM j0) rfl hri521) ?_
      refine L_nil fun kA lA hall => ?_
      have hs := hall.1
      have hfr := hfr.ext hs
      have n0 := n0.ext hs
      have j0 := j0.ext hs
      have ck521 := ck521.ext (rowM _) hs
      have b554 := (word_all (A := fun g w => OM 9756 g w 4 d3 z4) 8 rfl hall)
      clear hs hall
      obtain ⟨gb556, _, hs, cp556⟩ := Pool.put (rowM _) ck521 ⟨z4, one528⟩ b554 rfl
      have hfr := hfr.stp hs
      have n0 := n0.stp hs
      have j0 := j0.stp hs rfl
      refine EL_do .plain rfl (D_storeRO (g := gb556) ⟨z4, one528⟩ Try.sizeOf110 rfl j0 hri521 rfl fun mA hs b556 => ?_)
      have hfr := hfr.stp hs
      have n0 := n0.stp hs
      have cp556 := cp556.stp (rowM _) hs rfl
      refine EL_nil (blk_n (blk_n ?_))
      obtain rfl := sinj h
      exact hQ _ _ ⟨gb556, hfr, i2, n0, i1, ⟨_, b556, cp556⟩, j2⟩
     ·refine E_cf p3 rfl ?_
      refine E_seq (E_region (EL_in (.bool (((u0).Kind == (4 : Int)))) rfl rfl rfl rfl ?_))
      refine EL_at (.bool (((u0).Kind == (4 : Int)))) rfl rfl ?_
      refine EL_nil (thn_n ?_)
      rcases csome h with ⟨q3, h⟩ | ⟨q3, h⟩
      ·refine E_ct q3 rfl ?_
       refine E_seq (E_region (EL_pur (v := fPtr z1 1) (P_fieldAddr at_62_1 rfl (PT.ptr qp467)) .plain rfl ?_))
       have o8 := PT_field (part_FaultDamage_1).1 qp467
       refine EL_do .plain rfl (D_load (g := gp467) Try.isAgg3 Try.sizeOf3 rfl o8 fun nA p8 => ?_)
       obtain rfl := RV_int.1 p8
       refine EL_in (.int .i64 ((w64 ((u0).Pick + (1 : Int))))) rfl rfl rfl rfl ?_
       refine EL_mv i1 rfl ?_
       refine EL_pur (v := .int .i64 ((y0).length : Int)) (P_lenN Try.underlying108 rfl j0 o0) .plain rfl ?_
       obtain ⟨d2, d7, h⟩ := bsome h
       refine EL_pur (v := .int .i64 (d2)) (P_int rfl rfl (congrArg (Option.map (Value.int .i64)) d7)) .plain rfl ?_
       refine EL_at (.int .i64 (d2)) rfl rfl ?_
       refine EL_nil (thn_n (E_seq ?_))
       have q8 := PT_field (part_FaultDamage_1).1 qp467
       refine L_load (x := .tmp 67) Try.isAgg3 Try.sizeOf3 q8 fun oA r8 e7 => ?_
       obtain rfl := RV_int.1 r8
       obtain ⟨n5, g7, h⟩ := bsome h
       obtain ⟨s3, hri564, hrn564, hxn564⟩ := Pool.idx o0 g7
       refine L_loadM (x := .tmp 69) (α := Fv) Try.isAgg110 Try.sizeOf110 (RO.toM j0) hri564 fun pA t8 i7 => ?_
       obtain rfl := RV_fv.1 t8
       obtain ⟨o5, j7, h⟩ := bsome h
       obtain ⟨u3, hri567, hrn567, hxn567⟩ := Pool.idx o0 j7
       refine L_loadM (x := .tmp 73) (α := Fv) Try.isAgg110 Try.sizeOf110 (RO.toM j0) hri567 fun qA v8 l7 => ?_
       obtain rfl := RV_fv.1 v8
       refine E_drawL (g := gp467) (n := 11) [] [0, 1, 2, 3, 4, 5, 6, 7, 8, 9, 10] rfl mixed (by kernel_rfl) trivial ?_
       refine L_pur (c := v4) rfl rfl .plain (fun _ _ hd => P_move i1) ?_
       refine L_pur (c := fPtr z1 1) rfl rfl .plain (fun _ _ hd => P_fieldAddr at_62_1 rfl (PT.ptr qp467)) ?_
       refine L_ld (c := .int .i64 ((u0).Pick)) rfl rfl .plain (fun _ _ h => h.ch) e7 rfl ?_
       refine L_pur (c := ePtr v4 (u0).Pick 1) rfl rfl .plain (fun _ _ hd => P_indexAddrM (α := Fv) Try.underlying108 Try.sizeOf110 rfl (RO.toM j0) rfl hri564) ?_
       refine L_ld (c := s3.v) rfl rfl .plain (fun _ _ h => ⟨h.ch, fun b hb _ => h.below.block b hb⟩) i7 rfl ?_
       refine L_pur (c := v4) rfl rfl .plain (fun _ _ hd => P_move i1) ?_
       refine L_pur (c := .int .i64 (d2)) rfl rfl .plain (fun _ _ hd => P_move rfl) ?_
       refine L_pur (c := ePtr v4 d2 1) rfl rfl .plain (fun _ _ hd => P_indexAddrM (α := Fv) Try.underlying108 Try.sizeOf110 rfl (RO.toM j0) rfl hri567) ?_
       refine L_ld (c := u3.v) rfl rfl .plain (fun _ _ h => ⟨h.ch, fun b hb _ => h.below.block b hb⟩) l7 rfl ?_
       refine L_pur (c := s3.v) rfl rfl .plain (fun _ _ hd => P_assign rfl) ?_
       refine L_pur (c := u3.v) rfl rfl .plain (fun _ _ hd => P_assign rfl) ?_
       refine L_nil fun z3 rA hall => ?_
       have hs := hall.1
       have hfr := hfr.ext hs
       have n0 := n0.ext hs
       have j0 := j0.ext hs
       have o0 := o0.ext (rowM _) hs
       have qp467 := qp467.ext hs
       clear hs hall
       refine EL_nil (thn_n (E_seq (E_region (EL_mv i1 rfl ?_))))
       refine EL_pur (v := fPtr z1 1) (P_fieldAddr at_62_1 rfl (PT.ptr qp467)) .plain rfl ?_
       have x8 := PT_field (part_FaultDamage_1).1 qp467
       refine EL_do .plain rfl (D_load (g := z3) Try.isAgg3 Try.sizeOf3 rfl x8 fun sA y8 => ?_)
       obtain rfl := RV_int.1 y8
       refine EL_mw (u3.v) rfl rfl ?_
       obtain ⟨o7, m7, h⟩ := bsome h
       obtain ⟨tA, hri607, hrn607, hxn607⟩ := Pool.idx o0 m7
       refine EL_pur (v := ePtr v4 (u0).Pick 1) (P_indexAddrM (α := Fv) Try.underlying108 Try.sizeOf110 rfl (RO.toM j0) rfl hri607) .plain rfl ?_
       refine EL_do .plain rfl (D_storeRO (g := z3) u3 Try.sizeOf110 rfl j0 hri607 rfl fun uA hs b608 => ?_)
       have hfr := hfr.stp hs
       have n0 := n0.stp hs
       have o0 := o0.stp (rowM _) hs rfl
       refine EL_nil (thn_n (E_region (EL_mv i1 rfl ?_)))
       refine EL_mw (.int .i64 (d2)) rfl rfl ?_
       refine EL_mw (s3.v) rfl rfl ?_
       obtain ⟨vA, hri609⟩ := idx_set hri567
       refine EL_pur (v := ePtr v4 d2 1) (P_indexAddrM (α := Fv) Try.underlying108 Try.sizeOf110 rfl (RO.toM b608) rfl hri609) .plain rfl ?_
       refine EL_do .plain rfl (D_storeRO (g := z3) s3 Try.sizeOf110 rfl b608 hri609 rfl fun xA hs b610 => ?_)
       have hfr := hfr.stp hs
       have n0 := n0.stp hs
       have o0 := o0.stp (rowM _) hs rfl
       have cp610 := Pool.swap o0 hrn564 hrn567 hxn564 hxn567
       refine EL_nil (blk_n (blk_n ?_))
       obtain rfl := sinj h
       exact hQ _ _ ⟨z3, hfr, i2, n0, i1, ⟨_, b610, cp610⟩, j2⟩
      ·refine E_cf q3 rfl ?_
       refine E_skip (blk_n (blk_n ?_))
       obtain rfl := sinj h
       exact hQ _ _ ⟨gp467, hfr, i2, n0, i1, ⟨_, j0, o0⟩, j2⟩
   ·clear hx
    obtain ⟨z8, hfr, z5, a6, b6, ⟨d9, c6, d6⟩, e6⟩ := hR
    refine E_region (EL_mv e6 rfl ?_)
    refine EL_in (.int .i64 ((w64 (j1 + (1 : Int))))) rfl rfl rfl rfl ?_
    refine EL_at (.int .i64 ((w64 (j1 + (1 : Int))))) rfl rfl ?_
    exact EL_nil (thn_n (l6 (s2, (w64 (j1 + (1 : Int)))) _ _ ⟨z8, hfr, z5, a6, b6, ⟨_, c6, d6⟩, rfl⟩ h))
 ·clear hx
  obtain ⟨yA, hfr, i6, ⟨e9, j6, k6⟩⟩ := hR
  refine E_seq (E_region (EL_mv i6 rfl ?_))
  refine EL_at v4 rfl rfl ?_
  refine EL_nil (thn_n (E_ret ?_))
  obtain ⟨gq613, gp613, hs, hs2, rp613⟩ := NS.pubM (et2 := 4) ⟨_, j6, k6⟩ rfl
  have hfr := hfr.stp hs
  have hfr := hfr.stp hs2
  obtain rfl := sinj h
  exact end1 rfl rfl (show _ = v4 from rfl) ⟨_, hfr, rp613⟩
/-- slices.SortStableFunc[[]griffe/api.FaultDamage,griffe/api.FaultDamage] -/
def f78 (x0 : List FaultDamage) (x1 : FaultDamage → FaultDamage → Option Int) : Option ((List FaultDamage)) :=
 (f96 x0 (((x0).length : Int)) x1).bind fun y2 =>
 some (y2)
theorem en78 : Enters Try.prog 78 := enters_of Try.func78 (by kernel_rfl) rfl
theorem wk78 {iI : Nat} {gI : Gh} {wI : World} {x0 : List FaultDamage} {x1 : FaultDamage → FaultDamage → Option Int} {up0 : Value} (mp0 : OM iI gI wI 62 x0 up0) {up1 : Value} (rp1 : FnV2 Try.prog x1 up1 gI wI) {r : (List FaultDamage)} (h : f78 x0 x1 = some r) : FnM Try.prog 78 #[up0, up1] iI gI wI (fun g w v => v = .tuple #[] ∧ OM iI g w 62 r up0) := by
 unfold f78 at h
 refine fnM_of_E Try.func78 rfl (Nat.le_of_ble_eq_true rfl) fun g0 hm hfr => ?_
 have j0 := mp0
 replace mp0 := mp0.enter
 rw [← hm] at mp0
 replace hm : g0.m = gI.m := by rw [hm]
 obtain ⟨ff1, fa1, fc1, rfl, fen1, fcl1⟩ := rp1
 show E _ 9 none _ _ _ _ _
 refine E_region (EL_mw up0 rfl rfl ?_)
 refine EL_mw up0 rfl rfl ?_
 refine EL_pur (v := .int .i64 ((x0).length : Int)) (P_lenM Try.underlying29 rfl mp0) .plain rfl ?_
 refine EL_mw ((.func (.func ff1) fa1 fc1)) rfl rfl ?_
 obtain ⟨y2, n0, h⟩ := bsome h
 refine EL_do .plain rfl (D_callM (g := g0) (i := 1) (vs := [up0, .int .i64 ((x0).length : Int), (.func (.func ff1) fa1 fc1)]) en96 (.cons rfl (.cons rfl (.cons rfl .nil))) (wk96 mp0 (FnV2.ch ⟨_, _, _, rfl, fen1, fcl1⟩ hfr.ch) n0) fun g1 w1_ v1 hs hr => ?_)
 obtain ⟨hrv, b1⟩ := hr
 subst hrv
 have hfr := hfr.stp hs
 refine EL_nil ?_
 obtain rfl := sinj h
 exact end0n rfl rfl ⟨_, hfr, rfl, j0.back b1⟩
/-- griffe/fault.Check -/
def f18 (x0 : FaultLoom) (x1 : List FaultDamage) : Option (Int) :=
 jn (σ := Unit) (fun (_ : Unit) =>
  jn (σ := Unit) (fun (_ : Unit) =>
   some ((0 : Int))
   ) fun d2 =>
  bif (decide (((x1).length : Int) > (100 : Int))) then
   some ((5 : Int))
  else
   (f53 x1 ((fun a0 => f51 a0 x0))).bind fun i1 =>
   bif i1 then
    some ((2 : Int))
   else
    d2 ()
  ) fun k6 =>
 (f50 x0).bind fun y9 =>
 bif (y9 != (0 : Int)) then
  some (y9)
 else
  k6 ()
theorem en18 : Enters Try.prog 18 := enters_of Try.func18 (by kernel_rfl) rfl
theorem wk18 {gI : Gh} {wI : World} {x0 : FaultLoom} {x1 : List FaultDamage} {up0 : Value} (rp0 : RV gI.m wI x0 up0) {up1 : Value} (rp1 : RV gI.m wI x1 up1) {r : Int} (h : f18 x0 x1 = some r) : Fn Try.prog 18 #[up0, up1] gI wI (fun _ _ v => v = .int .i64 (r)) := by
 unfold f18 at h
 refine fn_of_E Try.func18 rfl (Nat.le_of_ble_eq_true rfl) fun g0 hm hfr => ?_
 have rp0 : RV g0.m wI x0 up0 := hm ▸ rp0
 have rp1 : RV g0.m wI x1 up1 := hm ▸ rp1
 show E _ 21 none _ _ _ _ _
 refine E_seq (E_region (EL_do .plain rfl (D_box (g := g0) rfl rp0 fun g1 w1 p1 hs q1 => ?_)))
 have hfr := hfr.ext hs
 have rp1 := rp1.ext hs
 refine EL_at (.int .i64 (0)) rfl rfl ?_
 refine EL_nil (thn_n (E_joinC h (fun (s : Unit) e w => ∃ (g : Gh) , Fr gI wI g w ∧ e 1 = up1 ∧ RV g.m w (x1 : List FaultDamage) up1 ∧ e 2 = p1 ∧ PT g.m w (x0 : FaultLoom) p1) (fun X6 k6 hk6 h => ?_) ?_))
 ·refine E_seq (E_region (EL_do .plain rfl (D_load (g := g1) Try.isAgg28 Try.sizeOf28 rfl q1 fun v7 r7 => ?_)))
  obtain ⟨y9, q2, h⟩ := bsome h
  refine EL_do .plain rfl (D_call (g := g1) (vs := [v7]) en50 (.cons rfl .nil) (wk50 r7 q2) fun g8 w8_ v8 hs hr => ?_)
  have hfr := hfr.ext hs
  have rp1 := rp1.ext hs
  have q1 := q1.ext hs
  subst hr
  refine EL_at (.int .i64 (y9)) rfl rfl ?_
  refine EL_nil (thn_n (E_seq (E_region (EL_mw (.int .i64 (y9)) rfl rfl ?_))))
  refine EL_in (.bool ((y9 != (0 : Int)))) rfl rfl rfl rfl ?_
  refine EL_nil (thn_n ?_)
  rcases csome h with ⟨j0, h⟩ | ⟨j0, h⟩
  ·refine E_ct j0 rfl ?_
   refine E_seq (E_region (EL_mw (.int .i64 (y9)) rfl rfl ?_))
   refine EL_at (.int .i64 (y9)) rfl rfl ?_
   refine EL_nil (thn_n (E_ret (thn_r ?_)))
   obtain rfl := sinj h
   exact end1 rfl rfl (show _ = .int .i64 (y9) from rfl) ⟨_, hfr, rfl⟩
  ·refine E_cf j0 rfl ?_
   exact E_skip (thn_n (hk6 () _ _ ⟨g8, hfr, rfl, rp1, rfl, q1⟩ h))
 ·rintro _ d3 o3 ⟨s2, hfr, u0, y0, j1, z1⟩ h
  refine E_seq (E_region (EL_pur (v := (.func (.func 51) #[] #[p1])) (P_makeFunc (capf_0_1 (show ev _ _ = p1 from j1))) .plain rfl ?_))
  refine EL_at ((.func (.func 51) #[] #[p1])) rfl rfl ?_
  refine EL_nil (thn_n (E_joinC h (fun (s : Unit) e w => ∃ (g : Gh) , Fr gI wI g w) (fun X16 d2 i2 h => ?_) ?_))
  ·refine E_block ?_
   refine E_seq (E_region (EL_mv u0 rfl ?_))
   refine EL_pur (v := .int .i64 ((x1).length : Int)) (P_len Try.underlying29 rfl y0) .plain rfl ?_
   refine EL_in (.bool ((decide (((x1).length : Int) > (100 : Int))))) rfl rfl rfl rfl ?_
   refine EL_at (.bool ((decide (((x1).length : Int) > (100 : Int))))) rfl rfl ?_
   refine EL_nil (thn_n ?_)
   rcases csome h with ⟨n0, h⟩ | ⟨n0, h⟩
   ·refine E_ct n0 rfl ?_
    refine E_seq (E_region (EL_at (.int .i64 (5)) rfl rfl ?_))
    refine EL_nil (thn_n (E_ret (blk_r ?_)))
    refine thn_r ?_
    obtain rfl := sinj h
    exact end1 rfl rfl (show _ = .int .i64 (5) from rfl) ⟨_, hfr, rfl⟩
   ·refine E_cf n0 rfl ?_
    refine E_seq (E_region (EL_mv u0 rfl ?_))
    refine EL_mw ((.func (.func 51) #[] #[p1])) rfl rfl ?_
    obtain ⟨i1, j2, h⟩ := bsome h
    refine EL_do .plain rfl (D_call (g := s2) (vs := [up1, (.func (.func 51) #[] #[p1])]) en53 (.cons rfl (.cons rfl .nil)) (wk53 y0 ⟨51, #[], #[p1], rfl, en51, fun g' w' hch a0 b0 r hu0 hr => by exact Fn.mono (wk51 hu0 (z1.ch hch) hr) fun _ _ _ h => RV_bool.2 h⟩ j2) fun z2 i3 p3 hs hr => ?_)
    have hfr := hfr.ext hs
    subst hr
    refine EL_at (.bool (i1)) rfl rfl ?_
    refine EL_nil (thn_n ?_)
    rcases csome h with ⟨o0, h⟩ | ⟨o0, h⟩
    ·refine E_ct o0 rfl ?_
     refine E_seq (E_region (EL_at (.int .i64 (2)) rfl rfl ?_))
     refine EL_nil (thn_n (E_ret (blk_r ?_)))
     refine thn_r ?_
     obtain rfl := sinj h
     exact end1 rfl rfl (show _ = .int .i64 (2) from rfl) ⟨_, hfr, rfl⟩
    ·refine E_cf o0 rfl ?_
     exact E_skip (blk_n (thn_n (i2 () _ _ ⟨z2, hfr⟩ h)))
  ·rintro _ j3 q3 ⟨s3, hfr⟩ h
   refine E_seq (E_region (EL_at (.int .i64 (0)) rfl rfl ?_))
   refine EL_nil (thn_n (E_ret ?_))
   obtain rfl := sinj h
   exact end1 rfl rfl (show _ = .int .i64 (0) from rfl) ⟨_, hfr, rfl⟩
/-- griffe/grifferef05.Round -/
def f26 (x0 : FaultLoom) (x1 : List FaultDamage) : Option ((List Str)) :=
 (f60 x0 x1).bind fun y4 =>
 Option.bind (α := (List Str)) (
  lp (σ := (List Str) × Int) (fun mC (n0, o0) =>
   jn (σ := Unit) (fun (_ : Unit) =>
    Option.bind (α := (List Str)) (
     Option.bind (α := Str) (
      lp (σ := Str × Int) (fun nC (j1, u0) =>
       jn (σ := Unit) (fun (_ : Unit) =>
        Option.bind (α := Str) (
         (idx (((x0).Harness).Warps) u0).bind fun i2 =>
         (idx y4 o0).bind fun oC =>
         (idx oC i2).bind fun mB =>
         Option.bind (α := Bool) (
          lp (σ := Bool × Int) (fun pC (s2, y0) =>
           jn (σ := Unit) (fun (_ : Unit) =>
            Option.bind (α := Bool) (
             Option.bind (α := Bool) (
              (idx x1 y0).bind fun i4 =>
              bif ((i4).Kind == (2 : Int)) then
               (idx x1 y0).bind fun a6 =>
               some (((a6).Hook == i2))
              else
               some (false)
              ) fun z2 =>
             bif z2 then
              (idx x1 y0).bind fun nB =>
              some ((nB).Up)
             else
              some (s2)
             ) fun u3 =>
            pC (u3, (w64 (y0 + (1 : Int))))
            ) fun qC =>
           bif (decide (y0 < ((x1).length : Int))) then
            qC ()
           else
            some (s2)
           ) big (mB, (0 : Int))
          ) fun x4 =>
         Option.bind (α := Bool) (
          lp (σ := Bool × Int) (fun rC (d3, i1) =>
           jn (σ := Unit) (fun (_ : Unit) =>
            Option.bind (α := Bool) (
             Option.bind (α := Bool) (
              (idx x1 i1).bind fun j4 =>
              bif ((j4).Kind == (5 : Int)) then
               (idx x1 i1).bind fun b6 =>
               some (((b6).Warp == u0))
              else
               some (false)
              ) fun i3 =>
             bif i3 then
              some (false)
             else
              some (d3)
             ) fun z3 =>
            rC (z3, (w64 (i1 + (1 : Int))))
            ) fun sC =>
           bif (decide (i1 < ((x1).length : Int))) then
            sC ()
           else
            some (d3)
           ) big (x4, (0 : Int))
          ) fun z4 =>
         bif z4 then
          (sadd j1 (⟨[120]⟩ : Str)).bind fun c6 =>
          some (c6)
         else
          (sadd j1 (⟨[46]⟩ : Str)).bind fun d6 =>
          some (d6)
         ) fun m4 =>
        nC (m4, (w64 (u0 + (1 : Int))))
        ) fun tC =>
       bif (decide (u0 < ((((x0).Harness).Warps).length : Int))) then
        tC ()
       else
        some (j1)
       ) big ((⟨[]⟩ : Str), (0 : Int))
      ) fun j3 =>
     (apnd 16 n0 (([j3] : List Str))).bind fun uC =>
     some (uC)
     ) fun o3 =>
    mC (o3, (w64 (o0 + (1 : Int))))
    ) fun vC =>
   bif (decide (o0 < ((y4).length : Int))) then
    vC ()
   else
    some (n0)
   ) big (([] : List Str), (0 : Int))
  ) fun n4 =>
 some (n4)
theorem en26 : Enters Try.prog 26 := enters_of Try.func26 (by kernel_rfl) rfl
theorem wk26 {gI : Gh} {wI : World} {x0 : FaultLoom} {x1 : List FaultDamage} {up0 : Value} (rp0 : RV gI.m wI x0 up0) {up1 : Value} (rp1 : RV gI.m wI x1 up1) {r : (List Str)} (h : f26 x0 x1 = some r) : Fn Try.prog 26 #[up0, up1] gI wI (fun m w v => RV m w (r) v) := by
 unfold f26 at h
 refine fn_of_E Try.func26 rfl (Nat.le_of_ble_eq_true rfl) fun g0 hm hfr => ?_
 have rp0 : RV g0.m wI x0 up0 := hm ▸ rp0
 have rp1 : RV g0.m wI x1 up1 := hm ▸ rp1
 show E _ 102 none _ _ _ _ _
 refine E_seq (E_region (EL_do .plain rfl (D_box (g := g0) rfl rp0 fun g1 w1 p1 hs q1 => ?_)))
 have hfr := hfr.ext hs
 have rp1 := rp1.ext hs
 refine EL_at (.slice none 0 0) rfl rfl ?_
 refine EL_nil (thn_n (E_seq (E_region (EL_do .plain rfl (D_load (g := g1) Try.isAgg28 Try.sizeOf28 rfl q1 fun v2 r2 => ?_)))))
 refine EL_mw up1 rfl rfl ?_
 obtain ⟨y4, iJ, h⟩ := bsome h
 refine EL_do .plain rfl (D_call (g := g1) (vs := [v2, up1]) en60 (.cons rfl (.cons rfl .nil)) (wk60 r2 rp1 iJ) fun g3 w3_ v3 hs hr => ?_)
 have hfr := hfr.ext hs
 have rp1 := rp1.ext hs
 have q1 := q1.ext hs
 have r3 := hr
 refine EL_do .plain rfl (D_buildSlice (g := g3) 3017 (xs := ([] : List Str)) (vs := []) Try.underlying36 Try.sizeOf9 Try.zeroValue9 rfl rfl .nil RVs.nil rfl rfl fun g5 w5 v5 hs o5 r5 hxt hfl => ?_)
 have hfr := hfr.stp hs
 have rp1 := rp1.stp hs
 have q1 := q1.stp hs
 have r3 := r3.stp hs
 refine EL_at v3 rfl rfl ?_
 refine EL_at v5 rfl rfl ?_
 refine EL_nil (thn_n ?_)
 obtain ⟨n4, hx, h⟩ := bsome h
 refine E_join (fun e w => ∃ (g : Gh) (v6 : Value), Fr gI wI g w ∧ e 6 = v6 ∧ RV g.m w (n4 : List Str) v6 ∧ OS 3017 g w 9 (n4 : List Str) v6) (fun Q' hQ => ?_) (fun jJ cK hR => ?_)
 ·replace h := hx
  clear hx
  refine E_seq (E_region (EL_at (.int .i64 (0)) rfl rfl ?_))
  refine EL_nil (thn_n (E_block ?_))
  refine E_lp h (fun (s : (List Str) × Int) e w => ∃ (g : Gh) (v6 : Value), Fr gI wI g w ∧ e 1 = up1 ∧ RV g.m w (x1 : List FaultDamage) up1 ∧ e 2 = p1 ∧ PT g.m w (x0 : FaultLoom) p1 ∧ e 5 = v3 ∧ RV g.m w (y4 : List (List Bool)) v3 ∧ e 6 = v6 ∧ RV g.m w (s.1 : List Str) v6 ∧ OS 3017 g w 9 (s.1 : List Str) v6 ∧ e 7 = .int .i64 (s.2)) ⟨g5, (v5), hfr, rfl, rp1, rfl, q1, rfl, r3, rfl, r5, o5, rfl⟩ (fun X1841 mC jH => ?_)
  rintro ⟨n0, o0⟩ kJ dK ⟨xC, j0, hfr, oD, pD, qD, rD, d7, e7, g7, i7, j7, l7⟩ h
  refine E_joinC h (fun (s : Unit) e w => ∃ (g : Gh) , Fr gI wI g w ∧ e 1 = up1 ∧ RV g.m w (x1 : List FaultDamage) up1 ∧ e 2 = p1 ∧ PT g.m w (x0 : FaultLoom) p1 ∧ e 5 = v3 ∧ RV g.m w (y4 : List (List Bool)) v3 ∧ e 6 = j0 ∧ RV g.m w (n0 : List Str) j0 ∧ OS 3017 g w 9 (n0 : List Str) j0 ∧ e 7 = .int .i64 (o0)) (fun X1844 vC kH h => ?_) ?_
  ·refine E_seq (E_region (EL_mv l7 rfl ?_))
   refine EL_mv d7 rfl ?_
   refine EL_pur (v := .int .i64 ((y4).length : Int)) (P_len Try.underlying108 rfl e7) .plain rfl ?_
   refine EL_in (.bool ((decide (o0 < ((y4).length : Int))))) rfl rfl rfl rfl ?_
   refine EL_nil (thn_n ?_)
   rcases csome h with ⟨j6, h⟩ | ⟨j6, h⟩
   ·refine E_ct j6 rfl ?_
    exact E_skip (thn_n (kH () _ _ ⟨xC, hfr, oD, pD, qD, rD, d7, e7, g7, i7, j7, l7⟩ h))
   ·refine E_cf j6 rfl ?_
    refine E_exit ?_
    refine thn_e ?_
    refine thn_e ?_
    refine blk_hit ?_
    obtain rfl := sinj h
    exact hQ _ _ ⟨xC, (j0), hfr, g7, i7, j7⟩
  ·rintro _ lJ eK ⟨vH, hfr, sD, tD, uD, vD, xD, yD, zD, aE, bE, cE⟩ h
   obtain ⟨o3, hx, h⟩ := bsome h
   refine E_join (fun e w => ∃ (g : Gh) (v6 : Value), Fr gI wI g w ∧ e 1 = up1 ∧ RV g.m w (x1 : List FaultDamage) up1 ∧ e 2 = p1 ∧ PT g.m w (x0 : FaultLoom) p1 ∧ e 5 = v3 ∧ RV g.m w (y4 : List (List Bool)) v3 ∧ e 6 = v6 ∧ RV g.m w (o3 : List Str) v6 ∧ OS 3017 g w 9 (o3 : List Str) v6 ∧ e 7 = .int .i64 (o0)) (fun Q' hQ => ?_) (fun mJ gK hR => ?_)
   ·replace h := hx
    clear hx
    refine E_block ?_
    refine E_seq (E_region (EL_at (Str.v (⟨[]⟩ : Str)) rfl rfl ?_))
    refine EL_nil (thn_n ?_)
    obtain ⟨j3, hx, h⟩ := bsome h
    refine E_join (fun e w => ∃ (g : Gh) , Fr gI wI g w ∧ e 1 = up1 ∧ RV g.m w (x1 : List FaultDamage) up1 ∧ e 2 = p1 ∧ PT g.m w (x0 : FaultLoom) p1 ∧ e 5 = v3 ∧ RV g.m w (y4 : List (List Bool)) v3 ∧ e 6 = j0 ∧ RV g.m w (n0 : List Str) j0 ∧ OS 3017 g w 9 (n0 : List Str) j0 ∧ e 7 = .int .i64 (o0) ∧ e 8 = Str.v (j3)) (fun Q' hQ => ?_) (fun nJ iK hR => ?_)
    ·replace h := hx
     clear hx
     refine E_seq (E_region (EL_at (.int .i64 (0)) rfl rfl ?_))
     refine EL_nil (thn_n (E_block ?_))
     refine E_lp h (fun (s : Str × Int) e w => ∃ (g : Gh) , Fr gI wI g w ∧ e 1 = up1 ∧ RV g.m w (x1 : List FaultDamage) up1 ∧ e 2 = p1 ∧ PT g.m w (x0 : FaultLoom) p1 ∧ e 5 = v3 ∧ RV g.m w (y4 : List (List Bool)) v3 ∧ e 6 = j0 ∧ RV g.m w (n0 : List Str) j0 ∧ OS 3017 g w 9 (n0 : List Str) j0 ∧ e 7 = .int .i64 (o0) ∧ e 8 = Str.v (s.1) ∧ e 9 = .int .i64 (s.2)) ⟨vH, hfr, sD, tD, uD, vD, xD, yD, zD, aE, bE, cE, rfl, rfl⟩ (fun X3216 nC lH => ?_)
     rintro ⟨j1, u0⟩ oJ jK ⟨oB, hfr, m7, n7, j5, o4, o7, p7, q7, r7, t7, u7, v7, x7⟩ h
     refine E_joinC h (fun (s : Unit) e w => ∃ (g : Gh) , Fr gI wI g w ∧ e 1 = up1 ∧ RV g.m w (x1 : List FaultDamage) up1 ∧ e 2 = p1 ∧ PT g.m w (x0 : FaultLoom) p1 ∧ e 5 = v3 ∧ RV g.m w (y4 : List (List Bool)) v3 ∧ e 6 = j0 ∧ RV g.m w (n0 : List Str) j0 ∧ OS 3017 g w 9 (n0 : List Str) j0 ∧ e 7 = .int .i64 (o0) ∧ e 8 = Str.v (j1) ∧ e 9 = .int .i64 (u0)) (fun X3222 tC mH h => ?_) ?_
     ·refine E_seq (E_region (EL_mv x7 rfl ?_))
      refine EL_pur (v := fPtr p1 0) (P_fieldAddr at_28_0 j5 (PT.ptr o4)) .plain rfl ?_
      have yC := PT_field (part_FaultLoom_0).1 o4
      refine EL_pur (v := fPtr (fPtr p1 0) 1) (P_fieldAddr at_24_1 rfl (PT.ptr yC)) .plain rfl ?_
      have xH := PT_field (part_TieHarness_1).1 yC
      refine EL_do .plain rfl (D_load (g := oB) Try.isAgg22 Try.sizeOf22 rfl xH fun kK yH => ?_)
      refine EL_pur (v := .int .i64 ((((x0).Harness).Warps).length : Int)) (P_len Try.underlying22 rfl yH) .plain rfl ?_
      refine EL_pur (v := .bool ((decide (u0 < ((((x0).Harness).Warps).length : Int))))) (P_int rfl rfl rfl) .plain rfl ?_
      refine EL_nil (thn_n ?_)
      rcases csome h with ⟨k6, h⟩ | ⟨k6, h⟩
      ·refine E_ct k6 rfl ?_
       exact E_skip (thn_n (mH () _ _ ⟨oB, hfr, m7, n7, j5, o4, o7, p7, q7, r7, t7, u7, v7, x7⟩ h))
      ·refine E_cf k6 rfl ?_
       refine E_exit ?_
       refine thn_e ?_
       refine thn_e ?_
       refine blk_hit ?_
       obtain rfl := sinj h
       exact hQ _ _ ⟨oB, hfr, m7, n7, j5, o4, o7, p7, q7, r7, t7, u7, v7⟩
     ·rintro _ pJ lK ⟨i5, hfr, dE, eE, y7, l5, z7, m5, gE, iE, jE, a8, kE, b8⟩ h
      obtain ⟨m4, hx, h⟩ := bsome h
      refine E_join (fun e w => ∃ (g : Gh) , Fr gI wI g w ∧ e 1 = up1 ∧ RV g.m w (x1 : List FaultDamage) up1 ∧ e 2 = p1 ∧ PT g.m w (x0 : FaultLoom) p1 ∧ e 5 = v3 ∧ RV g.m w (y4 : List (List Bool)) v3 ∧ e 6 = j0 ∧ RV g.m w (n0 : List Str) j0 ∧ OS 3017 g w 9 (n0 : List Str) j0 ∧ e 7 = .int .i64 (o0) ∧ e 8 = Str.v (m4) ∧ e 9 = .int .i64 (u0)) (fun Q' hQ => ?_) (fun qJ mK hR => ?_)
      ·replace h := hx
       clear hx
       refine E_block ?_
       refine E_seq (E_region (EL_pur (v := fPtr p1 0) (P_fieldAddr at_28_0 y7 (PT.ptr l5)) .plain rfl ?_))
       have zC := PT_field (part_FaultLoom_0).1 l5
       refine EL_pur (v := fPtr (fPtr p1 0) 1) (P_fieldAddr at_24_1 rfl (PT.ptr zC)) .plain rfl ?_
       have zH := PT_field (part_TieHarness_1).1 zC
       refine EL_do .plain rfl (D_load (g := i5) Try.isAgg22 Try.sizeOf22 rfl zH fun aI aD => ?_)
       refine EL_mv b8 rfl ?_
       obtain ⟨i2, qB, h⟩ := bsome h
       refine EL_pur (v := ePtr aI u0 1) (P_indexAddr (α := Int) Try.underlying22 Try.sizeOf3 rfl aD rfl qB) .plain rfl ?_
       have bI := PT_idx aD qB
       refine EL_do .plain rfl (D_load (g := i5) Try.isAgg3 Try.sizeOf3 rfl bI fun nK cI => ?_)
       obtain rfl := RV_int.1 cI
       refine EL_at (.int .i64 (i2)) rfl rfl ?_
       refine EL_nil (thn_n (E_seq (E_region (EL_mv z7 rfl ?_))))
       refine EL_mv a8 rfl ?_
       obtain ⟨oC, rB, h⟩ := bsome h
       refine EL_pur (v := ePtr v3 o0 1) (P_indexAddr (α := List Bool) Try.underlying108 Try.sizeOf110 rfl m5 rfl rB) .plain rfl ?_
       have dI := PT_idx m5 rB
       refine EL_do .plain rfl (D_load (g := i5) Try.isAgg110 Try.sizeOf110 rfl dI fun eI bD => ?_)
       refine EL_mw (.int .i64 (i2)) rfl rfl ?_
       obtain ⟨mB, sB, h⟩ := bsome h
       refine EL_pur (v := ePtr eI i2 1) (P_indexAddr (α := Bool) Try.underlying110 Try.sizeOf4 rfl bD rfl sB) .plain rfl ?_
       have iI := PT_idx bD sB
       refine EL_do .plain rfl (D_load (g := i5) Try.isAgg4 Try.sizeOf4 rfl iI fun oK jI => ?_)
       obtain rfl := RV_bool.1 jI
       refine EL_at (.bool (mB)) rfl rfl ?_
       refine EL_nil (thn_n ?_)
       obtain ⟨x4, hx, h⟩ := bsome h
       refine E_join (fun e w => ∃ (g : Gh) , Fr gI wI g w ∧ e 1 = up1 ∧ RV g.m w (x1 : List FaultDamage) up1 ∧ e 2 = p1 ∧ PT g.m w (x0 : FaultLoom) p1 ∧ e 5 = v3 ∧ RV g.m w (y4 : List (List Bool)) v3 ∧ e 6 = j0 ∧ RV g.m w (n0 : List Str) j0 ∧ OS 3017 g w 9 (n0 : List Str) j0 ∧ e 7 = .int .i64 (o0) ∧ e 8 = Str.v (j1) ∧ e 9 = .int .i64 (u0) ∧ e 11 = .bool (x4)) (fun Q' hQ => ?_) (fun rJ pK hR => ?_)
       ·replace h := hx
        clear hx
        refine E_seq (E_region (EL_at (.int .i64 (0)) rfl rfl ?_))
        refine EL_nil (thn_n (E_block ?_))
        refine E_lp h (fun (s : Bool × Int) e w => ∃ (g : Gh) , Fr gI wI g w ∧ e 1 = up1 ∧ RV g.m w (x1 : List FaultDamage) up1 ∧ e 2 = p1 ∧ PT g.m w (x0 : FaultLoom) p1 ∧ e 5 = v3 ∧ RV g.m w (y4 : List (List Bool)) v3 ∧ e 6 = j0 ∧ RV g.m w (n0 : List Str) j0 ∧ OS 3017 g w 9 (n0 : List Str) j0 ∧ e 7 = .int .i64 (o0) ∧ e 8 = Str.v (j1) ∧ e 9 = .int .i64 (u0) ∧ e 10 = .int .i64 (i2) ∧ e 11 = .bool (s.1) ∧ e 12 = .int .i64 (s.2)) ⟨i5, hfr, dE, eE, y7, l5, z7, m5, gE, iE, jE, a8, kE, b8, rfl, rfl, rfl⟩ (fun X3516 pC nH => ?_)
        rintro ⟨s2, y0⟩ sJ qK ⟨cD, hfr, n5, p5, c8, d8, e8, g8, i8, j8, k8, l8, m8, n8, zB, l6, m6⟩ h
        refine E_joinC h (fun (s : Unit) e w => ∃ (g : Gh) , Fr gI wI g w ∧ e 1 = up1 ∧ RV g.m w (x1 : List FaultDamage) up1 ∧ e 2 = p1 ∧ PT g.m w (x0 : FaultLoom) p1 ∧ e 5 = v3 ∧ RV g.m w (y4 : List (List Bool)) v3 ∧ e 6 = j0 ∧ RV g.m w (n0 : List Str) j0 ∧ OS 3017 g w 9 (n0 : List Str) j0 ∧ e 7 = .int .i64 (o0) ∧ e 8 = Str.v (j1) ∧ e 9 = .int .i64 (u0) ∧ e 10 = .int .i64 (i2) ∧ e 11 = .bool (s2) ∧ e 12 = .int .i64 (y0)) (fun X3519 qC oH h => ?_) ?_
        ·refine E_seq (E_region (EL_mv m6 rfl ?_))
         refine EL_mv n5 rfl ?_
         refine EL_pur (v := .int .i64 ((x1).length : Int)) (P_len Try.underlying29 rfl p5) .plain rfl ?_
         refine EL_in (.bool ((decide (y0 < ((x1).length : Int))))) rfl rfl rfl rfl ?_
         refine EL_nil (thn_n ?_)
         rcases csome h with ⟨n6, h⟩ | ⟨n6, h⟩
         ·refine E_ct n6 rfl ?_
          exact E_skip (thn_n (oH () _ _ ⟨cD, hfr, n5, p5, c8, d8, e8, g8, i8, j8, k8, l8, m8, n8, zB, l6, m6⟩ h))
         ·refine E_cf n6 rfl ?_
          refine E_exit ?_
          refine thn_e ?_
          refine thn_e ?_
          refine blk_hit ?_
          obtain rfl := sinj h
          exact hQ _ _ ⟨cD, hfr, n5, p5, c8, d8, e8, g8, i8, j8, k8, l8, m8, n8, l6⟩
        ·rintro _ tJ sK ⟨e6, hfr, p4, j2, o8, p8, q8, r8, t8, v8, x8, y8, z8, a9, c5, o6, c4⟩ h
         obtain ⟨u3, hx, h⟩ := bsome h
         refine E_join (fun e w => ∃ (g : Gh) , Fr gI wI g w ∧ e 1 = up1 ∧ RV g.m w (x1 : List FaultDamage) up1 ∧ e 2 = p1 ∧ PT g.m w (x0 : FaultLoom) p1 ∧ e 5 = v3 ∧ RV g.m w (y4 : List (List Bool)) v3 ∧ e 6 = j0 ∧ RV g.m w (n0 : List Str) j0 ∧ OS 3017 g w 9 (n0 : List Str) j0 ∧ e 7 = .int .i64 (o0) ∧ e 8 = Str.v (j1) ∧ e 9 = .int .i64 (u0) ∧ e 10 = .int .i64 (i2) ∧ e 11 = .bool (u3) ∧ e 12 = .int .i64 (y0)) (fun Q' hQ => ?_) (fun uJ tK hR => ?_)
         ·replace h := hx
          clear hx
          refine E_block ?_
          obtain ⟨z2, hx, h⟩ := bsome h
          refine E_join (fun e w => ∃ (g : Gh) , Fr gI wI g w ∧ e 1 = up1 ∧ RV g.m w (x1 : List FaultDamage) up1 ∧ e 2 = p1 ∧ PT g.m w (x0 : FaultLoom) p1 ∧ e 5 = v3 ∧ RV g.m w (y4 : List (List Bool)) v3 ∧ e 6 = j0 ∧ RV g.m w (n0 : List Str) j0 ∧ OS 3017 g w 9 (n0 : List Str) j0 ∧ e 7 = .int .i64 (o0) ∧ e 8 = Str.v (j1) ∧ e 9 = .int .i64 (u0) ∧ e 10 = .int .i64 (i2) ∧ e 11 = .bool (s2) ∧ e 12 = .int .i64 (y0) ∧ e 65 = .bool (z2)) (fun Q' hQ => ?_) (fun vJ uK hR => ?_)
          ·replace h := hx
           clear hx
           refine E_region (EL_mv p4 rfl ?_)
           refine EL_mv c4 rfl ?_
           obtain ⟨i4, tB, h⟩ := bsome h
           refine EL_pur (v := ePtr up1 y0 5) (P_indexAddr (α := FaultDamage) Try.underlying29 Try.sizeOf62 rfl j2 rfl tB) .plain rfl ?_
           have dD := PT_idx j2 tB
           refine EL_pur (v := fPtr (ePtr up1 y0 5) 0) (P_fieldAddr at_62_0 rfl (PT.ptr dD)) .plain rfl ?_
           have kI := PT_field (part_FaultDamage_0).1 dD
           refine EL_do .plain rfl (D_load (g := e6) Try.isAgg60 Try.sizeOf60 rfl kI fun vK lI => ?_)
           obtain rfl := RV_int.1 lI
           refine EL_in (.bool (((i4).Kind == (2 : Int)))) rfl rfl rfl rfl ?_
           refine EL_mw (.bool (((i4).Kind == (2 : Int)))) rfl rfl ?_
           rcases csome h with ⟨z1, h⟩ | ⟨z1, h⟩
           ·refine EL_pur (v := up1) (P_move p4) (.yes2 rfl rfl z1) rfl ?_
            refine EL_pur (v := .int .i64 (y0)) (P_move c4) (.yes2 rfl rfl z1) rfl ?_
            obtain ⟨a6, uB, h⟩ := bsome h
            refine EL_pur (v := ePtr up1 y0 5) (P_indexAddr (α := FaultDamage) Try.underlying29 Try.sizeOf62 rfl j2 rfl uB) (.yes2 rfl rfl z1) rfl ?_
            have eD := PT_idx j2 uB
            refine EL_pur (v := fPtr (ePtr up1 y0 5) 2) (P_fieldAddr at_62_2 rfl (PT.ptr eD)) (.yes2 rfl rfl z1) rfl ?_
            have mI := PT_field (part_FaultDamage_2).1 eD
            refine EL_do (.yes2 rfl rfl z1) rfl (D_load (g := e6) Try.isAgg3 Try.sizeOf3 rfl mI fun xK nI => ?_)
            obtain rfl := RV_int.1 nI
            refine EL_pur (v := .int .i64 (i2)) (P_move c5) (.yes2 rfl rfl z1) rfl ?_
            refine EL_pur (v := .bool (((a6).Hook == i2))) (P_int rfl rfl rfl) (.yes2 rfl rfl z1) rfl ?_
            refine EL_pur (v := .bool (((a6).Hook == i2))) (P_pick (b := ((i4).Kind == (2 : Int))) rfl (pick_t z1 rfl)) .plain rfl ?_
            refine EL_nil ?_
            obtain rfl := sinj h
            exact hQ _ _ ⟨e6, hfr, p4, j2, o8, p8, q8, r8, t8, v8, x8, y8, z8, a9, c5, o6, c4, rfl⟩
           ·refine EL_skip (.no2 rfl rfl z1 rfl) rfl ?_
            refine EL_skip (.no2 rfl rfl z1 rfl) rfl ?_
            refine EL_skip (.no2 rfl rfl z1 rfl) rfl ?_
            refine EL_skip (.no2 rfl rfl z1 rfl) rfl ?_
            refine EL_skip (.no2 rfl rfl z1 rfl) rfl ?_
            refine EL_skip (.no2 rfl rfl z1 rfl) rfl ?_
            refine EL_skip (.no2 rfl rfl z1 rfl) rfl ?_
            refine EL_pur (v := .bool false) (P_pick (b := ((i4).Kind == (2 : Int))) rfl (pick_f z1 rfl)) .plain rfl ?_
            refine EL_nil ?_
            obtain rfl := sinj h
            exact hQ _ _ ⟨e6, hfr, p4, j2, o8, p8, q8, r8, t8, v8, x8, y8, z8, a9, c5, o6, c4, rfl⟩
          ·clear hx
           obtain ⟨pB, hfr, q5, q4, b9, c9, d9, e9, g9, i9, j9, k9, l9, m9, p6, aC, d5, q6⟩ := hR
           rcases csome h with ⟨r6, h⟩ | ⟨r6, h⟩
           ·refine E_cond_true (Eq.trans (show ev _ _ = .bool (z2) from q6) (congrArg Value.bool r6)) ?_
            refine E_region (EL_mv q5 rfl ?_)
            refine EL_mv d5 rfl ?_
            obtain ⟨nB, vB, h⟩ := bsome h
            refine EL_pur (v := ePtr up1 y0 5) (P_indexAddr (α := FaultDamage) Try.underlying29 Try.sizeOf62 rfl q4 rfl vB) .plain rfl ?_
            have gD := PT_idx q4 vB
            refine EL_pur (v := fPtr (ePtr up1 y0 5) 4) (P_fieldAddr at_62_4 rfl (PT.ptr gD)) .plain rfl ?_
            have oI := PT_field (part_FaultDamage_4).1 gD
            refine EL_do .plain rfl (D_load (g := pB) Try.isAgg4 Try.sizeOf4 rfl oI fun yK pI => ?_)
            obtain rfl := RV_bool.1 pI
            refine EL_at (.bool ((nB).Up)) rfl rfl ?_
            refine EL_nil (blk_n ?_)
            obtain rfl := sinj h
            exact hQ _ _ ⟨pB, hfr, q5, q4, b9, c9, d9, e9, g9, i9, j9, k9, l9, m9, p6, rfl, d5⟩
           ·refine E_cond_false (Eq.trans (show ev _ _ = .bool (z2) from q6) (congrArg Value.bool r6)) ?_
            refine E_skip (blk_n ?_)
            obtain rfl := sinj h
            exact hQ _ _ ⟨pB, hfr, q5, q4, b9, c9, d9, e9, g9, i9, j9, k9, l9, m9, p6, aC, d5⟩
         ·clear hx
          obtain ⟨qI, hfr, lE, mE, nE, oE, pE, qE, rE, sE, tE, uE, vE, xE, bC, cC, dC⟩ := hR
          refine E_region (EL_mv dC rfl ?_)
          refine EL_in (.int .i64 ((w64 (y0 + (1 : Int))))) rfl rfl rfl rfl ?_
          refine EL_at (.int .i64 ((w64 (y0 + (1 : Int))))) rfl rfl ?_
          exact EL_nil (thn_n (nH (u3, (w64 (y0 + (1 : Int)))) _ _ ⟨qI, hfr, lE, mE, nE, oE, pE, qE, rE, sE, tE, uE, vE, xE, bC, cC, rfl⟩ h))
       ·clear hx
        obtain ⟨rI, hfr, yE, zE, aF, bF, cF, dF, eF, gF, iF, jF, kF, lF, eC⟩ := hR
        obtain ⟨z4, hx, h⟩ := bsome h
        refine E_join (fun e w => ∃ (g : Gh) , Fr gI wI g w ∧ e 1 = up1 ∧ RV g.m w (x1 : List FaultDamage) up1 ∧ e 2 = p1 ∧ PT g.m w (x0 : FaultLoom) p1 ∧ e 5 = v3 ∧ RV g.m w (y4 : List (List Bool)) v3 ∧ e 6 = j0 ∧ RV g.m w (n0 : List Str) j0 ∧ OS 3017 g w 9 (n0 : List Str) j0 ∧ e 7 = .int .i64 (o0) ∧ e 8 = Str.v (j1) ∧ e 9 = .int .i64 (u0) ∧ e 11 = .bool (z4)) (fun Q' hQ => ?_) (fun xJ zK hR => ?_)
        ·replace h := hx
         clear hx
         refine E_seq (E_region (EL_at (.int .i64 (0)) rfl rfl ?_))
         refine EL_nil (thn_n (E_block ?_))
         refine E_lp h (fun (s : Bool × Int) e w => ∃ (g : Gh) , Fr gI wI g w ∧ e 1 = up1 ∧ RV g.m w (x1 : List FaultDamage) up1 ∧ e 2 = p1 ∧ PT g.m w (x0 : FaultLoom) p1 ∧ e 5 = v3 ∧ RV g.m w (y4 : List (List Bool)) v3 ∧ e 6 = j0 ∧ RV g.m w (n0 : List Str) j0 ∧ OS 3017 g w 9 (n0 : List Str) j0 ∧ e 7 = .int .i64 (o0) ∧ e 8 = Str.v (j1) ∧ e 9 = .int .i64 (u0) ∧ e 11 = .bool (s.1) ∧ e 13 = .int .i64 (s.2)) ⟨rI, hfr, yE, zE, aF, bF, cF, dF, eF, gF, iF, jF, kF, lF, eC, rfl⟩ (fun X3619 rC pH => ?_)
         rintro ⟨d3, i1⟩ yJ aL ⟨iD, hfr, t5, u5, n9, o9, p9, q9, r9, s9, t9, u9, v9, x9, t6, u6⟩ h
         refine E_joinC h (fun (s : Unit) e w => ∃ (g : Gh) , Fr gI wI g w ∧ e 1 = up1 ∧ RV g.m w (x1 : List FaultDamage) up1 ∧ e 2 = p1 ∧ PT g.m w (x0 : FaultLoom) p1 ∧ e 5 = v3 ∧ RV g.m w (y4 : List (List Bool)) v3 ∧ e 6 = j0 ∧ RV g.m w (n0 : List Str) j0 ∧ OS 3017 g w 9 (n0 : List Str) j0 ∧ e 7 = .int .i64 (o0) ∧ e 8 = Str.v (j1) ∧ e 9 = .int .i64 (u0) ∧ e 11 = .bool (d3) ∧ e 13 = .int .i64 (i1)) (fun X3622 sC qH h => ?_) ?_
         ·refine E_seq (E_region (EL_mv u6 rfl ?_))
          refine EL_mv t5 rfl ?_
          refine EL_pur (v := .int .i64 ((x1).length : Int)) (P_len Try.underlying29 rfl u5) .plain rfl ?_
          refine EL_in (.bool ((decide (i1 < ((x1).length : Int))))) rfl rfl rfl rfl ?_
          refine EL_nil (thn_n ?_)
          rcases csome h with ⟨x6, h⟩ | ⟨x6, h⟩
          ·refine E_ct x6 rfl ?_
           exact E_skip (thn_n (qH () _ _ ⟨iD, hfr, t5, u5, n9, o9, p9, q9, r9, s9, t9, u9, v9, x9, t6, u6⟩ h))
          ·refine E_cf x6 rfl ?_
           refine E_exit ?_
           refine thn_e ?_
           refine thn_e ?_
           refine blk_hit ?_
           obtain rfl := sinj h
           exact hQ _ _ ⟨iD, hfr, t5, u5, n9, o9, p9, q9, r9, s9, t9, u9, v9, x9, t6⟩
         ·rintro _ zJ bL ⟨i6, hfr, u4, q2, y9, z9, aA, bA, cA, dA, eA, gA, iA, x5, y6, d4⟩ h
          obtain ⟨z3, hx, h⟩ := bsome h
          refine E_join (fun e w => ∃ (g : Gh) , Fr gI wI g w ∧ e 1 = up1 ∧ RV g.m w (x1 : List FaultDamage) up1 ∧ e 2 = p1 ∧ PT g.m w (x0 : FaultLoom) p1 ∧ e 5 = v3 ∧ RV g.m w (y4 : List (List Bool)) v3 ∧ e 6 = j0 ∧ RV g.m w (n0 : List Str) j0 ∧ OS 3017 g w 9 (n0 : List Str) j0 ∧ e 7 = .int .i64 (o0) ∧ e 8 = Str.v (j1) ∧ e 9 = .int .i64 (u0) ∧ e 11 = .bool (z3) ∧ e 13 = .int .i64 (i1)) (fun Q' hQ => ?_) (fun aK cL hR => ?_)
          ·replace h := hx
           clear hx
           refine E_block ?_
           obtain ⟨i3, hx, h⟩ := bsome h
           refine E_join (fun e w => ∃ (g : Gh) , Fr gI wI g w ∧ e 1 = up1 ∧ RV g.m w (x1 : List FaultDamage) up1 ∧ e 2 = p1 ∧ PT g.m w (x0 : FaultLoom) p1 ∧ e 5 = v3 ∧ RV g.m w (y4 : List (List Bool)) v3 ∧ e 6 = j0 ∧ RV g.m w (n0 : List Str) j0 ∧ OS 3017 g w 9 (n0 : List Str) j0 ∧ e 7 = .int .i64 (o0) ∧ e 8 = Str.v (j1) ∧ e 9 = .int .i64 (u0) ∧ e 11 = .bool (d3) ∧ e 13 = .int .i64 (i1) ∧ e 91 = .bool (i3)) (fun Q' hQ => ?_) (fun bK dL hR => ?_)
           ·replace h := hx
            clear hx
            refine E_region (EL_mv u4 rfl ?_)
            refine EL_mv d4 rfl ?_
            obtain ⟨j4, xB, h⟩ := bsome h
            refine EL_pur (v := ePtr up1 i1 5) (P_indexAddr (α := FaultDamage) Try.underlying29 Try.sizeOf62 rfl q2 rfl xB) .plain rfl ?_
            have jD := PT_idx q2 xB
            refine EL_pur (v := fPtr (ePtr up1 i1 5) 0) (P_fieldAddr at_62_0 rfl (PT.ptr jD)) .plain rfl ?_
            have sI := PT_field (part_FaultDamage_0).1 jD
            refine EL_do .plain rfl (D_load (g := i6) Try.isAgg60 Try.sizeOf60 rfl sI fun eL tI => ?_)
            obtain rfl := RV_int.1 tI
            refine EL_in (.bool (((j4).Kind == (5 : Int)))) rfl rfl rfl rfl ?_
            refine EL_mw (.bool (((j4).Kind == (5 : Int)))) rfl rfl ?_
            rcases csome h with ⟨d2, h⟩ | ⟨d2, h⟩
            ·refine EL_pur (v := up1) (P_move u4) (.yes2 rfl rfl d2) rfl ?_
             refine EL_pur (v := .int .i64 (i1)) (P_move d4) (.yes2 rfl rfl d2) rfl ?_
             obtain ⟨b6, yB, h⟩ := bsome h
             refine EL_pur (v := ePtr up1 i1 5) (P_indexAddr (α := FaultDamage) Try.underlying29 Try.sizeOf62 rfl q2 rfl yB) (.yes2 rfl rfl d2) rfl ?_
             have kD := PT_idx q2 yB
             refine EL_pur (v := fPtr (ePtr up1 i1 5) 3) (P_fieldAddr at_62_3 rfl (PT.ptr kD)) (.yes2 rfl rfl d2) rfl ?_
             have uI := PT_field (part_FaultDamage_3).1 kD
             refine EL_do (.yes2 rfl rfl d2) rfl (D_load (g := i6) Try.isAgg3 Try.sizeOf3 rfl uI fun gL vI => ?_)
             obtain rfl := RV_int.1 vI
             refine EL_pur (v := .int .i64 (u0)) (P_move x5) (.yes2 rfl rfl d2) rfl ?_
             refine EL_pur (v := .bool (((b6).Warp == u0))) (P_int rfl rfl rfl) (.yes2 rfl rfl d2) rfl ?_
             refine EL_pur (v := .bool (((b6).Warp == u0))) (P_pick (b := ((j4).Kind == (5 : Int))) rfl (pick_t d2 rfl)) .plain rfl ?_
             refine EL_nil ?_
             obtain rfl := sinj h
             exact hQ _ _ ⟨i6, hfr, u4, q2, y9, z9, aA, bA, cA, dA, eA, gA, iA, x5, y6, d4, rfl⟩
            ·refine EL_skip (.no2 rfl rfl d2 rfl) rfl ?_
             refine EL_skip (.no2 rfl rfl d2 rfl) rfl ?_
             refine EL_skip (.no2 rfl rfl d2 rfl) rfl ?_
             refine EL_skip (.no2 rfl rfl d2 rfl) rfl ?_
             refine EL_skip (.no2 rfl rfl d2 rfl) rfl ?_
             refine EL_skip (.no2 rfl rfl d2 rfl) rfl ?_
             refine EL_skip (.no2 rfl rfl d2 rfl) rfl ?_
             refine EL_pur (v := .bool false) (P_pick (b := ((j4).Kind == (5 : Int))) rfl (pick_f d2 rfl)) .plain rfl ?_
             refine EL_nil ?_
             obtain rfl := sinj h
             exact hQ _ _ ⟨i6, hfr, u4, q2, y9, z9, aA, bA, cA, dA, eA, gA, iA, x5, y6, d4, rfl⟩
           ·clear hx
            obtain ⟨lD, hfr, jA, kA, lA, mA, nA, oA, pA, qA, rA, sA, tA, uA, iC, z6, a7⟩ := hR
            rcases csome h with ⟨b7, h⟩ | ⟨b7, h⟩
            ·refine E_cond_true (Eq.trans (show ev _ _ = .bool (i3) from a7) (congrArg Value.bool b7)) ?_
             refine E_region (EL_at (.bool false) rfl rfl ?_)
             refine EL_nil (blk_n ?_)
             obtain rfl := sinj h
             exact hQ _ _ ⟨lD, hfr, jA, kA, lA, mA, nA, oA, pA, qA, rA, sA, tA, uA, rfl, z6⟩
            ·refine E_cond_false (Eq.trans (show ev _ _ = .bool (i3) from a7) (congrArg Value.bool b7)) ?_
             refine E_skip (blk_n ?_)
             obtain rfl := sinj h
             exact hQ _ _ ⟨lD, hfr, jA, kA, lA, mA, nA, oA, pA, qA, rA, sA, tA, uA, iC, z6⟩
          ·clear hx
           obtain ⟨xI, hfr, mF, nF, oF, pF, qF, rF, sF, tF, uF, vF, xF, yF, jC, kC⟩ := hR
           refine E_region (EL_mv kC rfl ?_)
           refine EL_in (.int .i64 ((w64 (i1 + (1 : Int))))) rfl rfl rfl rfl ?_
           refine EL_at (.int .i64 ((w64 (i1 + (1 : Int))))) rfl rfl ?_
           exact EL_nil (thn_n (pH (z3, (w64 (i1 + (1 : Int)))) _ _ ⟨xI, hfr, mF, nF, oF, pF, qF, rF, sF, tF, uF, vF, xF, yF, jC, rfl⟩ h))
        ·clear hx
         obtain ⟨mD, hfr, vA, xA, yA, zA, aB, bB, cB, dB, eB, iB, jB, kB, lC⟩ := hR
         refine E_seq (E_region (EL_mv lC rfl ?_))
         refine EL_nil (thn_n ?_)
         rcases csome h with ⟨c7, h⟩ | ⟨c7, h⟩
         ·refine E_ct c7 rfl ?_
          refine E_region (EL_mv jB rfl ?_)
          obtain ⟨c6, sH, h⟩ := bsome h
          refine EL_pur (v := Str.v (c6)) (P_str rfl rfl (sadd_sop sH)) .plain rfl ?_
          refine EL_at (Str.v (c6)) rfl rfl ?_
          refine EL_nil (blk_n ?_)
          obtain rfl := sinj h
          exact hQ _ _ ⟨mD, hfr, vA, xA, yA, zA, aB, bB, cB, dB, eB, iB, rfl, kB⟩
         ·refine E_cf c7 rfl ?_
          refine E_region (EL_mv jB rfl ?_)
          obtain ⟨d6, tH, h⟩ := bsome h
          refine EL_pur (v := Str.v (d6)) (P_str rfl rfl (sadd_sop tH)) .plain rfl ?_
          refine EL_at (Str.v (d6)) rfl rfl ?_
          refine EL_nil (blk_n ?_)
          obtain rfl := sinj h
          exact hQ _ _ ⟨mD, hfr, vA, xA, yA, zA, aB, bB, cB, dB, eB, iB, rfl, kB⟩
      ·clear hx
       obtain ⟨yI, hfr, zF, aG, bG, cG, dG, eG, gG, hG, iG, jG, kG, lG⟩ := hR
       refine E_region (EL_mv lG rfl ?_)
       refine EL_in (.int .i64 ((w64 (u0 + (1 : Int))))) rfl rfl rfl rfl ?_
       refine EL_at (.int .i64 ((w64 (u0 + (1 : Int))))) rfl rfl ?_
       exact EL_nil (thn_n (lH (m4, (w64 (u0 + (1 : Int)))) _ _ ⟨yI, hfr, zF, aG, bG, cG, dG, eG, gG, hG, iG, jG, kG, rfl⟩ h))
    ·clear hx
     obtain ⟨zI, hfr, mG, p3, nG, q3, oG, s3, pG, y5, z5, qG, rG⟩ := hR
     refine E_region (EL_mv pG rfl ?_)
     refine EL_mv rG rfl ?_
     refine EL_do .plain rfl (D_buildSlice (g := zI) 3099 (xs := ([j3] : List Str)) (vs := [Str.v (j3)]) Try.underlying36 Try.sizeOf9 Try.zeroValue9 rfl rfl (.cons rfl .nil) (RVs.cons (RV_str.2 rfl) RVs.nil) rfl rfl fun aJ iL jL hs o3672 bJ hxt hfl => ?_)
     have hfr := hfr.stp hs
     have p3 := p3.stp hs
     have q3 := q3.stp hs
     have s3 := s3.stp hs
     have y5 := y5.stp hs
     have z5 := z5.stp hs rfl
     obtain ⟨uC, uH, h⟩ := bsome h
     refine EL_do .plain rfl (D_append (g := aJ) (i := 3017) Try.underlying36 info_9 rfl rfl z5 y5 rfl bJ uH fun cJ kL nD hs o3673 dJ _ => ?_)
     have hfr := hfr.stp hs
     have p3 := p3.stp hs
     have q3 := q3.stp hs
     have s3 := s3.stp hs
     refine EL_at nD rfl rfl ?_
     refine EL_nil (blk_n ?_)
     obtain rfl := sinj h
     exact hQ _ _ ⟨cJ, (nD), hfr, mG, p3, nG, q3, oG, s3, rfl, dJ, o3673, qG⟩
   ·clear hx
    obtain ⟨eJ, sG, hfr, tG, uG, vG, xG, yG, zG, aH, bH, cH, dH⟩ := hR
    refine E_region (EL_mv dH rfl ?_)
    refine EL_in (.int .i64 ((w64 (o0 + (1 : Int))))) rfl rfl rfl rfl ?_
    refine EL_at (.int .i64 ((w64 (o0 + (1 : Int))))) rfl rfl ?_
    exact EL_nil (thn_n (jH (o3, (w64 (o0 + (1 : Int)))) _ _ ⟨eJ, (sG), hfr, tG, uG, vG, xG, yG, zG, aH, bH, cH, rfl⟩ h))
 ·clear hx
  obtain ⟨lL, lB, hfr, gH, iH, gJ⟩ := hR
  refine E_seq (E_region (EL_mv gH rfl ?_))
  refine EL_at lB rfl rfl ?_
  refine EL_nil (thn_n (E_ret ?_))
  obtain rfl := sinj h
  exact end1 rfl rfl (show _ = lB from rfl) ⟨_, hfr, iH⟩
/-- griffe/grifferef05.One -/
def f36 (x0 : FaultLoom) (x1 : FaultDamage) : Option ((List Str)) :=
 (f26 x0 (([x1] : List FaultDamage))).bind fun y7 =>
 some (y7)
/-- griffe/fault.open -/
def f54 (x0 : FaultLoom) (x1 : List FaultDamage) (x2 : Int) : Option (Int) :=
 jn (σ := Unit) (fun (_ : Unit) =>
  jn (σ := Unit) (fun (_ : Unit) =>
   some ((0 : Int))
   ) fun y0 =>
  (f62 ((1 : Int)) ((120 : Int)) (([x2] : List Int))).bind fun o0 =>
  bif (!o0) then
   some ((3 : Int))
  else
   y0 ()
  ) fun k6 =>
 (f18 x0 x1).bind fun y9 =>
 bif (y9 != (0 : Int)) then
  some (y9)
 else
  k6 ()
theorem en54 : Enters Try.prog 54 := enters_of Try.func54 (by kernel_rfl) rfl
theorem wk54 {gI : Gh} {wI : World} {x0 : FaultLoom} {x1 : List FaultDamage} {x2 : Int} {up0 : Value} (rp0 : RV gI.m wI x0 up0) {up1 : Value} (rp1 : RV gI.m wI x1 up1) {r : Int} (h : f54 x0 x1 x2 = some r) : Fn Try.prog 54 #[up0, up1, .int .i64 (x2)] gI wI (fun _ _ v => v = .int .i64 (r)) := by
 unfold f54 at h
 refine fn_of_E Try.func54 rfl (Nat.le_of_ble_eq_true rfl) fun g0 hm hfr => ?_
 have rp0 : RV g0.m wI x0 up0 := hm ▸ rp0
 have rp1 : RV g0.m wI x1 up1 := hm ▸ rp1
 show E _ 18 none _ _ _ _ _
 refine E_seq (E_region (EL_do .plain rfl (D_box (g := g0) rfl rp0 fun g1 w1 p1 hs q1 => ?_)))
 have hfr := hfr.ext hs
 have rp1 := rp1.ext hs
 refine EL_at (.int .i64 (0)) rfl rfl ?_
 refine EL_nil (thn_n (E_joinC h (fun (s : Unit) e w => ∃ (g : Gh) , Fr gI wI g w ∧ e 2 = .int .i64 (x2)) (fun X6 k6 hk6 h => ?_) ?_))
 ·refine E_seq (E_region (EL_do .plain rfl (D_load (g := g1) Try.isAgg28 Try.sizeOf28 rfl q1 fun v7 r7 => ?_)))
  refine EL_mw up1 rfl rfl ?_
  obtain ⟨y9, z1, h⟩ := bsome h
  refine EL_do .plain rfl (D_call (g := g1) (vs := [v7, up1]) en18 (.cons rfl (.cons rfl .nil)) (wk18 r7 rp1 z1) fun g8 w8_ v8 hs hr => ?_)
  have hfr := hfr.ext hs
  subst hr
  refine EL_at (.int .i64 (y9)) rfl rfl ?_
  refine EL_nil (thn_n (E_seq (E_region (EL_mw (.int .i64 (y9)) rfl rfl ?_))))
  refine EL_in (.bool ((y9 != (0 : Int)))) rfl rfl rfl rfl ?_
  refine EL_nil (thn_n ?_)
  rcases csome h with ⟨j0, h⟩ | ⟨j0, h⟩
  ·refine E_ct j0 rfl ?_
   refine E_seq (E_region (EL_mw (.int .i64 (y9)) rfl rfl ?_))
   refine EL_at (.int .i64 (y9)) rfl rfl ?_
   refine EL_nil (thn_n (E_ret (thn_r ?_)))
   obtain rfl := sinj h
   exact end1 rfl rfl (show _ = .int .i64 (y9) from rfl) ⟨_, hfr, rfl⟩
  ·refine E_cf j0 rfl ?_
   exact E_skip (thn_n (hk6 () _ _ ⟨g8, hfr, rfl⟩ h))
 ·rintro _ z2 j3 ⟨d2, hfr, u0⟩ h
  refine E_joinC h (fun (s : Unit) e w => ∃ (g : Gh) , Fr gI wI g w) (fun X16 y0 i1 h => ?_) ?_
  ·refine E_seq (E_region (EL_mv u0 rfl ?_))
   refine EL_do .plain rfl (D_buildSlice (g := d2) 3015 (xs := ([x2] : List Int)) (vs := [.int .i64 (x2)]) Try.underlying22 Try.sizeOf3 Try.zeroValue3 rfl rfl (.cons rfl .nil) (RVs.cons (RV_int.2 rfl) RVs.nil) rfl rfl fun i2 o3 j2 hs o17 q2 hxt hfl => ?_)
   have hfr := hfr.stp hs
   obtain ⟨o0, j1, h⟩ := bsome h
   refine EL_do .plain rfl (D_call (g := i2) (vs := [.int .i64 (1), .int .i64 (120), j2]) en62 (.cons rfl (.cons rfl (.cons rfl .nil))) (wk62 q2 j1) fun s2 d3 p3 hs hr => ?_)
   have hfr := hfr.ext hs
   subst hr
   refine EL_pur (v := .bool (!o0)) (P_not rfl) .plain rfl ?_
   refine EL_nil (thn_n ?_)
   rcases csome h with ⟨n0, h⟩ | ⟨n0, h⟩
   ·refine E_ct n0 rfl ?_
    refine E_seq (E_region (EL_at (.int .i64 (3)) rfl rfl ?_))
    refine EL_nil (thn_n (E_ret (thn_r ?_)))
    obtain rfl := sinj h
    exact end1 rfl rfl (show _ = .int .i64 (3) from rfl) ⟨_, hfr, rfl⟩
   ·refine E_cf n0 rfl ?_
    exact E_skip (thn_n (i1 () _ _ ⟨s2, hfr⟩ h))
  ·rintro _ i3 q3 ⟨s3, hfr⟩ h
   refine E_seq (E_region (EL_at (.int .i64 (0)) rfl rfl ?_))
   refine EL_nil (thn_n (E_ret ?_))
   obtain rfl := sinj h
   exact end1 rfl rfl (show _ = .int .i64 (0) from rfl) ⟨_, hfr, rfl⟩
theorem v77_0 {iO : Nat} {gI : Gh} {wI : World} {x0 : List FaultDamage} {up0 : Value} (rp0 : RV gI.m wI x0 up0) {r : List FaultDamage} (h : f77 x0 = some r) : FnG Try.prog 77 #[up0] gI wI (fun g w v => OM iO g w 62 r v) := by
 unfold f77 at h
 refine fnG_of_E Try.func77 rfl (Nat.le_of_ble_eq_true rfl) fun g0 hm hfr => ?_
 have rp0 : RV g0.m wI x0 up0 := hm ▸ rp0
 show E _ 8 none _ _ _ _ _
 refine E_seq (E_region (EL_at (.slice none 0 0) rfl rfl (EL_nil (thn_n ?_))))
 refine E_seq (E_seq (E_region (EL_mw up0 rfl rfl ?_)))
 obtain ⟨a, c, hv, hc, hrow⟩ := RV_list rp0
 refine EL_pur (v := .bool a.isNone) (P_slnil Try.underlying29 (show ev _ _ = _ from hv)) .plain rfl (EL_nil (thn_n ?_))
 cases a with
 | none =>
  have hx : x0 = [] := by
   cases x0 with
   | nil => rfl
   | cons y ys => obtain ⟨b, off, hb, _⟩ := hrow (by simp); cases hb
  subst hx
  have hr : r = [] := by unfold apnd at h; split at h <;> simp at h; exact h
  subst hr
  refine E_cond_true rfl (E_seq (E_region ?_))
  refine EL_at (.slice none 0 0) rfl rfl (EL_nil (thn_n ?_))
  obtain ⟨gh, hxh, homh⟩ := OM.handn (i := iO) (t := 62) (α := FaultDamage) hfr; exact E_ret (thn_r (end1 rfl rfl (show _ = .slice none 0 0 from rfl) ⟨gh, hxh, homh⟩))
 | some a =>
  refine E_cond_false rfl (E_skip (thn_n ?_))
  refine E_seq (E_region (EL_do .plain rfl (D_buildSlice (g := g0) 1 (xs := ([] : List FaultDamage)) (vs := []) Try.underlying29 Try.sizeOf62 Try.zeroValue62 rfl rfl .nil RVs.nil rfl rfl fun g1 w1 v1 hs o1 r1 hxt hfl => ?_)))
  have hfr := hfr.stp hs
  have rp0 := rp0.stp hs
  refine EL_mw up0 rfl rfl ?_
  refine EL_do .plain rfl (D_append (g := g1) (i := 1) Try.underlying29 info_62 rfl rfl o1 r1 rfl rp0 h fun g2 w2 v2 hs o2 r2 _ => ?_)
  have hfr := hfr.stp hs
  refine EL_at v2 rfl rfl (EL_nil (thn_n ?_))
  obtain ⟨gh, hxh, homh⟩ := OM.hand (i := iO) plain_FaultDamage hfr o2 r2; exact E_ret (end1 rfl rfl (show _ = v2 from rfl) ⟨gh, hxh, homh⟩)
theorem v82_0 {iO : Nat} {gI : Gh} {wI : World} {x0 : TieHarness} {x1 : Design} {up0 : Value} (rp0 : RV gI.m wI x0 up0) {up1 : Value} (rp1 : RV gI.m wI x1 up1) {r : (List Str) × Int} (h : f82 x0 x1 = some r) : FnG Try.prog 82 #[up0, up1] gI wI (fun g w v => ∃ y0 y1, v = .tuple #[y0, y1] ∧ OM iO g w 9 (r.1) y0 ∧ y1 = .int .i64 (r.2)) := by
 unfold f82 at h
 refine fnG_of_E Try.func82 rfl (Nat.le_of_ble_eq_true rfl) fun g0 hm hfr => ?_
 have rp0 : RV g0.m wI x0 up0 := hm ▸ rp0
 have rp1 : RV g0.m wI x1 up1 := hm ▸ rp1
 show E _ 43 none _ _ _ _ _
 refine E_seq (E_region (EL_do .plain rfl (D_box (g := g0) rfl rp0 fun g1 w1 p1 hs q1 => ?_)))
 have hfr := hfr.ext hs
 have rp1 := rp1.ext hs
 refine EL_do .plain rfl (D_box (g := g1) rfl rp1 fun g2 w2 p2 hs q2 => ?_)
 have hfr := hfr.ext hs
 have q1 := q1.ext hs
 refine EL_at (.slice none 0 0) rfl rfl ?_
 refine EL_at (.int .i64 (0)) rfl rfl ?_
 refine EL_nil (thn_n (E_joinC h (fun (s : (List Str)) e w => ∃ (g : Gh) (v4 : Value), Fr gI wI g w ∧ e 2 = p1 ∧ PT g.m w (x0 : TieHarness) p1 ∧ e 3 = p2 ∧ PT g.m w (x1 : Design) p2 ∧ e 4 = v4 ∧ RV g.m w (s : List Str) v4 ∧ OS 1004 g w 9 (s : List Str) v4) (fun X7 k7 c7 h => ?_) ?_))
 ·refine E_seq (E_region (EL_do .plain rfl (D_load (g := g2) Try.isAgg24 Try.sizeOf24 rfl q1 fun v8 r8 => ?_)))
  obtain ⟨j2, u6, h⟩ := bsome h
  refine EL_do .plain rfl (D_call (g := g2) (vs := [v8]) en73 (.cons rfl .nil) (wk73 r8 u6) fun g9 w9_ v9 hs hr => ?_)
  have hfr := hfr.ext hs
  have q1 := q1.ext hs
  have q2 := q2.ext hs
  subst hr
  refine EL_at (.int .i64 (j2)) rfl rfl ?_
  refine EL_nil (thn_n (E_seq (E_region (EL_mw (.int .i64 (j2)) rfl rfl ?_))))
  refine EL_in (.bool ((j2 != (0 : Int)))) rfl rfl rfl rfl ?_
  refine EL_nil (thn_n ?_)
  rcases csome h with ⟨s3, h⟩ | ⟨s3, h⟩
  ·refine E_ct s3 rfl ?_
   refine E_seq (E_region (EL_mw (.int .i64 (j2)) rfl rfl ?_))
   refine EL_at (.slice none 0 0) rfl rfl ?_
   refine EL_at (.int .i64 (j2)) rfl rfl ?_
   refine EL_nil (thn_n (E_ret (thn_r ?_)))
   obtain rfl := sinj h
   obtain ⟨gh, hxh, homh⟩ := OM.handn (i := iO) (t := 9) (α := Str) hfr
   exact end2 rfl rfl (show _ = .slice none 0 0 from rfl) (show _ = .int .i64 (j2) from rfl) ⟨gh, hxh, _, _, rfl, homh, rfl⟩
  ·refine E_cf s3 rfl ?_
   exact E_skip (thn_n (c7 ([]) _ _ ⟨g9, (.slice none 0 0), hfr, rfl, q1, rfl, q2, rfl, RV_nil, OS.nil⟩ h))
 ·rintro j5 z7 i8 ⟨l6, l5, hfr, d4, z1, s2, u0, m5, z2, d3⟩ h
  refine E_joinC h (fun (s : (List Str)) e w => ∃ (g : Gh) (v4 : Value), Fr gI wI g w ∧ e 2 = p1 ∧ PT g.m w (x0 : TieHarness) p1 ∧ e 3 = p2 ∧ PT g.m w (x1 : Design) p2 ∧ e 4 = v4 ∧ RV g.m w (s : List Str) v4 ∧ OS 1004 g w 9 (s : List Str) v4) (fun X22 j8 v6 h => ?_) ?_
  ·refine E_seq (E_region (EL_do .plain rfl (D_load (g := l6) Try.isAgg26 Try.sizeOf26 s2 u0 fun d7 e7 => ?_)))
   obtain ⟨d2, x6, h⟩ := bsome h
   refine EL_do .plain rfl (D_call (g := l6) (vs := [d7]) en74 (.cons rfl .nil) (wk74 e7 x6) fun p4 a8 k8 hs hr => ?_)
   have hfr := hfr.ext hs
   have z1 := z1.ext hs
   have u0 := u0.ext hs
   have z2 := z2.ext hs
   have d3 := d3.ext hs
   subst hr
   refine EL_at (.int .i64 (d2)) rfl rfl ?_
   refine EL_nil (thn_n (E_block ?_))
   refine E_seq (E_region (EL_mw (.int .i64 (d2)) rfl rfl ?_))
   refine EL_in (.bool ((d2 != (0 : Int)))) rfl rfl rfl rfl ?_
   refine EL_at (.bool ((d2 != (0 : Int)))) rfl rfl ?_
   refine EL_nil (thn_n ?_)
   rcases csome h with ⟨u3, h⟩ | ⟨u3, h⟩
   ·refine E_ct u3 rfl ?_
    refine E_seq (E_region (EL_mw (.int .i64 (d2)) rfl rfl ?_))
    refine EL_at (.slice none 0 0) rfl rfl ?_
    refine EL_at (.int .i64 (d2)) rfl rfl ?_
    refine EL_nil (thn_n (E_ret (blk_r ?_)))
    refine thn_r ?_
    obtain rfl := sinj h
    obtain ⟨gh, hxh, homh⟩ := OM.handn (i := iO) (t := 9) (α := Str) hfr
    exact end2 rfl rfl (show _ = .slice none 0 0 from rfl) (show _ = .int .i64 (d2) from rfl) ⟨gh, hxh, _, _, rfl, homh, rfl⟩
   ·refine E_cf u3 rfl ?_
    refine E_seq (E_region (EL_pur (v := fPtr p2 0) (P_fieldAddr at_26_0 s2 (PT.ptr u0)) .plain rfl ?_))
    have g7 := PT_field (part_Design_0).1 u0
    refine EL_do .plain rfl (D_load (g := p4) Try.isAgg3 Try.sizeOf3 rfl g7 fun l8 i7 => ?_)
    obtain rfl := RV_int.1 i7
    refine EL_pur (v := fPtr p1 0) (P_fieldAddr at_24_0 d4 (PT.ptr z1)) .plain rfl ?_
    have j7 := PT_field (part_TieHarness_0).1 z1
    refine EL_do .plain rfl (D_load (g := p4) Try.isAgg3 Try.sizeOf3 rfl j7 fun m8 l7 => ?_)
    obtain rfl := RV_int.1 l7
    refine EL_in (.bool (((x1).Hooks != (x0).Hooks))) rfl rfl rfl rfl ?_
    refine EL_at (.bool (((x1).Hooks != (x0).Hooks))) rfl rfl ?_
    refine EL_nil (thn_n ?_)
    rcases csome h with ⟨z3, h⟩ | ⟨z3, h⟩
    ·refine E_ct z3 rfl ?_
     refine E_seq (E_region (EL_at (.slice none 0 0) rfl rfl ?_))
     refine EL_at (.int .i64 (4)) rfl rfl ?_
     refine EL_nil (thn_n (E_ret (blk_r ?_)))
     refine thn_r ?_
     obtain rfl := sinj h
     obtain ⟨gh, hxh, homh⟩ := OM.handn (i := iO) (t := 9) (α := Str) hfr
     exact end2 rfl rfl (show _ = .slice none 0 0 from rfl) (show _ = .int .i64 (4) from rfl) ⟨gh, hxh, _, _, rfl, homh, rfl⟩
    ·refine E_cf z3 rfl ?_
     exact E_skip (blk_n (thn_n (v6 (j5) _ _ ⟨p4, (l5), hfr, d4, z1, s2, u0, m5, z2, d3⟩ h)))
  ·rintro x7 b8 n8 ⟨m6, n5, hfr, o5, p5, q5, i4, t5, u5, x5⟩ h
   obtain ⟨j4, hx, h⟩ := bsome h
   refine E_join (fun e w => ∃ (g : Gh) (v4 : Value), Fr gI wI g w ∧ e 4 = v4 ∧ RV g.m w (j4 : List Str) v4 ∧ OS 1004 g w 9 (j4 : List Str) v4) (fun Q' hQ => ?_) (fun c8 o8 hR => ?_)
   ·replace h := hx
    clear hx
    refine E_seq (E_region (EL_pur (v := fPtr p2 1) (P_fieldAddr at_26_1 q5 (PT.ptr i4)) .plain rfl ?_))
    have m7 := PT_field (part_Design_1).1 i4
    refine EL_do .plain rfl (D_load (g := m6) Try.isAgg22 Try.sizeOf22 rfl m7 fun j3 n6 => ?_)
    refine EL_pur (v := .int .i64 (((x1).Rows).length : Int)) (P_len Try.underlying22 rfl n6) .plain rfl ?_
    refine EL_mw (.int .i64 (0)) rfl rfl ?_
    refine EL_nil (thn_n (E_block ?_))
    refine E_lp h (fun (s : (List Str) × Int) e w => ∃ (g : Gh) (v4 : Value), Fr gI wI g w ∧ e 2 = p1 ∧ PT g.m w (x0 : TieHarness) p1 ∧ e 4 = v4 ∧ RV g.m w (s.1 : List Str) v4 ∧ OS 1004 g w 9 (s.1 : List Str) v4 ∧ e 28 = j3 ∧ RV g.m w ((x1).Rows : List Int) j3 ∧ e 29 = .int .i64 ((((x1).Rows).length : Int)) ∧ e 30 = .int .i64 (s.2)) ⟨m6, (n5), hfr, o5, p5, t5, u5, x5, rfl, n6, rfl, rfl⟩ (fun X61 p8 y6 => ?_)
    rintro ⟨y7, o0⟩ d8 q8 ⟨o3, y5, hfr, m4, n0, n4, i1, j1, p3, j0, q3, i2⟩ h
    refine E_seq (E_region (EL_pur (v := .bool ((decide (o0 < (((x1).Rows).length : Int))))) (P_int i2 q3 rfl) .plain rfl ?_))
    refine EL_nil (thn_n (E_seq ?_))
    rcases csome h with ⟨c4, h⟩ | ⟨c4, h⟩
    ·refine E_ct c4 rfl ?_
     refine E_skip (thn_n ?_)
     obtain ⟨i3, hx, h⟩ := bsome h
     refine E_join (fun e w => ∃ (g : Gh) (v4 : Value), Fr gI wI g w ∧ e 2 = p1 ∧ PT g.m w (x0 : TieHarness) p1 ∧ e 4 = v4 ∧ RV g.m w (i3 : List Str) v4 ∧ OS 1004 g w 9 (i3 : List Str) v4 ∧ e 28 = j3 ∧ RV g.m w ((x1).Rows : List Int) j3 ∧ e 29 = .int .i64 ((((x1).Rows).length : Int)) ∧ e 30 = .int .i64 (o0)) (fun Q' hQ => ?_) (fun e8 t8 hR => ?_)
     ·replace h := hx
      clear hx
      refine E_block ?_
      refine E_seq (E_region ?_)
      obtain ⟨q4, u4, h⟩ := bsome h
      refine EL_pur (v := ePtr j3 o0 1) (P_indexAddr (α := Int) Try.underlying22 Try.sizeOf3 p3 j0 i2 u4) .plain rfl ?_
      have n7 := PT_idx j0 u4
      refine EL_do .plain rfl (D_load (g := o3) Try.isAgg3 Try.sizeOf3 rfl n7 fun x8 o7 => ?_)
      obtain rfl := RV_int.1 o7
      refine EL_at (.int .i64 (q4)) rfl rfl ?_
      refine EL_nil (thn_n (E_region (EL_mv n4 rfl ?_)))
      refine EL_do .plain rfl (D_load (g := o3) Try.isAgg24 Try.sizeOf24 m4 n0 fun x4 o6 => ?_)
      have p6 : RV o3.m _ (⟨x0⟩ : TieTieHarness) (.agg (setCh [[.int .i64 0, .slice none 0 0]] [(0, x4)]).flatten.toArray) := RV_build rfl (rep_last (RV.cells o6))
      generalize z6 : (Value.agg (setCh [[.int .i64 0, .slice none 0 0]] [(0, x4)]).flatten.toArray) = q6 at p6
      refine EL_pur (v := q6) (z6 ▸ P_build (vs := [(0, x4)]) [[.int .i64 0, .slice none 0 0]] lay_145 rfl rfl (.cons rfl .nil) ⟨⟨_, rfl, cells_size o6⟩, trivial⟩) .plain rfl ?_
      refine EL_mw (.int .i64 (q4)) rfl rfl ?_
      obtain ⟨r6, a7, h⟩ := bsome h
      refine EL_do .plain rfl (D_call (g := o3) (vs := [q6, .int .i64 (q4)]) en102 (.cons rfl (.cons rfl .nil)) (wk102 p6 a7) fun p7 g8 y8 hs hr => ?_)
      have hfr := hfr.ext hs
      have n0 := n0.ext hs
      have i1 := i1.ext hs
      have j1 := j1.ext hs
      have j0 := j0.ext hs
      subst hr
      refine EL_do .plain rfl (D_buildSlice (g := p7) 3039 (xs := ([r6] : List Str)) (vs := [Str.v (r6)]) Try.underlying36 Try.sizeOf9 Try.zeroValue9 rfl rfl (.cons rfl .nil) (RVs.cons (RV_str.2 rfl) RVs.nil) rfl rfl fun q7 z8 a9 hs o81 r7 hxt hfl => ?_)
      have hfr := hfr.stp hs
      have n0 := n0.stp hs
      have i1 := i1.stp hs
      have j1 := j1.stp hs rfl
      have j0 := j0.stp hs
      obtain ⟨b9, b7, h⟩ := bsome h
      refine EL_do .plain rfl (D_append (g := q7) (i := 1004) Try.underlying36 info_9 rfl rfl j1 i1 rfl r7 b7 fun t7 c9 t6 hs o82 u7 _ => ?_)
      have hfr := hfr.stp hs
      have n0 := n0.stp hs
      have j0 := j0.stp hs
      refine EL_at t6 rfl rfl ?_
      refine EL_nil (blk_n ?_)
      obtain rfl := sinj h
      exact hQ _ _ ⟨t7, (t6), hfr, m4, n0, rfl, u7, o82, p3, j0, q3, i2⟩
     ·clear hx
      obtain ⟨v7, z5, hfr, a6, b6, c6, d6, e6, z4, c5, d5, i5⟩ := hR
      refine E_region (EL_in (.int .i64 ((w64 (o0 + (1 : Int))))) i5 rfl rfl rfl ?_)
      refine EL_mw (.int .i64 ((w64 (o0 + (1 : Int))))) rfl rfl ?_
      exact EL_nil (thn_n (y6 (i3, (w64 (o0 + (1 : Int)))) _ _ ⟨v7, (z5), hfr, a6, b6, c6, d6, e6, z4, c5, d5, rfl⟩ h))
    ·refine E_cf c4 rfl ?_
     refine E_exit ?_
     refine thn_e ?_
     refine thn_e ?_
     refine blk_hit ?_
     obtain rfl := sinj h
     exact hQ _ _ ⟨o3, (y5), hfr, n4, i1, j1⟩
   ·clear hx
    obtain ⟨d9, o4, hfr, i6, j6, k6⟩ := hR
    refine E_seq (E_region (EL_mv i6 rfl ?_))
    refine EL_at o4 rfl rfl ?_
    refine EL_at (.int .i64 (0)) rfl rfl ?_
    refine EL_nil (thn_n (E_ret ?_))
    obtain rfl := sinj h
    obtain ⟨gh, hxh, homh⟩ := OM.hand (i := iO) plain_str hfr k6 j6
    exact end2 rfl rfl (show _ = o4 from rfl) (show _ = .int .i64 (0) from rfl) ⟨gh, hxh, _, _, rfl, homh, rfl⟩
/-- (griffe/fault.loom).round -/
def f55 (x0 : FaultFaultLoom) (x1 : List FaultDamage) : Option ((List Str)) :=
 (f76 ((((x0).FaultLoom).Design).Rows)).bind fun y7 =>
 (f77 x1).bind fun k9 =>
 (f78 k9 ((fun a0 a1 => f79 a0 a1))).bind fun c4 =>
 Option.bind (α := (List Int) × (List (Int × Bool))) (
  lp (σ := (List Int) × (List (Int × Bool)) × Int) (fun l9 (t5, u5, o0) =>
   bif (decide (o0 < ((c4).length : Int))) then
    Option.bind (α := (List Int) × (List (Int × Bool))) (
     (idx c4 o0).bind fun m7 =>
     (fchg ((m7).Kind) x0 m7 t5 u5).bind fun n7 =>
     some (n7.1, n7.2)
     ) fun (o4, p4) =>
    l9 (o4, p4, (w64 (o0 + (1 : Int))))
   else
    some (t5, u5)
   ) big (y7, ([] : List (Int × Bool)), (0 : Int))
  ) fun (u4, d3) =>
 (f82 (((x0).FaultLoom).Harness) ((⟨(((x0).FaultLoom).Design).Hooks, u4⟩ : Design))).bind fun i3 =>
 Option.bind (α := (List Str)) (
  lp (σ := (List Str) × Int) (fun o7 (z1, j0) =>
   bif (decide (j0 < ((i3.1).length : Int))) then
    Option.bind (α := (List Str)) (
     (idx z1 j0).bind fun z4 =>
     Option.bind (α := (List UInt8)) (
      lp (σ := (List UInt8) × (List (Int × Bool))) (fun k156 (d2, j4) =>
       bif j4.isEmpty then
        some (d2)
       else pickAll j4 fun j3 rm158 =>
        (idx d2 j3.1).bind fun _s9 =>
        k156 ((List.set d2 (Int.toNat j3.1) ((46 : UInt8))), rm158)
       ) big ((z4).b, d3)
      ) fun o3 =>
     (idx z1 j0).bind fun _t9 =>
     some ((List.set z1 (Int.toNat j0) ((⟨o3⟩ : Str))))
     ) fun d4 =>
    o7 (d4, (w64 (j0 + (1 : Int))))
   else
    some (z1)
   ) big (i3.1, (0 : Int))
  ) fun c5 =>
 some (c5)
theorem en55 : Enters Try.prog 55 := enters_of Try.func55 (by kernel_rfl) rfl
theorem wk55 {gI : Gh} {wI : World} {x0 : FaultFaultLoom} {x1 : List FaultDamage} {up0 : Value} (rp0 : RV gI.m wI x0 up0) {up1 : Value} (rp1 : RV gI.m wI x1 up1) {r : (List Str)} (h : f55 x0 x1 = some r) : Fn Try.prog 55 #[up0, up1] gI wI (fun m w v => RV m w (r) v) := by
 unfold f55 at h
 refine fn_of_E Try.func55 rfl (Nat.le_of_ble_eq_true rfl) fun g0 hm hfr => ?_
 have rp0 : RV g0.m wI x0 up0 := hm ▸ rp0
 have rp1 : RV g0.m wI x1 up1 := hm ▸ rp1
 show E _ 79 none _ _ _ _ _
 refine E_seq (E_region (EL_do .plain rfl (D_box (g := g0) rfl rp0 fun g1 w1 p1 hs q1 => ?_)))
 have hfr := hfr.ext hs
 have rp1 := rp1.ext hs
 refine EL_at (.slice none 0 0) rfl rfl ?_
 refine EL_nil (thn_n (E_seq (E_region (EL_pur (v := fPtr p1 0) (P_fieldAddr at_98_0 rfl (PT.ptr q1)) .plain rfl ?_))))
 have q2 := PT_field (part_FaultFaultLoom_0).1 q1
 refine EL_pur (v := fPtr (fPtr p1 0) 2) (P_fieldAddr at_28_1 rfl (PT.ptr q2)) .plain rfl ?_
 have q3 := PT_field (part_FaultLoom_1).1 q2
 refine EL_pur (v := fPtr (fPtr (fPtr p1 0) 2) 1) (P_fieldAddr at_26_1 rfl (PT.ptr q3)) .plain rfl ?_
 have q4 := PT_field (part_Design_1).1 q3
 refine EL_do .plain rfl (D_load (g := g1) Try.isAgg22 Try.sizeOf22 rfl q4 fun v5 r5 => ?_)
 obtain ⟨y7, nA, h⟩ := bsome h
 refine EL_do .plain rfl (D_callG (g := g1) (vs := [v5]) en76 (.cons rfl .nil) (v76_0 (iO := 9018) r5 nA) fun g6 w6_ v6 hs hr => ?_)
 have hfr := hfr.ext hs
 have rp1 := rp1.ext hs
 have q1 := q1.ext hs
 have hm6 := hr
 refine EL_do .plain rfl (D_makeMap (g := g6) (Value.int .i64) Bool 8019 fun g8 w8 v8 hs m8 => ?_)
 have hfr := hfr.stp hs
 have rp1 := rp1.stp hs
 have q1 := q1.stp hs
 have hm6 := hm6.stp hs rfl
 refine EL_at v6 rfl rfl ?_
 refine EL_at v8 rfl rfl ?_
 refine EL_nil (thn_n (E_seq (E_region (EL_mw up1 rfl rfl ?_))))
 obtain ⟨k9, u9, h⟩ := bsome h
 refine EL_do .plain rfl (D_callG (g := g8) (vs := [up1]) en77 (.cons rfl .nil) (v77_0 (iO := 9021) rp1 u9) fun g9 w9_ v9 hs hr => ?_)
 have hfr := hfr.ext hs
 have q1 := q1.ext hs
 have hm6 := hm6.ext hs
 have m8 := m8.ext hs
 have hm9 := hr
 refine EL_at v9 rfl rfl ?_
 refine EL_nil (thn_n (E_seq (E_region (EL_mw v9 rfl rfl ?_))))
 obtain ⟨c4, x9, h⟩ := bsome h
 refine EL_do .plain rfl (D_callM (g := g9) (i := 9021) (vs := [v9, .func (.func 79) #[] #[]]) en78 (.cons rfl (.cons rfl .nil)) (wk78 hm9 ⟨79, #[], #[], rfl, en79, fun g' w' hch a0 a1 b0 b1 r hu0 hu1 hr => by exact Fn.mono (wk79 hu0 hu1  hr) fun _ _ _ h => RV_int.2 h⟩ x9) fun oA nB kC hs hr => ?_)
 obtain ⟨hrv, b11⟩ := hr
 subst hrv
 have hfr := hfr.stp hs
 have q1 := q1.stp hs
 have hm6 := hm6.stp hs rfl
 have m8 := m8.stp hs rfl
 refine EL_nil (thn_n (E_seq (E_region (EL_do .plain rfl (D_callG (g := oA) (vs := []) en81 .nil (wk81 (i := 8800)) fun pA lC c6 hs m13 => ?_)))))
 have hfr := hfr.ext hs
 have b11 := b11.ext hs
 have q1 := q1.ext hs
 have hm6 := hm6.ext hs
 have m8 := m8.ext hs
 refine EL_at c6 rfl rfl ?_
 refine EL_nil (thn_n ?_)
 obtain ⟨⟨u4, d3⟩, hx, h⟩ := bsome h
 refine E_join (fun e w => ∃ (g : Gh) , Fr gI wI g w ∧ e 2 = p1 ∧ PT g.m w (x0 : FaultFaultLoom) p1 ∧ e 5 = v6 ∧ OM 9018 g w 3 (u4 : List Int) v6 ∧ e 6 = v8 ∧ MP (Value.int .i64) 8019 g w (d3 : List (Int × Bool)) v8) (fun Q' hQ => ?_) (fun oB mC hR => ?_)
 ·replace h := hx
  clear hx
  refine E_seq (E_region (EL_mw v9 rfl rfl ?_))
  refine EL_pur (v := .int .i64 ((c4).length : Int)) (P_lenM Try.underlying29 rfl b11) .plain rfl ?_
  refine EL_mw (.int .i64 (0)) rfl rfl ?_
  refine EL_nil (thn_n (E_block ?_))
  refine E_lp h (fun (s : (List Int) × (List (Int × Bool)) × Int) e w => ∃ (g : Gh) , Fr gI wI g w ∧ e 1 = v9 ∧ OM 9021 g w 62 (c4 : List FaultDamage) v9 ∧ e 2 = p1 ∧ PT g.m w (x0 : FaultFaultLoom) p1 ∧ e 5 = v6 ∧ OM 9018 g w 3 (s.1 : List Int) v6 ∧ e 6 = v8 ∧ MP (Value.int .i64) 8019 g w (s.2.1 : List (Int × Bool)) v8 ∧ e 7 = c6 ∧ MP (Value.int .i64) 8800 g w chgM c6 ∧ e 25 = v9 ∧ e 26 = .int .i64 (((c4).length : Int)) ∧ e 27 = .int .i64 (s.2.2)) ⟨pA, hfr, rfl, b11, rfl, q1, rfl, hm6, rfl, m8, rfl, m13, rfl, rfl, rfl⟩ (fun X40 l9 y9 => ?_)
  rintro ⟨t5, u5, o0⟩ pB nC ⟨p7, hfr, n8, u0, x5, y0, y5, p3, z5, s3, t6, i1, d6, e6, d5⟩ h
  refine E_seq (E_region (EL_in (.bool ((decide (o0 < ((c4).length : Int))))) d5 e6 rfl rfl ?_))
  refine EL_nil (thn_n (E_seq ?_))
  rcases csome h with ⟨p6, h⟩ | ⟨p6, h⟩
  ·refine E_ct p6 rfl ?_
   refine E_skip (thn_n ?_)
   obtain ⟨⟨o4, p4⟩, hx, h⟩ := bsome h
   refine E_join (fun e w => ∃ (g : Gh) , Fr gI wI g w ∧ e 1 = v9 ∧ OM 9021 g w 62 (c4 : List FaultDamage) v9 ∧ e 2 = p1 ∧ PT g.m w (x0 : FaultFaultLoom) p1 ∧ e 5 = v6 ∧ OM 9018 g w 3 (o4 : List Int) v6 ∧ e 6 = v8 ∧ MP (Value.int .i64) 8019 g w (p4 : List (Int × Bool)) v8 ∧ e 7 = c6 ∧ MP (Value.int .i64) 8800 g w chgM c6 ∧ e 25 = v9 ∧ e 26 = .int .i64 (((c4).length : Int)) ∧ e 27 = .int .i64 (o0)) (fun Q' hQ => ?_) (fun qB oC hR => ?_)
   ·replace h := hx
    clear hx
    refine E_block ?_
    refine E_seq (E_region ?_)
    obtain ⟨m7, q7, h⟩ := bsome h
    refine EL_pur (v := ePtr v9 o0 5) (P_indexAddrM (α := FaultDamage) Try.underlying29 Try.sizeOf62 d6 u0 d5 q7) .plain rfl ?_
    refine EL_do .plain rfl (D_loadM (g := p7) Try.isAgg62 Try.sizeOf62 rfl u0 q7 fun qA r7 => ?_)
    refine EL_do .plain rfl (D_allocOc (g := p7) 2009 (⟨0, 0, 0, 0, false⟩ : FaultDamage) Try.zeroValue62 (fun m w => ⟨_, (rep_two rep_int (rep_two rep_int (rep_two rep_int (rep_two rep_int rep_bool)))), rfl⟩) fun rA pC sA hs b56 cb => ?_)
    have hfr := hfr.stp hs
    have u0 := u0.stp hs rfl
    have y0 := y0.stp hs
    have p3 := p3.stp hs rfl
    have s3 := s3.stp hs rfl
    have i1 := i1.stp hs rfl
    have r7 := r7.stp hs
    clear cb
    refine EL_do .plain rfl (D_storeOc (g := rA) (v := qA) Try.sizeOf62 rfl b56 rfl r7 fun i6 qC hs b57 cb => ?_)
    clear cb
    have hfr := hfr.stp hs
    have u0 := u0.stp hs rfl
    have y0 := y0.stp hs
    have p3 := p3.stp hs rfl
    have s3 := s3.stp hs rfl
    have i1 := i1.stp hs rfl
    refine EL_nil (thn_n (E_region (EL_mv t6 rfl ?_)))
    refine EL_pur (v := fPtr sA 0) (P_fieldAddr at_62_0 rfl (OB.ptr b57)) .plain rfl ?_
    refine EL_do .plain rfl (D_loadF (g := i6) part_FaultDamage_0.1 Try.isAgg60 Try.sizeOf60 rfl b57 fun rC tA => ?_)
    obtain rfl := RV_int.1 tA
    refine EL_do .plain rfl (D_lookup (g := i6) (z0 := fv0) Try.underlying130 key_60 Try.zeroValue133 (fun _ _ => RV_fv.2 rfl) rfl i1 rfl fun sC uA => ?_)
    have z9 := RV_fv.1 uA
    refine EL_do .plain rfl (D_load (g := i6) Try.isAgg98 Try.sizeOf98 x5 y0 fun tC vA => ?_)
    refine EL_do .plain rfl (D_loadO (g := i6) Try.isAgg62 Try.sizeOf62 rfl b57 fun v62 xA => ?_)
    refine EL_mv y5 rfl ?_
    refine EL_mv z5 rfl ?_
    obtain ⟨n7, aA, h⟩ := bsome h
    refine EL_do .plain rfl (D_chg (g := i6) (i := 9018) (j := 8019) aA (show _ = _ from z9) rfl rfl rfl rfl vA xA p3 s3 rfl rfl fun uC vC bA rB xC hs hs2 mr63 mb63 => ?_)
    have hfr := hfr.stp hs
    have u0 := u0.stp hs rfl
    have y0 := y0.stp hs
    have i1 := i1.stp hs rfl
    have hfr := hfr.stp hs2
    have u0 := u0.stp hs2 rfl
    have y0 := y0.stp hs2
    have i1 := i1.stp hs2 rfl
    refine EL_nil (blk_n ?_)
    obtain ⟨rfl, rfl⟩ := pairs2 h
    exact hQ _ _ ⟨bA, hfr, n8, u0, x5, y0, y5, mr63, z5, mb63, t6, i1, d6, e6, d5⟩
   ·clear hx
    obtain ⟨yA, hfr, o8, p8, q8, r8, t8, x8, y8, z8, a9, b9, t7, u7, v7⟩ := hR
    refine E_region (EL_in (.int .i64 ((w64 (o0 + (1 : Int))))) v7 rfl rfl rfl ?_)
    refine EL_mw (.int .i64 ((w64 (o0 + (1 : Int))))) rfl rfl ?_
    exact EL_nil (thn_n (y9 (o4, p4, (w64 (o0 + (1 : Int)))) _ _ ⟨yA, hfr, o8, p8, q8, r8, t8, x8, y8, z8, a9, b9, t7, u7, rfl⟩ h))
  ·refine E_cf p6 rfl ?_
   refine E_exit ?_
   refine thn_e ?_
   refine thn_e ?_
   refine blk_hit ?_
   obtain ⟨rfl, rfl⟩ := pairs2 h
   exact hQ _ _ ⟨p7, hfr, x5, y0, y5, p3, z5, s3⟩
 ·clear hx
  obtain ⟨m9, hfr, u6, x4, c9, d9, e9, i4⟩ := hR
  refine E_seq (E_region (EL_pur (v := fPtr p1 0) (P_fieldAddr at_98_0 u6 (PT.ptr x4)) .plain rfl ?_))
  have n9 := PT_field (part_FaultFaultLoom_0).1 x4
  refine EL_pur (v := fPtr (fPtr p1 0) 0) (P_fieldAddr at_28_0 rfl (PT.ptr n9)) .plain rfl ?_
  have zA := PT_field (part_FaultLoom_0).1 n9
  refine EL_do .plain rfl (D_load (g := m9) Try.isAgg24 Try.sizeOf24 rfl zA fun aB x7 => ?_)
  refine EL_pur (v := fPtr p1 0) (P_fieldAddr at_98_0 u6 (PT.ptr x4)) .plain rfl ?_
  have o9 := PT_field (part_FaultFaultLoom_0).1 x4
  refine EL_pur (v := fPtr (fPtr p1 0) 2) (P_fieldAddr at_28_1 rfl (PT.ptr o9)) .plain rfl ?_
  have p9 := PT_field (part_FaultLoom_1).1 o9
  refine EL_pur (v := fPtr (fPtr (fPtr p1 0) 2) 0) (P_fieldAddr at_26_0 rfl (PT.ptr p9)) .plain rfl ?_
  have bB := PT_field (part_Design_0).1 p9
  refine EL_do .plain rfl (D_load (g := m9) Try.isAgg3 Try.sizeOf3 rfl bB fun yC cB => ?_)
  obtain rfl := RV_int.1 cB
  refine EL_mv c9 rfl ?_
  obtain ⟨gp75, hs, rp75⟩ := OM.pub d9
  have hfr := hfr.stp hs
  have i4 := i4.stp hs rfl
  have x7 := x7.stp hs
  have q9 : RV gp75.m _ (⟨(((x0).FaultLoom).Design).Hooks, u4⟩ : Design) (.agg (setCh [[.int .i64 0], [.slice none 0 0]] [(0, .int .i64 ((((x0).FaultLoom).Design).Hooks)), (1, v6)]).flatten.toArray) := RV_build rfl (rep_pair (rfl) (rep_last (RV.cells rp75)))
  generalize cA : (Value.agg (setCh [[.int .i64 0], [.slice none 0 0]] [(0, .int .i64 ((((x0).FaultLoom).Design).Hooks)), (1, v6)]).flatten.toArray) = r9 at q9
  refine EL_pur (v := r9) (cA ▸ P_build (vs := [(0, .int .i64 ((((x0).FaultLoom).Design).Hooks)), (1, v6)]) [[.int .i64 0], [.slice none 0 0]] lay_26 rfl rfl (.cons rfl (.cons rfl .nil)) ⟨⟨_, rfl, rfl⟩, ⟨⟨_, rfl, cells_size rp75⟩, trivial⟩⟩) .plain rfl ?_
  obtain ⟨i3, dA, h⟩ := bsome h
  refine EL_do .plain rfl (D_callG (g := gp75) (vs := [aB, r9]) en82 (.cons rfl (.cons rfl .nil)) (v82_0 (iO := 9051) x7 q9 dA) fun dB sB zC hs hr => ?_)
  have hfr := hfr.ext hs
  have i4 := i4.ext hs
  obtain ⟨n0, eB, rfl, hm76, rfl⟩ := hr
  refine EL_mw (.tuple #[n0, .int .i64 (i3.2)]) rfl rfl ?_
  refine EL_pur (v := n0) (P_extract rfl rfl) .plain rfl ?_
  refine EL_pur (v := .int .i64 (i3.2)) (P_extract rfl rfl) .plain rfl ?_
  refine EL_at n0 rfl rfl ?_
  refine EL_nil (thn_n ?_)
  obtain ⟨c5, hx, h⟩ := bsome h
  refine E_join (fun e w => ∃ (g : Gh) , Fr gI wI g w ∧ e 4 = n0 ∧ OM 9051 g w 9 (c5 : List Str) n0) (fun Q' hQ => ?_) (fun iB tB hR => ?_)
  ·replace h := hx
   clear hx
   refine E_seq (E_region (EL_mw n0 rfl rfl ?_))
   refine EL_pur (v := .int .i64 ((i3.1).length : Int)) (P_lenM Try.underlying36 rfl hm76) .plain rfl ?_
   refine EL_mw (.int .i64 (0)) rfl rfl ?_
   refine EL_nil (thn_n (E_block ?_))
   refine E_lp h (fun (s : (List Str) × Int) e w => ∃ (g : Gh) , Fr gI wI g w ∧ e 4 = n0 ∧ OM 9051 g w 9 (s.1 : List Str) n0 ∧ e 6 = v8 ∧ MP (Value.int .i64) 8019 g w (d3 : List (Int × Bool)) v8 ∧ e 54 = n0 ∧ e 55 = .int .i64 (((i3.1).length : Int)) ∧ e 56 = .int .i64 (s.2)) ⟨dB, hfr, rfl, hm76, e9, i4, rfl, rfl, rfl⟩ (fun X122 o7 i9 => ?_)
   rintro ⟨z1, j0⟩ jB uB ⟨q6, hfr, j6, j1, k6, i2, j5, l5, u3⟩ h
   refine E_seq (E_region (EL_in (.bool ((decide (j0 < ((i3.1).length : Int))))) u3 l5 rfl rfl ?_))
   refine EL_nil (thn_n (E_seq ?_))
   rcases csome h with ⟨a6, h⟩ | ⟨a6, h⟩
   ·refine E_ct a6 rfl ?_
    refine E_skip (thn_n ?_)
    obtain ⟨d4, hx, h⟩ := bsome h
    refine E_join (fun e w => ∃ (g : Gh) , Fr gI wI g w ∧ e 4 = n0 ∧ OM 9051 g w 9 (d4 : List Str) n0 ∧ e 6 = v8 ∧ MP (Value.int .i64) 8019 g w (d3 : List (Int × Bool)) v8 ∧ e 54 = n0 ∧ e 55 = .int .i64 (((i3.1).length : Int)) ∧ e 56 = .int .i64 (j0)) (fun Q' hQ => ?_) (fun kB vB hR => ?_)
    ·replace h := hx
     clear hx
     refine E_block ?_
     refine E_seq (E_region (EL_mv u3 rfl ?_))
     obtain ⟨z4, x6, h⟩ := bsome h
     refine EL_pur (v := ePtr n0 j0 1) (P_indexAddrM (α := Str) Try.underlying36 Try.sizeOf9 j5 j1 u3 x6) .plain rfl ?_
     refine EL_do .plain rfl (D_loadM (g := q6) Try.isAgg9 Try.sizeOf9 rfl j1 x6 fun xB eA => ?_)
     obtain rfl := RV_str.1 eA
     refine EL_at (.int .i64 (j0)) rfl rfl ?_
     refine EL_at (Str.v (z4)) rfl rfl ?_
     refine EL_nil (thn_n (E_seq (E_region (EL_mw (Str.v (z4)) rfl rfl ?_))))
     refine EL_do .plain rfl (D_convSB (g := q6) (s := z4) 9062 Try.underlying9 Try.underlying80 Try.underlying5 rfl fun gA yB m4 hs m147 => ?_)
     have hfr := hfr.stp hs
     have j1 := j1.stp hs rfl
     have i2 := i2.stp hs rfl
     refine EL_at m4 rfl rfl ?_
     refine EL_nil (thn_n ?_)
     obtain ⟨o3, hx, h⟩ := bsome h
     refine E_join (fun e w => ∃ (g : Gh) , Fr gI wI g w ∧ e 4 = n0 ∧ OM 9051 g w 9 (z1 : List Str) n0 ∧ e 6 = v8 ∧ MP (Value.int .i64) 8019 g w (d3 : List (Int × Bool)) v8 ∧ e 10 = .int .i64 (j0) ∧ e 12 = m4 ∧ OM 9062 g w 5 (o3 : List UInt8) m4 ∧ e 54 = n0 ∧ e 55 = .int .i64 (((i3.1).length : Int)) ∧ e 56 = .int .i64 (j0)) (fun Q' hQ => ?_) (fun lB zB hR => ?_)
     ·replace h := hx
      clear hx
      refine E_seq (E_region (EL_mv k6 rfl ?_))
      refine EL_do .plain rfl (D_rangeM (g := gA) 7564 Try.underlying126 rfl i2 fun iA aC z7 hs b155 => ?_)
      have hfr := hfr.stp hs
      have j1 := j1.stp hs rfl
      have i2 := i2.stp hs rfl
      have m147 := m147.stp hs rfl
      refine EL_nil (thn_n (E_block ?_))
      refine E_lp h (fun (s : (List UInt8) × (List (Int × Bool))) e w => ∃ (g : Gh) , Fr gI wI g w ∧ e 4 = n0 ∧ OM 9051 g w 9 (z1 : List Str) n0 ∧ e 6 = v8 ∧ MP (Value.int .i64) 8019 g w (d3 : List (Int × Bool)) v8 ∧ e 10 = .int .i64 (j0) ∧ e 12 = m4 ∧ OM 9062 g w 5 (s.1 : List UInt8) m4 ∧ e 54 = n0 ∧ e 55 = .int .i64 (((i3.1).length : Int)) ∧ e 56 = .int .i64 (j0) ∧ e 64 = z7 ∧ MI (Value.int .i64) 7564 8019 g w (s.2 : List (Int × Bool)) none z7) ⟨iA, hfr, j6, j1, k6, i2, rfl, rfl, m147, j5, l5, u3, rfl, b155.dropc⟩ (fun X156 k156 j9 => ?_)
      rintro ⟨d2, j4⟩ mB bC ⟨r6, hfr, l6, j2, m6, s2, m5, n4, z2, n5, o5, p5, z3, q5⟩ h
      refine E_seq (E_region ?_)
      rcases csome h with ⟨b6, h⟩ | ⟨b6, h⟩
      ·refine EL_do .plain rfl (D_nextM_f (g := r6) z3 q5 b6 ?_)
       refine EL_pur (v := .bool false) (P_extract rfl rfl) .plain rfl ?_
       refine EL_nil (thn_n (E_seq (E_cond_false (by rw [show ev _ _ = _ from rfl]; exact congrArg Value.bool rfl) ?_)))
       refine E_exit ?_
       refine thn_e ?_
       refine thn_e ?_
       refine blk_hit ?_
       obtain rfl := sinj h
       exact hQ _ _ ⟨r6, hfr, l6, j2, m6, s2, m5, n4, z2, n5, o5, p5⟩
      ·refine EL_do .plain rfl (D_nextM_t (g := r6) z3 q5 rfl b6 fun j3 rm158 u158 a8 cC hmem hs b158 ru158 => ?_)
       replace h := pickAll_h h _ hmem
       clear hmem
       obtain rfl := RV_bool.1 ru158
       have hfr := hfr.stp hs
       have j2 := j2.stp hs rfl
       have s2 := s2.stp hs rfl
       have z2 := z2.stp hs rfl
       refine EL_pur (v := .bool true) (P_extract rfl rfl) .plain rfl ?_
       refine EL_nil (thn_n (E_seq (E_cond_true (by rw [show ev _ _ = _ from rfl]; exact congrArg Value.bool rfl) ?_)))
       refine E_skip (thn_n (E_block ?_))
       refine E_seq (E_region (EL_do .plain rfl (D_entry (g := a8) z3 b158 fun dC jA => ?_)))
       obtain rfl := RV_bool.1 jA
       refine EL_pur (v := .int .i64 (j3.1)) (P_extract rfl rfl) .plain rfl ?_
       refine EL_at (.int .i64 (j3.1)) rfl rfl ?_
       refine EL_nil (thn_n (E_region (EL_mv n4 rfl ?_)))
       refine EL_mw (.int .i64 (j3.1)) rfl rfl ?_
       obtain ⟨s9, y6, h⟩ := bsome h
       refine EL_pur (v := ePtr m4 j3.1 1) (P_indexAddrM (α := UInt8) Try.underlying80 Try.sizeOf5 rfl z2 rfl y6) .plain rfl ?_
       refine EL_do .plain rfl (D_storeM (g := a8) (α := UInt8) (a' := ((46 : UInt8))) Try.sizeOf5 rfl z2 y6 rfl (RV_u8.2 rfl) fun kA eC hs b161 => ?_)
       have hfr := hfr.stp hs
       have j2 := j2.stp hs rfl
       have s2 := s2.stp hs rfl
       have b158 := b158.stp hs rfl
       exact EL_nil (blk_n (thn_n (j9 ((List.set d2 (Int.toNat j3.1) ((46 : UInt8))), rm158) _ _ ⟨kA, hfr, l6, j2, m6, s2, m5, n4, b161, n5, o5, p5, z3, b158.dropc⟩ h)))
     ·clear hx
      obtain ⟨b8, hfr, n6, o6, c8, i5, a7, b7, c7, d7, e7, g7⟩ := hR
      refine E_region (EL_mv n6 rfl ?_)
      refine EL_mv a7 rfl ?_
      refine EL_mv b7 rfl ?_
      refine EL_do .plain rfl (D_convBS (g := b8) Try.underlying80 Try.underlying9 Try.underlying5 rfl c7 ?_)
      obtain ⟨t9, z6, h⟩ := bsome h
      refine EL_pur (v := ePtr n0 j0 1) (P_indexAddrM (α := Str) Try.underlying36 Try.sizeOf9 rfl o6 rfl z6) .plain rfl ?_
      refine EL_do .plain rfl (D_storeM (g := b8) (α := Str) (a' := ((⟨o3⟩ : Str))) Try.sizeOf9 rfl o6 z6 rfl (RV_str.2 rfl) fun lA iC hs b164 => ?_)
      have hfr := hfr.stp hs
      have i5 := i5.stp hs rfl
      refine EL_nil (blk_n ?_)
      obtain rfl := sinj h
      exact hQ _ _ ⟨lA, hfr, n6, b164, c8, i5, d7, e7, g7⟩
    ·clear hx
     obtain ⟨mA, hfr, d8, e8, i8, j8, i7, j7, l7⟩ := hR
     refine E_region (EL_in (.int .i64 ((w64 (j0 + (1 : Int))))) l7 rfl rfl rfl ?_)
     refine EL_mw (.int .i64 ((w64 (j0 + (1 : Int))))) rfl rfl ?_
     exact EL_nil (thn_n (i9 (d4, (w64 (j0 + (1 : Int)))) _ _ ⟨mA, hfr, d8, e8, i8, j8, i7, j7, rfl⟩ h))
   ·refine E_cf a6 rfl ?_
    refine E_exit ?_
    refine thn_e ?_
    refine thn_e ?_
    refine blk_hit ?_
    obtain rfl := sinj h
    exact hQ _ _ ⟨q6, hfr, j6, j1⟩
  ·clear hx
   obtain ⟨jC, hfr, k8, l8⟩ := hR
   refine E_seq (E_region (EL_mv k8 rfl ?_))
   refine EL_at n0 rfl rfl ?_
   refine EL_nil (thn_n (E_ret ?_))
   obtain ⟨gp167, hs, rp167⟩ := OM.pub l8
   have hfr := hfr.stp hs
   obtain rfl := sinj h
   exact end1 rfl rfl (show _ = n0 from rfl) ⟨_, hfr, rp167⟩
/-- (griffe/fault.loom).showing -/
def f64 (x0 : FaultFaultLoom) (σ : Type) (cons : Cons σ (FaultDamage × (List Str))) (s0 : σ) : Option σ :=
 (f55 x0 ([])).bind fun y5 =>
 ((fun σ cons s => f90 x0 σ cons s) (Nat × σ) (guardC fun d2 i1 =>
  (f55 x0 (([i1] : List FaultDamage))).bind fun y44 =>
  Option.bind (α := σ × Bool) (
   (f71 y44 y5).bind fun y55 =>
   bif (!y55) then
    (cons d2 (i1, y44)).bind fun (yb59, ys59) =>
    some (ys59, (!yb59))
   else
    some (d2, false)
   ) fun (cs_61, s26_61) =>
  bif s26_61 then
   some (false, ((1 : Nat), (cs_61)))
  else
   some (true, ((0 : Nat), (cs_61)))
  ) (0, (s0))).bind fun (j1, i2) =>
 bif Nat.beq j1 0 then
  some i2
 else
  some i2
theorem en64 : Enters Try.prog 64 := enters_of Try.func64 (by kernel_rfl) rfl
theorem wk64 {σ : Type} {cons : Cons σ (FaultDamage × (List Str))} {s0 r : σ} {gI : Gh} {wI : World} {x0 : FaultFaultLoom} {up0 : Value} (rp0 : RV gI.m wI x0 up0) (h : f64 x0 σ cons s0 = some r) : IterC Try.prog (RA2 (α := FaultDamage) (β := (List Str))) 64 #[up0] #[] gI wI cons s0 r := by
 unfold f64 at h
 refine iterD_of_E Try.func64 rfl (Nat.le_of_ble_eq_true rfl) fun l B J g0 hm hAb hRo hfr => ?_
 have hmk : MkF g0 wI [] := MkF.start
 have rp0 : RV g0.m wI x0 up0 := hm ▸ rp0
 show E _ 27 none _ _ (envAt #[up0, .func (.yield l) #[] #[]]) _ _
 refine E_seq (E_region (EL_do .plain rfl (D_box (g := g0) rfl rp0 fun g1 w1 p1 hs q1 => ?_)))
 have hfr := hfr.ext_ hAb hs
 have hmk := hmk.ext hs
 refine EL_do .plain rfl (D_box (g := g1) (a := (⟨(.func (.yield l) #[] #[]), rfl⟩ : Fv)) rfl (RV_fv.2 rfl) fun g2 w2 p2 hs q2 => ?_)
 have hfr := hfr.ext_ hAb hs
 have hmk := hmk.ext hs
 have q1 := q1.ext hs
 refine EL_nil (thn_n (E_seq (E_region (EL_do .plain rfl (D_load (g := g2) Try.isAgg98 Try.sizeOf98 rfl q1 fun v3 r3 => ?_)))))
 obtain ⟨y5, c5, h⟩ := bsome h
 refine EL_do .plain rfl (D_call (g := g2) (vs := [v3, .slice none 0 0]) en55 (.cons rfl (.cons rfl .nil)) (wk55 r3 RV_nil c5) fun g4 w4_ v4 hs hr => ?_)
 have hfr := hfr.ext_ hAb hs
 have hmk := hmk.ext hs
 have q1 := q1.ext hs
 have q2 := q2.ext hs
 have r4 := hr
 refine EL_do .plain rfl (D_allocOc (g := g4) 2004 ([] : List Str) Try.zeroValue36 (fun m w => ⟨_, rep_nil, rfl⟩) fun g6 w6 p6 hs b6 cb => ?_)
 have hfr := hfr.stp_ hAb hs rfl
 have hmk := hmk.stp hs
 have q1 := q1.stp hs
 have q2 := q2.stp hs
 have r4 := r4.stp hs
 have n6 : OSF 2004 60400 0 g6 w6 9 36 ([] : List Str) p6 := cb.osf (by rfl)
 clear cb
 refine EL_do .plain rfl (D_storeOc (g := g6) (v := v4) Try.sizeOf36 rfl b6 rfl r4 fun g7 w7 hs b7 cb => ?_)
 clear cb
 have hfr := hfr.stp_ hAb hs rfl
 have hmk := hmk.stp hs
 have q1 := q1.stp hs
 have q2 := q2.stp hs
 refine EL_nil (thn_n (E_seq (E_region (EL_do .plain rfl (D_load (g := g7) Try.isAgg98 Try.sizeOf98 rfl q1 fun v8 r8 => ?_)))))
 refine EL_pur (v := (.func (.func 90) #[v8] #[])) (P_makeFunc (capf_1_0 (show ev _ _ = v8 from rfl))) .plain rfl ?_
 refine EL_nil (thn_n (E_block ?_))
 have hB0 := hfr.hB
 have hmk0 := hmk
 obtain ⟨⟨j1, i2⟩, hφ, h⟩ := bsome h
 refine E_rangeFunc (σ := (Nat × σ)) (s0 := (0, (s0))) 10 rfl (fun s => s.1) [.ret] (fun (s : Nat × σ) (g : Gh) (w : World) => FrY gI wI B J (s.2) g w ∧ MkF g w [] ∧ PT g.m w (x0 : FaultFaultLoom) p1 ∧ PT g.m w (⟨(.func (.yield l) #[] #[]), rfl⟩ : Fv) p2 ∧ OB 2004 g w 36 (y5 : List Str) p6) rfl (show ItV Try.prog (RA1 (α := FaultDamage)) (fun σ cons s => f90 x0 σ cons s) ((.func (.func 90) #[v8] #[])) g7.m w7 from ⟨90, #[v8], #[], rfl, en90, fun g' w' hch σ cons s s' h => wk90 (r8.ch hch)  h⟩) hφ (fun _ _ _ h => (guardC_h h).1) rfl ra1_size rfl (fun _ _ _ _ _ hx hR => by obtain ⟨hfr, hmk, z2, z3, z4⟩ := hR; exact ⟨hfr.ist_ hAb hx hB0, hmk.ist hx, z2.ist hx, z3.ist hx, z4.ist hx⟩) (fun _ _ _ _ _ hx hR => by obtain ⟨hfr, hmk, z2, z3, z4⟩ := hR; exact ⟨hfr.stp_ hAb hx rfl, hmk.stp hx, z2.stp hx, z3.stp hx, z4.stp hx rfl⟩) ⟨hfr, hmk, q1, q2, b7⟩ (fun _ h => by cases h) ?_ ?_
 ·intro p4 j4 s x b s2 u3 n4 vs hsz h hR hrec_0 c4 hrd
  obtain ⟨hs0, h⟩ := guardC_h h
  obtain ⟨st, d2⟩ := s
  obtain ⟨hfr, hmk, n0, o0, u0⟩ := hR
  obtain ⟨i1, hxe⟩ : ∃ y, y = x := ⟨x, rfl⟩
  subst hxe
  obtain ⟨m4, rfl, z1⟩ := ra1_get hrd
  have j0 := RFr.refl u3 n4
  refine E_region (EL_do .plain rfl (D_allocOc (g := u3) 2005 (⟨0, 0, 0, 0, false⟩ : FaultDamage) Try.zeroValue62 (fun m w => ⟨_, (rep_two rep_int (rep_two rep_int (rep_two rep_int (rep_two rep_int rep_bool)))), rfl⟩) fun d5 t6 u6 hs b37 cb => ?_))
  have hfr := hfr.stp_ hAb hs rfl
  have hmk := hmk.stp hs
  have j0 := j0.stp hs
  have hrec_0 := hrec_0.stp hs rfl
  have n0 := n0.stp hs
  have o0 := o0.stp hs
  have u0 := u0.stp hs rfl
  have z1 := z1.stp hs
  clear cb
  refine EL_do .plain rfl (D_storeOc (g := d5) (v := m4) Try.sizeOf62 rfl b37 rfl z1 fun d4 v6 hs b38 cb => ?_)
  clear cb
  have hfr := hfr.stp_ hAb hs rfl
  have hmk := hmk.stp hs
  have j0 := j0.stp hs
  have hrec_0 := hrec_0.stp hs rfl
  have n0 := n0.stp hs
  have o0 := o0.stp hs
  have u0 := u0.stp hs rfl
  refine EL_nil (thn_n ?_)
  obtain ⟨i5, hbr, hs, hrN⟩ := begin_round hrec_0 c4
  refine ⟨i5, hbr, ?_⟩
  have hfr := hfr.stp_ hAb hs rfl
  have hmk := hmk.stp hs
  have j0 := j0.stp hs
  have n0 := n0.stp hs
  have o0 := o0.stp hs
  have u0 := u0.stp hs rfl
  have b38 := b38.stp hs rfl
  have hrec_0 := hrN
  clear hbr hs hrN
  refine E_block ?_
  refine E_seq (E_region (EL_do .plain rfl (D_load (g := d4) Try.isAgg98 Try.sizeOf98 rfl n0 fun j5 i4 => ?_)))
  refine EL_do .plain rfl (D_loadO (g := d4) Try.isAgg62 Try.sizeOf62 rfl b38 fun l5 m5 => ?_)
  refine EL_do .plain rfl (D_buildSlice (g := d4) 3014 (xs := ([i1] : List FaultDamage)) (vs := [l5]) Try.underlying29 Try.sizeOf62 Try.zeroValue62 rfl rfl (.cons rfl .nil) (RVs.cons m5 RVs.nil) rfl rfl fun n5 x6 o5 hs o42 p5 hxt hfl => ?_)
  have hfr := hfr.stp_ hAb hs rfl
  have hmk := hmk.stp hs
  have j0 := j0.stp hs
  have hrec_0 := hrec_0.stp hs rfl
  have n0 := n0.stp hs
  have o0 := o0.stp hs
  have u0 := u0.stp hs rfl
  have b38 := b38.stp hs rfl
  have i4 := i4.stp hs
  obtain ⟨y44, q4, h⟩ := bsome h
  refine EL_do .plain rfl (D_call (g := n5) (vs := [j5, o5]) en55 (.cons rfl (.cons rfl .nil)) (wk55 i4 p5 q4) fun o4 o6 i3 hs hr => ?_)
  have hfr := hfr.ext_ hAb hs
  have hmk := hmk.ext hs
  have j0 := j0.ext hs
  have hrec_0 := hrec_0.ext hs
  have n0 := n0.ext hs
  have o0 := o0.ext hs
  have u0 := u0.ext hs
  have b38 := b38.ext hs
  have j3 := hr
  refine EL_at i3 rfl rfl ?_
  refine EL_nil (thn_n ?_)
  obtain ⟨⟨cs_61, s26_61⟩, hx, h⟩ := bsome h
  refine E_join (fun e w => ∃ (g : Gh) , FrY gI wI B J (cs_61) g w ∧ MkF g w [] ∧ RFr u3 n4 g w ∧ HB 10 g w p4 (.loop { j4 with state := .busy }) ∧ e 2 = p1 ∧ PT g.m w (x0 : FaultFaultLoom) p1 ∧ e 3 = p2 ∧ PT g.m w (⟨(.func (.yield l) #[] #[]), rfl⟩ : Fv) p2 ∧ e 4 = p6 ∧ OB 2004 g w 36 (y5 : List Str) p6 ∧ e 10 = (.func (.func 90) #[v8] #[]) ∧ e 26 = .bool (s26_61)) (fun Q' hQ => ?_) (fun q6 y6 hR => ?_)
  ·replace h := hx
   clear hx
   refine E_region (EL_mw i3 rfl rfl ?_)
   refine EL_do .plain rfl (D_loadO (g := o4) Try.isAgg36 Try.sizeOf36 rfl u0 fun q5 t5 => ?_)
   obtain ⟨y55, u4, h⟩ := bsome h
   refine EL_do .plain rfl (D_call (g := o4) (vs := [i3, q5]) en71 (.cons rfl (.cons rfl .nil)) (wk71 j3 t5 u4) fun o3 r6 z6 hs hr => ?_)
   have hfr := hfr.ext_ hAb hs
   have hmk := hmk.ext hs
   have j0 := j0.ext hs
   have hrec_0 := hrec_0.ext hs
   have n0 := n0.ext hs
   have o0 := o0.ext hs
   have u0 := u0.ext hs
   have b38 := b38.ext hs
   have j3 := j3.ext hs
   subst hr
   refine EL_pur (v := .bool (!y55)) (P_not rfl) .plain rfl ?_
   refine EL_mw (.bool (!y55)) rfl rfl ?_
   rcases csome h with ⟨y0, h⟩ | ⟨y0, h⟩
   ·refine EL_do (.yes2 rfl rfl y0) rfl (D_load (α := Fv) (g := o3) Try.isAgg141 Try.sizeOf141 rfl o0 fun a7 u5 => ?_)
    obtain rfl := RV_fv.1 u5
    refine EL_do (.yes2 rfl rfl y0) rfl (D_loadO (g := o3) Try.isAgg62 Try.sizeOf62 rfl b38 fun c7 x5 => ?_)
    refine EL_pur (v := i3) (P_move rfl) (.yes2 rfl rfl y0) rfl ?_
    obtain ⟨z5, x4, h⟩ := bsome h
    obtain ⟨yb59, ys59⟩ := z5
    refine EL_do (.yes2 rfl rfl y0) rfl (D_yield (g := o3) (x := (i1, y44)) rfl (.cons rfl (.cons rfl .nil)) hRo hfr x4 ⟨_, _, rfl, x5, j3⟩ fun a6 d7 hs hfrY => ?_)
    have hmk := hmk.stp hs
    have j0 := j0.stp hs
    have hrec_0 := hrec_0.stp hs rfl
    have n0 := n0.stp hs
    have o0 := o0.stp hs
    have u0 := u0.stp hs rfl
    have hfr := hfrY
    clear hfrY
    refine EL_pur (v := .bool (!yb59)) (P_not rfl) (.yes2 rfl rfl y0) rfl ?_
    refine EL_pur (v := .bool (!yb59)) (P_pick (b := (!y55)) rfl (pick_t y0 rfl)) .plain rfl ?_
    refine EL_nil ?_
    obtain ⟨rfl, rfl⟩ := pairs2 h
    exact hQ _ _ ⟨a6, hfr, hmk, j0, hrec_0, rfl, n0, rfl, o0, rfl, u0, rfl, rfl⟩
   ·refine EL_skip (.no2 rfl rfl y0 rfl) rfl ?_
    refine EL_skip (.no2 rfl rfl y0 rfl) rfl ?_
    refine EL_skip (.no2 rfl rfl y0 rfl) rfl ?_
    refine EL_skip (.no2 rfl rfl y0 rfl) rfl ?_
    refine EL_skip (.no2 rfl rfl y0 rfl) rfl ?_
    refine EL_pur (v := .bool false) (P_pick (b := (!y55)) rfl (pick_f y0 rfl)) .plain rfl ?_
    refine EL_nil ?_
    obtain ⟨rfl, rfl⟩ := pairs2 h
    exact hQ _ _ ⟨o3, hfr, hmk, j0, hrec_0, rfl, n0, rfl, o0, rfl, u0, rfl, rfl⟩
  ·clear hx
   obtain ⟨e7, hfr, hmk, j0, hrec_0, d6, p3, e6, q3, i6, s3, c6, j2⟩ := hR
   rcases csome h with ⟨d3, h⟩ | ⟨d3, h⟩
   ·refine E_cond_true (Eq.trans (show ev _ _ = .bool (s26_61) from j2) (congrArg Value.bool d3)) ?_
    refine E_ret (blk_r ?_)
    obtain ⟨rfl, rfl⟩ := pairs2 h
    exact ⟨_, j0, ⟨hfr, hmk, p3, q3, s3⟩, hrec_0, rfl, 0, rfl, rfl⟩
   ·refine E_cond_false (Eq.trans (show ev _ _ = .bool (s26_61) from j2) (congrArg Value.bool d3)) ?_
    refine E_skip (blk_n ?_)
    obtain ⟨rfl, rfl⟩ := pairs2 h
    exact ⟨_, j0, ⟨hfr, hmk, p3, q3, s3⟩, hrec_0, rfl, rfl⟩
 ·intro i7 w64 ds64 hsz hR hds
  obtain ⟨hfr, hmk, j6, k6, l6⟩ := hR
  obtain ⟨D, hdse, hD, hDb⟩ := hds.1 rfl
  subst hdse
  replace hmk := MkF.push hmk0 hmk hD hDb
  clear hD hDb hds
  revert hmk
  generalize ({ target := .collected D, args := #[] } :: [] : List Deferred) = m6
  intro hmk
  refine ⟨fun hs => ?_, fun k c hs hc => ?_⟩
  ·have hs : j1 = 0 := hs
   subst hs
   replace h := cond_t h rfl
   refine blk_n (endM (.inl rfl) hmk fun j7 l7 hs => ?_)
   have hfr := hfr.stp_ hAb hs rfl
   obtain rfl := sinj h
   exact end0n rfl rfl (FrY.done hfr)
  ·have hs : j1 = k + 1 := hs
   match k, hs, hc with
   | 0, hs, hc =>
    subst hs
    obtain rfl := sinj hc
    replace h := cond_f h rfl
    refine E_ret (blk_r ?_)
    refine endM (.inr rfl) hmk fun m7 n7 hs => ?_
    have hfr := hfr.stp_ hAb hs rfl
    obtain rfl := sinj h
    exact end0 rfl rfl (FrY.done hfr)
   | n + 1, _, hc => exact absurd hc (by simp)
/-- (griffe/fault.loom).rounds -/
def f68 (x0 : FaultFaultLoom) (x1 : List FaultDamage) : Option ((List (List Str))) :=
 Option.bind (α := (List (List Str))) (
  lp (σ := (List (List Str)) × Int) (fun c5 (z1, y0) =>
   bif (decide (y0 < ((x1).length : Int))) then
    Option.bind (α := (List (List Str))) (
     (idx x1 y0).bind fun i3 =>
     (f55 x0 (([i3] : List FaultDamage))).bind fun j3 =>
     (apnd 24 z1 (([j3] : List (List Str)))).bind fun d5 =>
     some (d5)
     ) fun i1 =>
    c5 (i1, (w64 (y0 + (1 : Int))))
   else
    some (z1)
   ) big ([], (0 : Int))
  ) fun j1 =>
 some (j1)
theorem en68 : Enters Try.prog 68 := enters_of Try.func68 (by kernel_rfl) rfl
theorem wk68 {gI : Gh} {wI : World} {x0 : FaultFaultLoom} {x1 : List FaultDamage} {up0 : Value} (rp0 : RV gI.m wI x0 up0) {up1 : Value} (rp1 : RV gI.m wI x1 up1) {r : (List (List Str))} (h : f68 x0 x1 = some r) : Fn Try.prog 68 #[up0, up1] gI wI (fun m w v => RV m w (r) v) := by
 unfold f68 at h
 refine fn_of_E Try.func68 rfl (Nat.le_of_ble_eq_true rfl) fun g0 hm hfr => ?_
 have rp0 : RV g0.m wI x0 up0 := hm ▸ rp0
 have rp1 : RV g0.m wI x1 up1 := hm ▸ rp1
 show E _ 22 none _ _ _ _ _
 refine E_seq (E_region (EL_do .plain rfl (D_box (g := g0) rfl rp0 fun g1 w1 p1 hs q1 => ?_)))
 have hfr := hfr.ext hs
 have rp1 := rp1.ext hs
 refine EL_at (.slice none 0 0) rfl rfl ?_
 refine EL_nil (thn_n ?_)
 obtain ⟨j1, hx, h⟩ := bsome h
 refine E_join (fun e w => ∃ (g : Gh) (v4 : Value), Fr gI wI g w ∧ e 4 = v4 ∧ RV g.m w (j1 : List (List Str)) v4 ∧ OS 1004 g w 36 (j1 : List (List Str)) v4) (fun Q' hQ => ?_) (fun m6 q6 hR => ?_)
 ·replace h := hx
  clear hx
  refine E_seq (E_region (EL_mw up1 rfl rfl ?_))
  refine EL_pur (v := .int .i64 ((x1).length : Int)) (P_len Try.underlying29 rfl rp1) .plain rfl ?_
  refine EL_mw (.int .i64 (0)) rfl rfl ?_
  refine EL_nil (thn_n (E_block ?_))
  refine E_lp h (fun (s : (List (List Str)) × Int) e w => ∃ (g : Gh) (v4 : Value), Fr gI wI g w ∧ e 2 = p1 ∧ PT g.m w (x0 : FaultFaultLoom) p1 ∧ e 4 = v4 ∧ RV g.m w (s.1 : List (List Str)) v4 ∧ OS 1004 g w 36 (s.1 : List (List Str)) v4 ∧ e 7 = up1 ∧ RV g.m w (x1 : List FaultDamage) up1 ∧ e 8 = .int .i64 (((x1).length : Int)) ∧ e 9 = .int .i64 (s.2)) ⟨g1, (.slice none 0 0), hfr, rfl, q1, rfl, RV_nil, OS.nil, rfl, rp1, rfl, rfl⟩ (fun X32 c5 j5 => ?_)
  rintro ⟨z1, y0⟩ n6 r6 ⟨o3, z3, hfr, j2, n0, q2, o0, u0, s2, j0, z2, d2⟩ h
  refine E_seq (E_region (EL_in (.bool ((decide (y0 < ((x1).length : Int))))) d2 z2 rfl rfl ?_))
  refine EL_nil (thn_n (E_seq ?_))
  rcases csome h with ⟨i2, h⟩ | ⟨i2, h⟩
  ·refine E_ct i2 rfl ?_
   refine E_skip (thn_n ?_)
   obtain ⟨i1, hx, h⟩ := bsome h
   refine E_join (fun e w => ∃ (g : Gh) (v4 : Value), Fr gI wI g w ∧ e 2 = p1 ∧ PT g.m w (x0 : FaultFaultLoom) p1 ∧ e 4 = v4 ∧ RV g.m w (i1 : List (List Str)) v4 ∧ OS 1004 g w 36 (i1 : List (List Str)) v4 ∧ e 7 = up1 ∧ RV g.m w (x1 : List FaultDamage) up1 ∧ e 8 = .int .i64 (((x1).length : Int)) ∧ e 9 = .int .i64 (y0)) (fun Q' hQ => ?_) (fun o6 t6 hR => ?_)
   ·replace h := hx
    clear hx
    refine E_block ?_
    refine E_seq (E_region ?_)
    obtain ⟨i3, p3, h⟩ := bsome h
    refine EL_pur (v := ePtr up1 y0 5) (P_indexAddr (α := FaultDamage) Try.underlying29 Try.sizeOf62 s2 j0 d2 p3) .plain rfl ?_
    have n5 := PT_idx j0 p3
    refine EL_do .plain rfl (D_load (g := o3) Try.isAgg62 Try.sizeOf62 rfl n5 fun o5 q3 => ?_)
    refine EL_do .plain rfl (D_allocOc (g := o3) 2006 (⟨0, 0, 0, 0, false⟩ : FaultDamage) Try.zeroValue62 (fun m w => ⟨_, (rep_two rep_int (rep_two rep_int (rep_two rep_int (rep_two rep_int rep_bool)))), rfl⟩) fun p5 u6 v6 hs b51 cb => ?_)
    have hfr := hfr.stp hs
    have n0 := n0.stp hs
    have o0 := o0.stp hs
    have u0 := u0.stp hs rfl
    have j0 := j0.stp hs
    have q3 := q3.stp hs
    clear cb
    refine EL_do .plain rfl (D_storeOc (g := p5) (v := o5) Try.sizeOf62 rfl b51 rfl q3 fun s3 x6 hs b52 cb => ?_)
    clear cb
    have hfr := hfr.stp hs
    have n0 := n0.stp hs
    have o0 := o0.stp hs
    have u0 := u0.stp hs rfl
    have j0 := j0.stp hs
    refine EL_nil (thn_n (E_region (EL_mv q2 rfl ?_)))
    refine EL_do .plain rfl (D_load (g := s3) Try.isAgg98 Try.sizeOf98 j2 n0 fun q5 u3 => ?_)
    refine EL_do .plain rfl (D_loadO (g := s3) Try.isAgg62 Try.sizeOf62 rfl b52 fun t5 u5 => ?_)
    refine EL_do .plain rfl (D_buildSlice (g := s3) 3016 (xs := ([i3] : List FaultDamage)) (vs := [t5]) Try.underlying29 Try.sizeOf62 Try.zeroValue62 rfl rfl (.cons rfl .nil) (RVs.cons u5 RVs.nil) rfl rfl fun x5 y6 y5 hs o55 z5 hxt hfl => ?_)
    have hfr := hfr.stp hs
    have n0 := n0.stp hs
    have o0 := o0.stp hs
    have u0 := u0.stp hs rfl
    have j0 := j0.stp hs
    have u3 := u3.stp hs
    obtain ⟨j3, l5, h⟩ := bsome h
    refine EL_do .plain rfl (D_call (g := x5) (vs := [q5, y5]) en55 (.cons rfl (.cons rfl .nil)) (wk55 u3 z5 l5) fun a6 p6 b6 hs hr => ?_)
    have hfr := hfr.ext hs
    have n0 := n0.ext hs
    have o0 := o0.ext hs
    have u0 := u0.ext hs
    have j0 := j0.ext hs
    have c6 := hr
    refine EL_do .plain rfl (D_buildSlice (g := a6) 3018 (xs := ([j3] : List (List Str))) (vs := [b6]) Try.underlying78 Try.sizeOf36 Try.zeroValue36 rfl rfl (.cons rfl .nil) (RVs.cons c6 RVs.nil) rfl rfl fun d6 z6 a7 hs o58 e6 hxt hfl => ?_)
    have hfr := hfr.stp hs
    have n0 := n0.stp hs
    have o0 := o0.stp hs
    have u0 := u0.stp hs rfl
    have j0 := j0.stp hs
    obtain ⟨d5, m5, h⟩ := bsome h
    refine EL_do .plain rfl (D_append (g := d6) (i := 1004) Try.underlying78 info_36 rfl rfl u0 o0 rfl e6 m5 fun i6 b7 i5 hs o59 j6 _ => ?_)
    have hfr := hfr.stp hs
    have n0 := n0.stp hs
    have j0 := j0.stp hs
    refine EL_at i5 rfl rfl ?_
    refine EL_nil (blk_n ?_)
    obtain rfl := sinj h
    exact hQ _ _ ⟨i6, (i5), hfr, j2, n0, rfl, j6, o59, s2, j0, z2, d2⟩
   ·clear hx
    obtain ⟨k6, c4, hfr, d4, i4, j4, m4, n4, o4, p4, q4, u4⟩ := hR
    refine E_region (EL_in (.int .i64 ((w64 (y0 + (1 : Int))))) u4 rfl rfl rfl ?_)
    refine EL_mw (.int .i64 ((w64 (y0 + (1 : Int))))) rfl rfl ?_
    exact EL_nil (thn_n (j5 (i1, (w64 (y0 + (1 : Int)))) _ _ ⟨k6, (c4), hfr, d4, i4, j4, m4, n4, o4, p4, q4, rfl⟩ h))
  ·refine E_cf i2 rfl ?_
   refine E_exit ?_
   refine thn_e ?_
   refine thn_e ?_
   refine blk_hit ?_
   obtain rfl := sinj h
   exact hQ _ _ ⟨o3, (z3), hfr, q2, o0, u0⟩
 ·clear hx
  obtain ⟨c7, d3, hfr, x4, z4, l6⟩ := hR
  refine E_seq (E_region (EL_mv x4 rfl ?_))
  refine EL_at d3 rfl rfl ?_
  refine EL_nil (thn_n (E_ret ?_))
  obtain rfl := sinj h
  exact end1 rfl rfl (show _ = d3 from rfl) ⟨_, hfr, z4⟩
/-- griffe/fault.Weave -/
def f19 (x0 : FaultLoom) (x1 : List FaultDamage) (x2 : Int) : Option ((List Str) × Int) :=
 jn (σ := (List Str)) (fun o3 =>
  (f55 ((⟨x0⟩ : FaultFaultLoom)) x1).bind fun d2 =>
  Option.bind (α := (List Str)) (
   lp (σ := (List Str) × Int) (fun p5 (j2, j0) =>
    bif (decide (j0 < x2)) then
     Option.bind (α := (List Str)) (
      (rem64 j0 ((d2).length : Int)).bind fun y44 =>
      (idx d2 y44).bind fun p3 =>
      (apnd 16 j2 (([p3] : List Str))).bind fun q5 =>
      some (q5)
      ) fun o0 =>
     p5 (o0, (w64 (j0 + (1 : Int))))
    else
     some (j2)
    ) big (o3, (0 : Int))
   ) fun u0 =>
  some (u0, (0 : Int))
  ) fun k6 =>
 (f54 x0 x1 x2).bind fun y9 =>
 bif (y9 != (0 : Int)) then
  some ([], y9)
 else
  k6 ([])
theorem en19 : Enters Try.prog 19 := enters_of Try.func19 (by kernel_rfl) rfl
theorem wk19 {gI : Gh} {wI : World} {x0 : FaultLoom} {x1 : List FaultDamage} {x2 : Int} {up0 : Value} (rp0 : RV gI.m wI x0 up0) {up1 : Value} (rp1 : RV gI.m wI x1 up1) {r : (List Str) × Int} (h : f19 x0 x1 x2 = some r) : Fn Try.prog 19 #[up0, up1, .int .i64 (x2)] gI wI (fun m w v => ∃ y0 y1, v = .tuple #[y0, y1] ∧ RV m w (r.1) y0 ∧ y1 = .int .i64 (r.2)) := by
 unfold f19 at h
 refine fn_of_E Try.func19 rfl (Nat.le_of_ble_eq_true rfl) fun g0 hm hfr => ?_
 have rp0 : RV g0.m wI x0 up0 := hm ▸ rp0
 have rp1 : RV g0.m wI x1 up1 := hm ▸ rp1
 show E _ 38 none _ _ _ _ _
 refine E_seq (E_region (EL_do .plain rfl (D_box (g := g0) rfl rp0 fun g1 w1 p1 hs q1 => ?_)))
 have hfr := hfr.ext hs
 have rp1 := rp1.ext hs
 refine EL_at (.slice none 0 0) rfl rfl ?_
 refine EL_at (.int .i64 (0)) rfl rfl ?_
 refine EL_nil (thn_n (E_joinC h (fun (s : (List Str)) e w => ∃ (g : Gh) (v6 : Value), Fr gI wI g w ∧ e 1 = up1 ∧ RV g.m w (x1 : List FaultDamage) up1 ∧ e 2 = .int .i64 (x2) ∧ e 3 = p1 ∧ PT g.m w (x0 : FaultLoom) p1 ∧ e 6 = v6 ∧ RV g.m w (s : List Str) v6 ∧ OS 1006 g w 9 (s : List Str) v6) (fun X6 k6 hk6 h => ?_) ?_))
 ·refine E_seq (E_region (EL_do .plain rfl (D_load (g := g1) Try.isAgg28 Try.sizeOf28 rfl q1 fun v7 r7 => ?_)))
  refine EL_mw up1 rfl rfl ?_
  refine EL_mw (.int .i64 (x2)) rfl rfl ?_
  obtain ⟨y9, e6, h⟩ := bsome h
  refine EL_do .plain rfl (D_call (g := g1) (vs := [v7, up1, .int .i64 (x2)]) en54 (.cons rfl (.cons rfl (.cons rfl .nil))) (wk54 r7 rp1 e6) fun g8 w8_ v8 hs hr => ?_)
  have hfr := hfr.ext hs
  have rp1 := rp1.ext hs
  have q1 := q1.ext hs
  subst hr
  refine EL_at (.int .i64 (y9)) rfl rfl ?_
  refine EL_nil (thn_n (E_seq (E_region (EL_mw (.int .i64 (y9)) rfl rfl ?_))))
  refine EL_in (.bool ((y9 != (0 : Int)))) rfl rfl rfl rfl ?_
  refine EL_nil (thn_n ?_)
  rcases csome h with ⟨i3, h⟩ | ⟨i3, h⟩
  ·refine E_ct i3 rfl ?_
   refine E_seq (E_region (EL_mw (.int .i64 (y9)) rfl rfl ?_))
   refine EL_at (.slice none 0 0) rfl rfl ?_
   refine EL_at (.int .i64 (y9)) rfl rfl ?_
   refine EL_nil (thn_n (E_ret (thn_r ?_)))
   obtain rfl := sinj h
   exact end2 rfl rfl (show _ = .slice none 0 0 from rfl) (show _ = .int .i64 (y9) from rfl) ⟨_, hfr, _, _, rfl, RV_nil, rfl⟩
  ·refine E_cf i3 rfl ?_
   exact E_skip (thn_n (hk6 ([]) _ _ ⟨g8, (.slice none 0 0), hfr, rfl, rp1, rfl, rfl, q1, rfl, RV_nil, OS.nil⟩ h))
 ·rintro o3 u6 b7 ⟨u3, m4, hfr, n4, o4, p4, q4, u4, x4, q2, s2⟩ h
  refine E_seq (E_region (EL_do .plain rfl (D_load (g := u3) Try.isAgg28 Try.sizeOf28 q4 u4 fun z3 t5 => ?_)))
  have u5 : RV u3.m _ (⟨x0⟩ : FaultFaultLoom) (.agg (setCh [[.int .i64 0, .slice none 0 0, .int .i64 0, .slice none 0 0]] [(0, z3)]).flatten.toArray) := RV_build rfl (rep_last (RV.cells t5))
  generalize z5 : (Value.agg (setCh [[.int .i64 0, .slice none 0 0, .int .i64 0, .slice none 0 0]] [(0, z3)]).flatten.toArray) = x5 at u5
  refine EL_pur (v := x5) (z5 ▸ P_build (vs := [(0, z3)]) [[.int .i64 0, .slice none 0 0, .int .i64 0, .slice none 0 0]] lay_98 rfl rfl (.cons rfl .nil) ⟨⟨_, rfl, cells_size t5⟩, trivial⟩) .plain rfl ?_
  refine EL_mv n4 rfl ?_
  obtain ⟨d2, a6, h⟩ := bsome h
  refine EL_do .plain rfl (D_call (g := u3) (vs := [x5, up1]) en55 (.cons rfl (.cons rfl .nil)) (wk55 u5 o4 a6) fun i6 x6 i2 hs hr => ?_)
  have hfr := hfr.ext hs
  have q2 := q2.ext hs
  have s2 := s2.ext hs
  have j6 := hr
  refine EL_at i2 rfl rfl ?_
  refine EL_nil (thn_n ?_)
  obtain ⟨u0, hx, h⟩ := bsome h
  refine E_join (fun e w => ∃ (g : Gh) (v6 : Value), Fr gI wI g w ∧ e 6 = v6 ∧ RV g.m w (u0 : List Str) v6 ∧ OS 1006 g w 9 (u0 : List Str) v6) (fun Q' hQ => ?_) (fun y6 c7 hR => ?_)
  ·replace h := hx
   clear hx
   refine E_seq (E_region (EL_mv p4 rfl ?_))
   refine EL_mw (.int .i64 (0)) rfl rfl ?_
   refine EL_nil (thn_n (E_block ?_))
   refine E_lp h (fun (s : (List Str) × Int) e w => ∃ (g : Gh) (v6 : Value), Fr gI wI g w ∧ e 6 = v6 ∧ RV g.m w (s.1 : List Str) v6 ∧ OS 1006 g w 9 (s.1 : List Str) v6 ∧ e 9 = i2 ∧ RV g.m w (d2 : List Str) i2 ∧ e 22 = .int .i64 (x2) ∧ e 23 = .int .i64 (s.2)) ⟨i6, (m4), hfr, x4, q2, s2, rfl, j6, rfl, rfl⟩ (fun X34 p5 b6 => ?_)
   rintro ⟨j2, j0⟩ z6 d7 ⟨c4, z4, hfr, q3, i1, j1, z2, n0, d3, z1⟩ h
   refine E_seq (E_region (EL_in (.bool ((decide (j0 < x2)))) z1 d3 rfl rfl ?_))
   refine EL_nil (thn_n (E_seq ?_))
   rcases csome h with ⟨j3, h⟩ | ⟨j3, h⟩
   ·refine E_ct j3 rfl ?_
    refine E_skip (thn_n ?_)
    obtain ⟨o0, hx, h⟩ := bsome h
    refine E_join (fun e w => ∃ (g : Gh) (v6 : Value), Fr gI wI g w ∧ e 6 = v6 ∧ RV g.m w (o0 : List Str) v6 ∧ OS 1006 g w 9 (o0 : List Str) v6 ∧ e 9 = i2 ∧ RV g.m w (d2 : List Str) i2 ∧ e 22 = .int .i64 (x2) ∧ e 23 = .int .i64 (j0)) (fun Q' hQ => ?_) (fun a7 e7 hR => ?_)
    ·replace h := hx
     clear hx
     refine E_block ?_
     refine E_seq (E_region (EL_mv z1 rfl ?_))
     refine EL_at (.int .i64 (j0)) rfl rfl ?_
     refine EL_nil (thn_n (E_region (EL_mv q3 rfl ?_)))
     refine EL_mv z2 rfl ?_
     refine EL_mw (.int .i64 (j0)) rfl rfl ?_
     refine EL_mv z2 rfl ?_
     refine EL_pur (v := .int .i64 ((d2).length : Int)) (P_len Try.underlying36 rfl n0) .plain rfl ?_
     obtain ⟨y44, c6, h⟩ := bsome h
     refine EL_pur (v := .int .i64 (y44)) (P_int rfl rfl (congrArg (Option.map (Value.int .i64)) c6)) .plain rfl ?_
     obtain ⟨p3, d4, h⟩ := bsome h
     refine EL_pur (v := ePtr i2 y44 1) (P_indexAddr (α := Str) Try.underlying36 Try.sizeOf9 rfl n0 rfl d4) .plain rfl ?_
     have l6 := PT_idx n0 d4
     refine EL_do .plain rfl (D_load (g := c4) Try.isAgg9 Try.sizeOf9 rfl l6 fun g7 m6 => ?_)
     obtain rfl := RV_str.1 m6
     refine EL_do .plain rfl (D_buildSlice (g := c4) 3034 (xs := ([p3] : List Str)) (vs := [Str.v (p3)]) Try.underlying36 Try.sizeOf9 Try.zeroValue9 rfl rfl (.cons rfl .nil) (RVs.cons (RV_str.2 rfl) RVs.nil) rfl rfl fun n6 i7 j7 hs o48 o6 hxt hfl => ?_)
     have hfr := hfr.stp hs
     have i1 := i1.stp hs
     have j1 := j1.stp hs rfl
     have n0 := n0.stp hs
     obtain ⟨q5, d6, h⟩ := bsome h
     refine EL_do .plain rfl (D_append (g := n6) (i := 1006) Try.underlying36 info_9 rfl rfl j1 i1 rfl o6 d6 fun p6 l7 y5 hs o49 q6 _ => ?_)
     have hfr := hfr.stp hs
     have n0 := n0.stp hs
     refine EL_at y5 rfl rfl ?_
     refine EL_nil (blk_n ?_)
     obtain rfl := sinj h
     exact hQ _ _ ⟨p6, (y5), hfr, rfl, q6, o49, z2, n0, d3, z1⟩
    ·clear hx
     obtain ⟨r6, c5, hfr, d5, i5, j5, l5, m5, i4, j4⟩ := hR
     refine E_region (EL_in (.int .i64 ((w64 (j0 + (1 : Int))))) j4 rfl rfl rfl ?_)
     refine EL_mw (.int .i64 ((w64 (j0 + (1 : Int))))) rfl rfl ?_
     exact EL_nil (thn_n (b6 (o0, (w64 (j0 + (1 : Int)))) _ _ ⟨r6, (c5), hfr, d5, i5, j5, l5, m5, i4, rfl⟩ h))
   ·refine E_cf j3 rfl ?_
    refine E_exit ?_
    refine thn_e ?_
    refine thn_e ?_
    refine blk_hit ?_
    obtain rfl := sinj h
    exact hQ _ _ ⟨c4, (z4), hfr, q3, i1, j1⟩
  ·clear hx
   obtain ⟨m7, s3, hfr, n5, o5, t6⟩ := hR
   refine E_seq (E_region (EL_mv n5 rfl ?_))
   refine EL_at s3 rfl rfl ?_
   refine EL_at (.int .i64 (0)) rfl rfl ?_
   refine EL_nil (thn_n (E_ret ?_))
   obtain rfl := sinj h
   exact end2 rfl rfl (show _ = s3 from rfl) (show _ = .int .i64 (0) from rfl) ⟨_, hfr, _, _, rfl, o5, rfl⟩
/-- griffe/fault.Wrong -/
def f20 (x0 : FaultLoom) (x1 : List FaultDamage) (x2 : Int) : Option ((List FaultSight) × Int) :=
 (f19 x0 x1 x2).bind fun y5 =>
 jn (σ := (List FaultSight)) (fun o3 =>
  (f19 x0 ([]) x2).bind fun q3 =>
  Option.bind (α := (List FaultSight)) (
   (f56 (y5.1) (q3.1)).bind fun j5 =>
   (j5 ((List FaultSight)) (fun s3 (j0, n0) =>
    (idx (y5.1) j0).bind fun d4 =>
    (idx (d4).b n0).bind fun o0 =>
    (apnd 24 s3 (([(⟨j0, n0, (o0 == (120 : UInt8))⟩ : FaultSight)] : List FaultSight))).bind fun i4 =>
    some (true, (i4))
    ) (o3)).bind fun u3 =>
   some (u3)
   ) fun d2 =>
  some (d2, (0 : Int))
  ) fun u6 =>
 bif (y5.2 != (0 : Int)) then
  some ([], y5.2)
 else
  u6 (([] : List FaultSight))
theorem en20 : Enters Try.prog 20 := enters_of Try.func20 (by kernel_rfl) rfl
theorem wk20 {gI : Gh} {wI : World} {x0 : FaultLoom} {x1 : List FaultDamage} {x2 : Int} {up0 : Value} (rp0 : RV gI.m wI x0 up0) {up1 : Value} (rp1 : RV gI.m wI x1 up1) {r : (List FaultSight) × Int} (h : f20 x0 x1 x2 = some r) : Fn Try.prog 20 #[up0, up1, .int .i64 (x2)] gI wI (fun m w v => ∃ y0 y1, v = .tuple #[y0, y1] ∧ RV m w (r.1) y0 ∧ y1 = .int .i64 (r.2)) := by
 unfold f20 at h
 refine fnD_of_E Try.func20 rfl (Nat.le_of_ble_eq_true rfl) fun g0 hm hfr => ?_
 have hmk : MkF g0 wI [] := MkF.start
 have rp0 : RV g0.m wI x0 up0 := hm ▸ rp0
 have rp1 : RV g0.m wI x1 up1 := hm ▸ rp1
 show E _ 48 none _ _ _ _ _
 refine E_seq (E_region (EL_do .plain rfl (D_box (g := g0) rfl rp0 fun g1 w1 p1 hs q1 => ?_)))
 have hfr := hfr.ext hs
 have hmk := hmk.ext hs
 have rp1 := rp1.ext hs
 refine EL_do .plain rfl (D_allocOc (g := g1) 2006 ([] : List FaultSight) Try.zeroValue39 (fun m w => ⟨_, rep_nil, rfl⟩) fun g2 w2 p2 hs b2 cb => ?_)
 have hfr := hfr.stp hs
 have hmk := hmk.stp hs
 have rp1 := rp1.stp hs
 have q1 := q1.stp hs
 have j2 : OSF 2006 60600 0 g2 w2 56 39 ([] : List FaultSight) p2 := cb.osf (by rfl)
 clear cb
 refine EL_at (.int .i64 (0)) rfl rfl ?_
 refine EL_nil (thn_n (E_seq (E_region (EL_do .plain rfl (D_load (g := g2) Try.isAgg28 Try.sizeOf28 rfl q1 fun v3 r3 => ?_)))))
 refine EL_mw up1 rfl rfl ?_
 refine EL_mw (.int .i64 (x2)) rfl rfl ?_
 obtain ⟨y5, z7, h⟩ := bsome h
 refine EL_do .plain rfl (D_call (g := g2) (vs := [v3, up1, .int .i64 (x2)]) en19 (.cons rfl (.cons rfl (.cons rfl .nil))) (wk19 r3 rp1 z7) fun g4 w4_ v4 hs hr => ?_)
 have hfr := hfr.ext hs
 have hmk := hmk.ext hs
 have q1 := q1.ext hs
 have j2 := j2.ext hs
 have b2 := b2.ext hs
 obtain ⟨j4, t8, rfl, m4, rfl⟩ := hr
 refine EL_mw (.tuple #[j4, .int .i64 (y5.2)]) rfl rfl ?_
 refine EL_pur (v := j4) (P_extract rfl rfl) .plain rfl ?_
 refine EL_pur (v := .int .i64 (y5.2)) (P_extract rfl rfl) .plain rfl ?_
 refine EL_do .plain rfl (D_allocOc (g := g4) 2008 ([] : List Str) Try.zeroValue36 (fun m w => ⟨_, rep_nil, rfl⟩) fun g6 w6 p6 hs b6 cb => ?_)
 have hfr := hfr.stp hs
 have hmk := hmk.stp hs
 have q1 := q1.stp hs
 have j2 := j2.stp hs rfl
 have b2 := b2.stp hs rfl
 have m4 := m4.stp hs
 have v8 : OSF 2008 60800 0 g6 w6 9 36 ([] : List Str) p6 := cb.osf (by rfl)
 clear cb
 refine EL_do .plain rfl (D_storeOc (g := g6) (v := j4) Try.sizeOf36 rfl b6 rfl m4 fun g7 w7 hs b7 cb => ?_)
 clear cb
 have hfr := hfr.stp hs
 have hmk := hmk.stp hs
 have q1 := q1.stp hs
 have j2 := j2.stp hs rfl
 have b2 := b2.stp hs rfl
 refine EL_at (.int .i64 (y5.2)) rfl rfl ?_
 refine EL_nil (thn_n (E_joinCD h (fun (s : (List FaultSight)) e ds w => ∃ (g : Gh) , Fr gI wI g w ∧ MkF g w ds ∧ e 2 = .int .i64 (x2) ∧ e 3 = p1 ∧ PT g.m w (x0 : FaultLoom) p1 ∧ e 6 = p2 ∧ OB 2006 g w 39 (s : List FaultSight) p2 ∧ OSF 2006 60600 0 g w 56 39 (s) p2 ∧ e 8 = p6 ∧ OB 2008 g w 36 (y5.1 : List Str) p6) (fun X12 u6 z6 h => ?_) ?_))
 ·refine E_seq (E_region (EL_mw (.int .i64 (y5.2)) rfl rfl ?_))
  refine EL_in (.bool ((y5.2 != (0 : Int)))) rfl rfl rfl rfl ?_
  refine EL_nil (thn_n ?_)
  rcases csome h with ⟨n4, h⟩ | ⟨n4, h⟩
  ·refine E_ct n4 rfl ?_
   refine E_seq (E_region (EL_mw (.int .i64 (y5.2)) rfl rfl ?_))
   refine EL_do .plain rfl (D_storeOc (g := g7) (v := .slice none 0 0) Try.sizeOf39 rfl b2 rfl RV_nil fun a8 b8 hs b14 cb => ?_)
   have o8 : OSF 2006 60600 0 a8 b8 56 39 ([] : List FaultSight) p2 := cb.osfr (rfl) OS.nil
   clear cb
   have hfr := hfr.stp hs
   have hmk := hmk.stp hs
   refine EL_at (.int .i64 (y5.2)) rfl rfl ?_
   refine EL_nil (thn_n (E_ret (thn_r ?_)))
   refine endM (.inr rfl) hmk fun j9 k9 hs => ?_
   have hfr := hfr.stp hs
   have b14 := b14.stp hs rfl
   obtain rfl := sinj h
   obtain ⟨ad16, cv16, hp16, a7, cr16⟩ := ob_read Try.isAgg39 Try.sizeOf39 b14
   exact endm_ct rfl rfl ((show _ = p2 from rfl).trans hp16) a7 (show _ = .int .i64 (y5.2) from rfl) ⟨_, hfr, _, _, rfl, cr16, rfl⟩
  ·refine E_cf n4 rfl ?_
   exact E_skip (thn_n (z6 (([] : List FaultSight)) _ _ _ ⟨g7, hfr, hmk, rfl, rfl, q1, rfl, b2, j2, rfl, b7⟩ h))
 ·rintro o3 x8 q4 l9 ⟨v6, hfr, hmk, e6, i6, j6, p3, q2, u6_0_17, u4, i2⟩ h
  refine E_seq (E_region (EL_do .plain rfl (D_load (g := v6) Try.isAgg28 Try.sizeOf28 i6 j6 fun c8 d8 => ?_)))
  refine EL_mv e6 rfl ?_
  obtain ⟨q3, c7, h⟩ := bsome h
  refine EL_do .plain rfl (D_call (g := v6) (vs := [c8, .slice none 0 0, .int .i64 (x2)]) en19 (.cons rfl (.cons rfl (.cons rfl .nil))) (wk19 d8 RV_nil c7) fun x6 y8 m9 hs hr => ?_)
  have hfr := hfr.ext hs
  have hmk := hmk.ext hs
  have u6_0_17 := u6_0_17.ext hs
  have q2 := q2.ext hs
  have i2 := i2.ext hs
  obtain ⟨d3, p8, rfl, k6, rfl⟩ := hr
  refine EL_mw (.tuple #[d3, .int .i64 (q3.2)]) rfl rfl ?_
  refine EL_pur (v := d3) (P_extract rfl rfl) .plain rfl ?_
  refine EL_pur (v := .int .i64 (q3.2)) (P_extract rfl rfl) .plain rfl ?_
  refine EL_at d3 rfl rfl ?_
  refine EL_at (.int .i64 (q3.2)) rfl rfl ?_
  refine EL_nil (thn_n ?_)
  obtain ⟨d2, hx, h⟩ := bsome h
  refine E_joinD (fun e ds w => ∃ (g : Gh) , Fr gI wI g w ∧ MkF g w ds ∧ e 6 = p2 ∧ OB 2006 g w 39 (d2 : List FaultSight) p2 ∧ OSF 2006 60600 0 g w 56 39 (d2) p2) (fun Q' hQ => ?_) (fun q8 e8 z8 hR => ?_)
  ·replace h := hx
   clear hx
   refine E_seq (E_region (EL_do .plain rfl (D_loadO (g := x6) Try.isAgg36 Try.sizeOf36 u4 i2 fun g8 i8 => ?_)))
   refine EL_mw d3 rfl rfl ?_
   obtain ⟨j5, d7, h⟩ := bsome h
   refine EL_do .plain rfl (D_call (g := x6) (vs := [g8, d3]) en56 (.cons rfl (.cons rfl .nil)) (wk56 i8 k6 d7) fun n9 a9 j8 hs hr => ?_)
   have hfr := hfr.ext hs
   have hmk := hmk.ext hs
   have u6_0_17 := u6_0_17.ext hs
   have q2 := q2.ext hs
   have i2 := i2.ext hs
   have y6 := hr
   refine EL_nil (thn_n (E_block ?_))
   have hB0 := hfr.size
   have hmk0 := hmk
   obtain ⟨u3, hφ, h⟩ := bsome h
   refine E_rangeFunc (σ := ((List FaultSight))) (s0 := (o3)) 10 rfl (fun _ => 0) [] (fun (s : (List FaultSight)) (g : Gh) (w : World) => Fr gI wI g w ∧ MkF g w q4 ∧ OB 2006 g w 39 (s : List FaultSight) p2 ∧ OSF 2006 60600 0 g w 56 39 (s) p2 ∧ OB 2008 g w 36 (y5.1 : List Str) p6 ∧ ItV Try.prog (RA2 (α := Int) (β := Int)) j5 j8 g.m w) rfl y6 hφ (fun _ _ _ _ => rfl) rfl ra2_size rfl (fun _ _ _ _ _ hx hR => by obtain ⟨hfr, hmk, z2, z3, z4, z5⟩ := hR; exact ⟨hfr.ist hx hB0, hmk.ist hx, z2.ist hx, z3.ist hx, z4.ist hx, z5.ist hx⟩) (fun _ _ _ _ _ hx hR => by obtain ⟨hfr, hmk, z2, z3, z4, z5⟩ := hR; exact ⟨hfr.stp hx, hmk.stp hx, z2.stp hx rfl, z3.stp hx rfl, z4.stp hx rfl, z5.stp hx⟩) ⟨hfr, hmk, q2, u6_0_17, i2, y6⟩ (fun _ h => by cases h) ?_ ?_
   ·intro r8 k8 s x b s2 o4 e7 vs hsz h hR hrec_0 c5 hrd
    obtain ⟨s3, hse⟩ : ∃ y, y = s := ⟨s, rfl⟩
    subst hse
    obtain ⟨hfr, hmk, j1, u6_0_128, i1, u0⟩ := hR
    obtain ⟨j0, n0⟩ := x
    obtain ⟨l5, m5, rfl, d5, i5⟩ := ra2_get hrd
    obtain rfl : l5 = .int .i64 (j0) := RV_int.1 d5
    obtain rfl : m5 = .int .i64 (n0) := RV_int.1 i5
    have z1 := RFr.refl o4 e7
    refine E_seq (E_region (EL_at (.int .i64 (j0)) rfl rfl ?_))
    refine EL_nil (thn_n (E_region (EL_at (.int .i64 (n0)) rfl rfl ?_)))
    refine EL_nil (thn_n ?_)
    obtain ⟨n5, hbr, hs, hrN⟩ := begin_round hrec_0 c5
    refine ⟨n5, hbr, ?_⟩
    have hfr := hfr.stp hs
    have hmk := hmk.stp hs
    have z1 := z1.stp hs
    have u6_0_128 := u6_0_128.stp hs rfl
    have j1 := j1.stp hs rfl
    have i1 := i1.stp hs rfl
    have u0 := u0.stp hs
    have hrec_0 := hrN
    clear hbr hs hrN
    refine E_block ?_
    refine L_loadOS (x := .tmp 6) Try.isAgg39 Try.sizeOf39 j1 u6_0_128 fun i7 p4 o130 l6 => ?_
    refine L_loadO0 (x := .tmp 8) Try.isAgg36 Try.sizeOf36 i1 fun o5 p5 m6 => ?_
    obtain ⟨d4, x4, h⟩ := bsome h
    have j7 := PT_idx p5 x4
    refine L_load (x := .tmp 39) Try.isAgg9 Try.sizeOf9 j7 fun b9 l7 n6 => ?_
    obtain rfl := RV_str.1 l7
    obtain ⟨o0, o6, h⟩ := bsome h
    have q5 : RV o4.m n5 (⟨j0, n0, (o0 == (120 : UInt8))⟩ : FaultSight) (.agg (setCh [[.int .i64 0], [.int .i64 0], [.bool false]] [(0, .int .i64 (j0)), (1, .int .i64 (n0)), (2, .bool ((o0 == (120 : UInt8))))]).flatten.toArray) := RV_build rfl (rep_pair (rfl) (rep_pair (rfl) (rep_last (rfl))))
    generalize q6 : (Value.agg (setCh [[.int .i64 0], [.int .i64 0], [.bool false]] [(0, .int .i64 (j0)), (1, .int .i64 (n0)), (2, .bool ((o0 == (120 : UInt8))))]).flatten.toArray) = t5 at q5
    refine E_drawL (g := o4) (n := 12) [(11, (fun v g w => RV g.m w ([(⟨j0, n0, (o0 == (120 : UInt8))⟩ : FaultSight)] : List FaultSight) v ∧ OS 3045 g w 56 ([(⟨j0, n0, (o0 == (120 : UInt8))⟩ : FaultSight)] : List FaultSight) v ∧ FullV v))] [0, 1, 2, 3, 4, 5, 6, 7, 8, 9, 10, 11] rfl mixed (by kernel_rfl) (⟨fun _ => up_and up_rv (up_and up_os (up_eq _)), trivial⟩) ?_
    refine L_ld (c := i7) rfl rfl .plain (fun _ _ h => ⟨h.ch, fun b hb _ => h.below.block b hb⟩) l6 p3 ?_
    refine L_pur (c := .int .i64 (j0)) rfl rfl .plain (fun _ _ hd => P_move rfl) ?_
    refine L_pur (c := .int .i64 (n0)) rfl rfl .plain (fun _ _ hd => P_move rfl) ?_
    refine L_ld (c := o5) rfl rfl .plain (fun _ _ h => ⟨h.ch, fun b hb _ => h.below.block b hb⟩) m6 u4 ?_
    refine L_pur (c := .int .i64 (j0)) rfl rfl .plain (fun _ _ hd => P_move rfl) ?_
    refine L_pur (c := ePtr o5 j0 1) rfl rfl .plain (fun _ _ hd => P_indexAddr (α := Str) Try.underlying36 Try.sizeOf9 rfl p5 rfl x4) ?_
    refine L_ld (c := Str.v (d4)) rfl rfl .plain (fun _ _ h => h.ch) n6 rfl ?_
    refine L_pur (c := .int .i64 (n0)) rfl rfl .plain (fun _ _ hd => P_move rfl) ?_
    refine L_pur (c := .int .u8 (UInt8.toNat (o0))) rfl rfl .plain (fun _ _ hd => P_indexS Try.underlying9 rfl rfl o6) ?_
    refine L_pur (c := .bool ((o0 == (120 : UInt8)))) rfl rfl .plain (fun _ _ hd => P_u8 rfl rfl rfl) ?_
    refine L_pur (c := t5) rfl rfl .plain (fun _ _ hd => q6 ▸ P_build (vs := [(0, .int .i64 (j0)), (1, .int .i64 (n0)), (2, .bool ((o0 == (120 : UInt8))))]) [[.int .i64 0], [.int .i64 0], [.bool false]] lay_56 rfl rfl (.cons rfl (.cons rfl (.cons rfl .nil))) ⟨⟨_, rfl, rfl⟩, ⟨⟨_, rfl, rfl⟩, ⟨⟨_, rfl, rfl⟩, trivial⟩⟩⟩) ?_
    refine L_do (φ := fun v g w => RV g.m w ([(⟨j0, n0, (o0 == (120 : UInt8))⟩ : FaultSight)] : List FaultSight) v ∧ OS 3045 g w 56 ([(⟨j0, n0, (o0 == (120 : UInt8))⟩ : FaultSight)] : List FaultSight) v ∧ FullV v) rfl rfl .plain (fun g w hd => D_buildSlice (g := g) 3045 (xs := ([(⟨j0, n0, (o0 == (120 : UInt8))⟩ : FaultSight)] : List FaultSight)) (vs := [t5]) Try.underlying39 Try.sizeOf56 Try.zeroValue56 rfl rfl (.cons rfl .nil) (RVs.cons (q5.ext hd.1) RVs.nil) rfl rfl fun g' w' v hs o r hxt hfl => ⟨g', hxt, r, o, hfl⟩) (fun i3 hv => ?_)
    clear hv
    refine L_nil fun m7 c9 hall => ?_
    have hs := hall.1
    have hfr := hfr.ext hs
    have hmk := hmk.ext hs
    have z1 := z1.ext hs
    have hrec_0 := hrec_0.ext hs
    have j1 := j1.ext hs
    have i1 := i1.ext hs
    have u0 := u0.ext hs
    have p4 := p4.ext hs
    have o130 := o130.ext hs
    have n7 := (word_all (A := fun g w => RV g.m w ([(⟨j0, n0, (o0 == (120 : UInt8))⟩ : FaultSight)] : List FaultSight) i3 ∧ OS 3045 g w 56 ([(⟨j0, n0, (o0 == (120 : UInt8))⟩ : FaultSight)] : List FaultSight) i3 ∧ FullV i3) 11 rfl hall).1
    have o157 := (word_all (A := fun g w => RV g.m w ([(⟨j0, n0, (o0 == (120 : UInt8))⟩ : FaultSight)] : List FaultSight) i3 ∧ OS 3045 g w 56 ([(⟨j0, n0, (o0 == (120 : UInt8))⟩ : FaultSight)] : List FaultSight) i3 ∧ FullV i3) 11 rfl hall).2.1
    clear hs hall
    obtain ⟨i4, r6, h⟩ := bsome h
    refine EL_do .plain rfl (D_append (g := m7) (i := 60600) Try.underlying39 info_56 rfl rfl o130 p4 rfl n7 r6 fun o7 d9 p7 hs o158 u5 _ => ?_)
    have hfr := hfr.stp hs
    have hmk := hmk.stp hs
    have z1 := z1.stp hs
    have hrec_0 := hrec_0.stp hs rfl
    have j1 := j1.stp hs rfl
    have i1 := i1.stp hs rfl
    have u0 := u0.stp hs
    refine EL_do .plain rfl (D_storeOc (g := o7) (v := p7) Try.sizeOf39 p3 j1 rfl u5 fun q7 r7 hs b160 cb => ?_)
    have x5 : OSF 2006 60600 0 q7 r7 56 39 (i4 : List FaultSight) p2 := cb.osfr (rv_cells1 u5) (o158.stp hs rfl)
    clear cb
    have hfr := hfr.stp hs
    have hmk := hmk.stp hs
    have z1 := z1.stp hs
    have hrec_0 := hrec_0.stp hs rfl
    have i1 := i1.stp hs rfl
    have u0 := u0.stp hs
    refine EL_nil (blk_n ?_)
    obtain ⟨rfl, rfl⟩ := pairs2 h
    exact ⟨_, z1, ⟨hfr, hmk, b160, x5, i1, u0⟩, hrec_0, rfl, rfl⟩
   ·intro t7 e9 ds162 hsz hR hds
    obtain ⟨hfr, hmk, a6, u6_0_162, l8, y7⟩ := hR
    obtain ⟨D, hdse, hD, hDb⟩ := hds.1 rfl
    subst hdse
    replace hmk := MkF.push hmk0 hmk hD hDb
    clear hD hDb hds
    revert hmk
    generalize ({ target := .collected D, args := #[] } :: q4 : List Deferred) = m8
    intro hmk
    refine ⟨fun _ => ?_, fun k c hs _ => absurd hs (Nat.succ_ne_zero k).symm⟩
    refine blk_n ?_
    obtain rfl := sinj h
    exact hQ _ _ _ ⟨t7, hfr, hmk, p3, a6, u6_0_162⟩
  ·clear hx
   obtain ⟨c6, hfr, hmk, j3, c4, u6_0_163⟩ := hR
   refine E_seq (E_region (EL_do .plain rfl (D_loadOS (g := c6) Try.isAgg39 Try.sizeOf39 j3 c4 u6_0_163 fun u7 d6 o164 => ?_)))
   refine EL_do .plain rfl (D_storeOc (g := c6) (v := u7) Try.sizeOf39 j3 c4 rfl d6 fun v7 x7 hs b165 cb => ?_)
   have n8 : OSF 2006 60600 0 v7 x7 56 39 (d2 : List FaultSight) p2 := cb.osfr (rv_cells1 d6) (o164.stp hs rfl)
   clear cb
   have hfr := hfr.stp hs
   have hmk := hmk.stp hs
   refine EL_at (.int .i64 (0)) rfl rfl ?_
   refine EL_nil (thn_n (E_ret (endM (.inr rfl) hmk fun g9 i9 hs => ?_)))
   have hfr := hfr.stp hs
   have b165 := b165.stp hs rfl
   obtain rfl := sinj h
   obtain ⟨ad167, cv167, hp167, t6, cr167⟩ := ob_read Try.isAgg39 Try.sizeOf39 b165
   exact endm_ct rfl rfl ((show _ = p2 from j3).trans hp167) t6 (show _ = .int .i64 (0) from rfl) ⟨_, hfr, _, _, rfl, cr167, rfl⟩
end Go.Proofs.Ytpiaipiehjcflaa
