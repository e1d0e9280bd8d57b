import Derived.Test.YtpiaipiehjcflaaCode2
set_option maxRecDepth 8000
set_option maxHeartbeats 4000000
namespace Go.Proofs.Ytpiaipiehjcflaa
open Go.RowKit
/-- slices.symMergeCmpFunc[griffe/api.FaultDamage] -/
def f108 : Nat → (List FaultDamage) → (Int) → (Int) → (Int) → (FaultDamage → FaultDamage → Option Int) → Option ((List FaultDamage))
 | 0, _, _, _, _, _ => none
 | n + 1, x0, x1, x2, x3, x4 =>
  jn (σ := (List FaultDamage)) (fun s2 =>
   jn (σ := (List FaultDamage)) (fun p2 =>
    (shr64 (wu64 (w64 (x1 + x3))) (1 : Int)).bind fun n0 =>
    Option.bind (α := Int × Int) (
     bif (decide (x2 > (w64 n0))) then
      some ((w64 ((w64 ((w64 n0) + x2)) - x3)), (w64 n0))
     else
      some (x1, x2)
     ) fun (p5, q5) =>
    Option.bind (α := Int) (
     lp (σ := Int × Int) (fun yA (i1, z1) =>
      jn (σ := Unit) (fun (_ : Unit) =>
       (shr64 (wu64 (w64 (i1 + z1))) (1 : Int)).bind fun y0 =>
       (idx p2 (w64 ((w64 ((w64 ((w64 n0) + x2)) - (1 : Int))) - (w64 y0)))).bind fun tC =>
       (idx p2 (w64 y0)).bind fun uC =>
       (x4 tC uC).bind fun t5 =>
       bif (!(decide (t5 < (0 : Int)))) then
        yA ((w64 ((w64 y0) + (1 : Int))), z1)
       else
        yA (i1, (w64 y0))
       ) fun vC =>
      bif (decide (i1 < z1)) then
       vC ()
      else
       some (i1)
      ) big (p5, q5)
     ) fun j0 =>
    Option.bind (α := (List FaultDamage)) (
     Option.bind (α := Bool) (
      bif (decide (j0 < x2)) then
       some ((decide (x2 < (w64 ((w64 ((w64 n0) + x2)) - j0)))))
      else
       some (false)
      ) fun c4 =>
     bif c4 then
      (f113 p2 j0 x2 ((w64 ((w64 ((w64 n0) + x2)) - j0))) x4).bind fun xC =>
      some (xC)
     else
      some (p2)
     ) fun m4 =>
    Option.bind (α := (List FaultDamage)) (
     Option.bind (α := Bool) (
      bif (decide (x1 < j0)) then
       some ((decide (j0 < (w64 n0))))
      else
       some (false)
      ) fun d4 =>
     bif d4 then
      (f108 n m4 x1 j0 ((w64 n0)) x4).bind fun yC =>
      some (yC)
     else
      some (m4)
     ) fun n4 =>
    Option.bind (α := Bool) (
     bif (decide ((w64 n0) < (w64 ((w64 ((w64 n0) + x2)) - j0)))) then
      some ((decide ((w64 ((w64 ((w64 n0) + x2)) - j0)) < x3)))
     else
      some (false)
     ) fun e4 =>
    bif e4 then
     (f108 n n4 ((w64 n0)) ((w64 ((w64 ((w64 n0) + x2)) - j0))) x3 x4).bind fun zC =>
     some (zC)
    else
     some (n4)
    ) fun aD =>
   bif ((w64 (x3 - x2)) == (1 : Int)) then
    Option.bind (α := Int) (
     lp (σ := Int × Int) (fun zA (j1, d2) =>
      jn (σ := Unit) (fun (_ : Unit) =>
       (shr64 (wu64 (w64 (j1 + d2))) (1 : Int)).bind fun j2 =>
       (idx s2 x2).bind fun bD =>
       (idx s2 (w64 j2)).bind fun cD =>
       (x4 bD cD).bind fun u5 =>
       bif (!(decide (u5 < (0 : Int)))) then
        zA ((w64 ((w64 j2) + (1 : Int))), d2)
       else
        zA (j1, (w64 j2))
       ) fun dD =>
      bif (decide (j1 < d2)) then
       dD ()
      else
       some (j1)
      ) big (x1, x2)
     ) fun z2 =>
    Option.bind (α := (List FaultDamage)) (
     lp (σ := (List FaultDamage) × Int) (fun eD (d3, o0) =>
      jn (σ := Unit) (fun (_ : Unit) =>
       Option.bind (α := (List FaultDamage)) (
        (idx d3 (w64 (o0 - (1 : Int)))).bind fun e8 =>
        (idx d3 o0).bind fun aB =>
        (idx d3 o0).bind fun _tG =>
        (idx ((List.set d3 (Int.toNat o0) e8)) (w64 (o0 - (1 : Int)))).bind fun _uG =>
        some ((List.set ((List.set d3 (Int.toNat o0) e8)) (Int.toNat (w64 (o0 - (1 : Int)))) aB))
        ) fun c5 =>
       eD (c5, (w64 (o0 - (1 : Int))))
       ) fun gD =>
      bif (decide (o0 > z2)) then
       gD ()
      else
       some (d3)
      ) big (s2, x2)
     ) fun k6 =>
    some (k6)
   else
    aD (s2)
   ) fun iD =>
  bif ((w64 (x2 - x1)) == (1 : Int)) then
   Option.bind (α := Int) (
    lp (σ := Int × Int) (fun bB (m1, i2) =>
     jn (σ := Unit) (fun (_ : Unit) =>
      (shr64 (wu64 (w64 (m1 + i2))) (1 : Int)).bind fun m2 =>
      (idx x0 (w64 m2)).bind fun jD =>
      (idx x0 x1).bind fun kD =>
      (x4 jD kD).bind fun l6 =>
      bif (decide (l6 < (0 : Int))) then
       bB ((w64 ((w64 m2) + (1 : Int))), i2)
      else
       bB (m1, (w64 m2))
      ) fun lD =>
     bif (decide (m1 < i2)) then
      lD ()
     else
      some (m1)
     ) big (x2, x3)
    ) fun q2 =>
   Option.bind (α := (List FaultDamage)) (
    lp (σ := (List FaultDamage) × Int) (fun mD (i3, u0) =>
     jn (σ := Unit) (fun (_ : Unit) =>
      Option.bind (α := (List FaultDamage)) (
       (idx i3 (w64 (u0 + (1 : Int)))).bind fun g8 =>
       (idx i3 u0).bind fun cB =>
       (idx i3 u0).bind fun _vG =>
       (idx ((List.set i3 (Int.toNat u0) g8)) (w64 (u0 + (1 : Int)))).bind fun _xG =>
       some ((List.set ((List.set i3 (Int.toNat u0) g8)) (Int.toNat (w64 (u0 + (1 : Int)))) cB))
       ) fun d5 =>
      mD (d5, (w64 (u0 + (1 : Int))))
      ) fun nD =>
     bif (decide (u0 < (w64 (q2 - (1 : Int))))) then
      nD ()
     else
      some (i3)
     ) big (x0, x1)
    ) fun m6 =>
   some (m6)
  else
   iD (x0)
theorem en108 : Enters Try.prog 108 := enters_of Try.func108 (by kernel_rfl) rfl
theorem wk108 (n : Nat) : ∀ {iI : Nat} {gI : Gh} {wI : World} {x0 : List FaultDamage} {x1 : Int} {x2 : Int} {x3 : Int} {x4 : FaultDamage → FaultDamage → Option Int} {up0 : Value} (_mp0 : OM iI gI wI 62 x0 up0) {up4 : Value} (_rp4 : FnV2 Try.prog x4 up4 gI wI) {r : (List FaultDamage)} (_h : f108 n x0 x1 x2 x3 x4 = some r), FnM Try.prog 108 #[up0, .int .i64 (x1), .int .i64 (x2), .int .i64 (x3), up4] iI gI wI (fun g w v => v = .tuple #[] ∧ OM iI g w 62 r up0) := by
 induction n with
 | zero => intros; rename_i h; cases h
 | succ n ih =>
 intro iI gI wI x0 x1 x2 x3 x4 up0 mp0 up4 rp4 r h
 simp only [f108] at h
 refine fnM_of_E Try.func108 rfl (Nat.le_of_ble_eq_true rfl) fun g0 hm hfr => ?_
 have j6 := mp0
 replace mp0 := mp0.enter
 rw [← hm] at mp0
 replace hm : g0.m = gI.m := by rw [hm]
 obtain ⟨ff4, fa4, fc4, rfl, fen4, fcl4⟩ := rp4
 show E _ 220 none _ _ _ _ _
 refine E_joinC h (fun (s : (List FaultDamage)) e w => ∃ (g : Gh) , FrM iI gI wI g w ∧ e 0 = up0 ∧ OM 1 g w 62 (s : List FaultDamage) up0 ∧ e 1 = .int .i64 (x1) ∧ e 2 = .int .i64 (x2) ∧ e 3 = .int .i64 (x3) ∧ e 4 = (.func (.func ff4) fa4 fc4)) (fun X202 iD oF h => ?_) ?_
 ·refine E_seq (E_region (EL_mw (.int .i64 (x2)) rfl rfl ?_))
  refine EL_mw (.int .i64 (x1)) rfl rfl ?_
  refine EL_in (.int .i64 ((w64 (x2 - x1)))) rfl rfl rfl rfl ?_
  refine EL_in (.bool (((w64 (x2 - x1)) == (1 : Int)))) rfl rfl rfl rfl ?_
  refine EL_nil (thn_n ?_)
  rcases csome h with ⟨i8, h⟩ | ⟨i8, h⟩
  ·refine E_ct i8 rfl ?_
   refine E_seq (E_region (EL_mw (.int .i64 (x2)) rfl rfl ?_))
   refine EL_at (.int .i64 (x2)) rfl rfl ?_
   refine EL_nil (thn_n (E_seq (E_region (EL_mw (.int .i64 (x3)) rfl rfl ?_))))
   refine EL_at (.int .i64 (x3)) rfl rfl ?_
   refine EL_nil (thn_n ?_)
   obtain ⟨q2, hx, h⟩ := bsome h
   refine E_join (fun e w => ∃ (g : Gh) , FrM iI gI wI g w ∧ e 0 = up0 ∧ OM 1 g w 62 (x0 : List FaultDamage) up0 ∧ e 1 = .int .i64 (x1) ∧ e 10 = .int .i64 (q2)) (fun Q' hQ => ?_) (fun mI rJ hR => ?_)
   ·replace h := hx
    clear hx
    refine E_block ?_
    refine E_lp h (fun (s : Int × Int) e w => ∃ (g : Gh) , FrM iI gI wI g w ∧ e 0 = up0 ∧ OM 1 g w 62 (x0 : List FaultDamage) up0 ∧ e 1 = .int .i64 (x1) ∧ e 4 = (.func (.func ff4) fa4 fc4) ∧ e 10 = .int .i64 (s.1) ∧ e 11 = .int .i64 (s.2)) ⟨g0, hfr, rfl, mp0, rfl, rfl, rfl, rfl⟩ (fun X242 bB iB => ?_)
    rintro ⟨m1, i2⟩ nI sJ ⟨oD, hfr, z8, a9, b9, pD, x5, e7⟩ h
    refine E_joinC h (fun (s : Unit) e w => ∃ (g : Gh) , FrM iI gI wI g w ∧ e 0 = up0 ∧ OM 1 g w 62 (x0 : List FaultDamage) up0 ∧ e 1 = .int .i64 (x1) ∧ e 4 = (.func (.func ff4) fa4 fc4) ∧ e 10 = .int .i64 (m1) ∧ e 11 = .int .i64 (i2)) (fun X245 lD pF h => ?_) ?_
    ·refine E_seq (E_region (EL_mv x5 rfl ?_))
     refine EL_mv e7 rfl ?_
     refine EL_in (.bool ((decide (m1 < i2)))) rfl rfl rfl rfl ?_
     refine EL_nil (thn_n ?_)
     rcases csome h with ⟨j8, h⟩ | ⟨j8, h⟩
     ·refine E_ct j8 rfl ?_
      exact E_skip (thn_n (pF () _ _ ⟨oD, hfr, z8, a9, b9, pD, x5, e7⟩ h))
     ·refine E_cf j8 rfl ?_
      refine E_exit ?_
      refine thn_e ?_
      refine thn_e ?_
      refine blk_hit ?_
      obtain rfl := sinj h
      exact hQ _ _ ⟨oD, hfr, z8, a9, b9, x5⟩
    ·rintro _ oI tJ ⟨yG, hfr, e5, j3, n6, o6, g7, i7⟩ h
     refine E_block ?_
     refine E_seq (E_region (EL_mv g7 rfl ?_))
     refine EL_mv i7 rfl ?_
     refine EL_in (.int .i64 ((w64 (m1 + i2)))) rfl rfl rfl rfl ?_
     refine EL_pur (v := .int .u64 (wu64 (w64 (m1 + i2)))) (P_intu64 Try.underlying3 Try.underlying121 rfl) .plain rfl ?_
     obtain ⟨m2, qF, h⟩ := bsome h
     refine EL_pur (v := .int .u64 (m2)) (P_shrU rfl rfl qF) .plain rfl ?_
     refine EL_pur (v := .int .i64 ((w64 m2))) (P_u64int Try.underlying121 Try.underlying3 rfl) .plain rfl ?_
     refine EL_at (.int .i64 ((w64 m2))) rfl rfl ?_
     refine EL_nil (thn_n (E_seq ?_))
     obtain ⟨jD, jB, h⟩ := bsome h
     refine L_loadM (x := .tmp 43) Try.isAgg62 Try.sizeOf62 j3 jB fun qD zG rF => ?_
     obtain ⟨kD, kB, h⟩ := bsome h
     refine L_loadM (x := .tmp 47) Try.isAgg62 Try.sizeOf62 j3 kB fun rD aH sF => ?_
     obtain ⟨l6, tF, h⟩ := bsome h
     refine E_drawL (g := yG) (n := 11) [(9, (fun v g w => v = .int .i64 (l6)))] [0, 1, 2, 3, 4, 5, 6, 7, 8, 9, 10] rfl mixed (by kernel_rfl) (⟨fun _ => up_eq _, trivial⟩) ?_
     refine L_pur (c := (.func (.func ff4) fa4 fc4)) rfl rfl .plain (fun _ _ hd => P_move o6) ?_
     refine L_pur (c := up0) rfl rfl .plain (fun _ _ hd => P_move e5) ?_
     refine L_pur (c := .int .i64 ((w64 m2))) rfl rfl .plain (fun _ _ hd => P_move rfl) ?_
     refine L_pur (c := ePtr up0 (w64 m2) 5) rfl rfl .plain (fun _ _ hd => P_indexAddrM (α := FaultDamage) Try.underlying29 Try.sizeOf62 rfl j3 rfl jB) ?_
     refine L_ld (c := qD) rfl rfl .plain (fun _ _ h => ⟨h.ch, fun b hb _ => h.below.block b hb⟩) rF rfl ?_
     refine L_pur (c := up0) rfl rfl .plain (fun _ _ hd => P_move e5) ?_
     refine L_pur (c := .int .i64 (x1)) rfl rfl .plain (fun _ _ hd => P_move n6) ?_
     refine L_pur (c := ePtr up0 x1 5) rfl rfl .plain (fun _ _ hd => P_indexAddrM (α := FaultDamage) Try.underlying29 Try.sizeOf62 rfl j3 rfl kB) ?_
     refine L_ld (c := rD) rfl rfl .plain (fun _ _ h => ⟨h.ch, fun b hb _ => h.below.block b hb⟩) sF rfl ?_
     refine L_do (φ := fun v g w => v = .int .i64 (l6)) rfl rfl .plain (fun g w hd => D_callv (g := g) (vs := [qD, rD]) rfl fen4 (.cons rfl (.cons rfl .nil)) (fcl4 _ _ (hfr.ext hd.1).ch _ _ _ _ _  (zG.ext hd.1) (aH.ext hd.1) tF) fun g' w' v hs hr => ⟨g', hs, RV_int.1 hr⟩) (fun uJ hv => ?_)
     obtain ⟨_, _, _, rfl⟩ := hv
     refine L_pur (c := .bool ((decide (l6 < (0 : Int))))) rfl rfl .plain (fun _ _ hd => P_int rfl rfl rfl) ?_
     refine L_nil fun sD vJ hall => ?_
     have hs := hall.1
     have hfr := hfr.ext hs
     have j3 := j3.ext hs
     clear hs hall
     refine EL_nil (thn_n ?_)
     rcases csome h with ⟨k8, h⟩ | ⟨k8, h⟩
     ·refine E_ct k8 rfl ?_
      refine E_region (EL_mw (.int .i64 ((w64 m2))) rfl rfl ?_)
      refine EL_in (.int .i64 ((w64 ((w64 m2) + (1 : Int))))) rfl rfl rfl rfl ?_
      refine EL_at (.int .i64 ((w64 ((w64 m2) + (1 : Int))))) rfl rfl ?_
      exact EL_nil (blk_n (thn_n (iB ((w64 ((w64 m2) + (1 : Int))), i2) _ _ ⟨sD, hfr, e5, j3, n6, o6, rfl, i7⟩ h)))
     ·refine E_cf k8 rfl ?_
      refine E_region (EL_mw (.int .i64 ((w64 m2))) rfl rfl ?_)
      refine EL_at (.int .i64 ((w64 m2))) rfl rfl ?_
      exact EL_nil (blk_n (thn_n (iB (m1, (w64 m2)) _ _ ⟨sD, hfr, e5, j3, n6, o6, g7, rfl⟩ h)))
   ·clear hx
    obtain ⟨bH, hfr, tD, uD, vD, aC⟩ := hR
    obtain ⟨m6, hx, h⟩ := bsome h
    refine E_join (fun e w => ∃ (g : Gh) , FrM iI gI wI g w ∧ e 0 = up0 ∧ OM 1 g w 62 (m6 : List FaultDamage) up0) (fun Q' hQ => ?_) (fun pI xJ hR => ?_)
    ·replace h := hx
     clear hx
     refine E_seq (E_region (EL_mv vD rfl ?_))
     refine EL_at (.int .i64 (x1)) rfl rfl ?_
     refine EL_nil (thn_n (E_block ?_))
     refine E_lp h (fun (s : (List FaultDamage) × Int) e w => ∃ (g : Gh) , FrM iI gI wI g w ∧ e 0 = up0 ∧ OM 1 g w 62 (s.1 : List FaultDamage) up0 ∧ e 10 = .int .i64 (q2) ∧ e 13 = .int .i64 (s.2)) ⟨bH, hfr, tD, uD, aC, rfl⟩ (fun X342 mD uF => ?_)
     rintro ⟨i3, u0⟩ qI yJ ⟨xD, hfr, c9, d9, j7, l7⟩ h
     refine E_joinC h (fun (s : Unit) e w => ∃ (g : Gh) , FrM iI gI wI g w ∧ e 0 = up0 ∧ OM 1 g w 62 (i3 : List FaultDamage) up0 ∧ e 10 = .int .i64 (q2) ∧ e 13 = .int .i64 (u0)) (fun X345 nD vF h => ?_) ?_
     ·refine E_seq (E_region (EL_mv l7 rfl ?_))
      refine EL_mv j7 rfl ?_
      refine EL_in (.int .i64 ((w64 (q2 - (1 : Int))))) rfl rfl rfl rfl ?_
      refine EL_pur (v := .bool ((decide (u0 < (w64 (q2 - (1 : Int))))))) (P_int rfl rfl rfl) .plain rfl ?_
      refine EL_nil (thn_n ?_)
      rcases csome h with ⟨l8, h⟩ | ⟨l8, h⟩
      ·refine E_ct l8 rfl ?_
       exact E_skip (thn_n (vF () _ _ ⟨xD, hfr, c9, d9, j7, l7⟩ h))
      ·refine E_cf l8 rfl ?_
       refine E_exit ?_
       refine thn_e ?_
       refine thn_e ?_
       refine blk_hit ?_
       obtain rfl := sinj h
       exact hQ _ _ ⟨xD, hfr, c9, d9⟩
     ·rintro _ rI zJ ⟨cH, hfr, o4, m3, bC, i4⟩ h
      obtain ⟨d5, hx, h⟩ := bsome h
      refine E_join (fun e w => ∃ (g : Gh) , FrM iI gI wI g w ∧ e 0 = up0 ∧ OM 1 g w 62 (d5 : List FaultDamage) up0 ∧ e 10 = .int .i64 (q2) ∧ e 13 = .int .i64 (u0)) (fun Q' hQ => ?_) (fun sI aK hR => ?_)
      ·replace h := hx
       clear hx
       refine E_block ?_
       obtain ⟨g8, lB, h⟩ := bsome h
       refine L_loadM (x := .tmp 69) Try.isAgg62 Try.sizeOf62 m3 lB fun dH dB xF => ?_
       obtain ⟨cB, mB, h⟩ := bsome h
       refine L_loadM (x := .tmp 73) Try.isAgg62 Try.sizeOf62 m3 mB fun gH p6 yF => ?_
       obtain ⟨vG, nB, h⟩ := bsome h
       refine E_drawTL (g := cH) (n := 15) [2, 3, 4] [] [0, 1, 2, 3, 4, 5, 6, 7, 8, 9, 10, 11, 12, 13, 14] rfl mixed (by kernel_rfl) trivial rfl ?_
       refine L_pur (c := up0) rfl rfl .plain (fun _ _ hd => P_move o4) ?_
       refine L_pur (c := .int .i64 (u0)) rfl rfl .plain (fun _ _ hd => P_move i4) ?_
       refine L_purL (c := up0) rfl rfl .plain (P_move o4) ?_
       refine L_purL (c := .int .i64 (u0)) rfl rfl .plain (P_move i4) ?_
       refine L_purL (c := .int .i64 ((w64 (u0 + (1 : Int))))) rfl rfl .plain (P_int rfl rfl rfl) ?_
       refine L_pur (c := up0) rfl rfl .plain (fun _ _ hd => P_move o4) ?_
       refine L_pur (c := .int .i64 (u0)) rfl rfl .plain (fun _ _ hd => P_move i4) ?_
       refine L_pur (c := .int .i64 ((w64 (u0 + (1 : Int))))) rfl rfl .plain (fun _ _ hd => P_int rfl rfl rfl) ?_
       refine L_pur (c := ePtr up0 (w64 (u0 + (1 : Int))) 5) rfl rfl .plain (fun _ _ hd => P_indexAddrM (α := FaultDamage) Try.underlying29 Try.sizeOf62 rfl m3 rfl lB) ?_
       refine L_ld (c := dH) rfl rfl .plain (fun _ _ h => ⟨h.ch, fun b hb _ => h.below.block b hb⟩) xF rfl ?_
       refine L_pur (c := up0) rfl rfl .plain (fun _ _ hd => P_move o4) ?_
       refine L_pur (c := .int .i64 (u0)) rfl rfl .plain (fun _ _ hd => P_move i4) ?_
       refine L_pur (c := ePtr up0 u0 5) rfl rfl .plain (fun _ _ hd => P_indexAddrM (α := FaultDamage) Try.underlying29 Try.sizeOf62 rfl m3 rfl mB) ?_
       refine L_ld (c := gH) rfl rfl .plain (fun _ _ h => ⟨h.ch, fun b hb _ => h.below.block b hb⟩) yF rfl ?_
       refine L_pur (c := ePtr up0 u0 5) rfl rfl .plain (fun _ _ hd => P_indexAddrM (α := FaultDamage) Try.underlying29 Try.sizeOf62 rfl m3 rfl nB) ?_
       refine L_nil fun iH bK hall => ?_
       have hs := hall.1
       have hfr := hfr.ext hs
       have m3 := m3.ext hs
       have dB := dB.ext hs
       have p6 := p6.ext hs
       clear hs hall
       refine TL_do .plain rfl (D_storeM (g := iH) (α := FaultDamage) (a' := g8) Try.sizeOf62 rfl m3 nB rfl dB fun jH cK hs b399 => ?_)
       have hfr := hfr.stp hs
       have p6 := p6.stp hs
       obtain ⟨xG, oB, h⟩ := bsome h
       refine TL_pur (v := ePtr up0 (w64 (u0 + (1 : Int))) 5) (P_indexAddrM (α := FaultDamage) Try.underlying29 Try.sizeOf62 rfl b399 rfl oB) .plain rfl ?_
       refine TL_do .plain rfl (D_storeM (g := jH) (α := FaultDamage) (a' := cB) Try.sizeOf62 rfl b399 oB rfl p6 fun kH dK hs b401 => ?_)
       have hfr := hfr.stp hs
       refine TL_nil ?_
       refine blk_n ?_
       obtain rfl := sinj h
       exact hQ _ _ ⟨kH, hfr, o4, b401, bC, i4⟩
      ·clear hx
       obtain ⟨lH, hfr, yD, zD, cC, dC⟩ := hR
       refine E_region (EL_mv dC rfl ?_)
       refine EL_in (.int .i64 ((w64 (u0 + (1 : Int))))) rfl rfl rfl rfl ?_
       refine EL_at (.int .i64 ((w64 (u0 + (1 : Int))))) rfl rfl ?_
       exact EL_nil (thn_n (uF (d5, (w64 (u0 + (1 : Int)))) _ _ ⟨lH, hfr, yD, zD, cC, rfl⟩ h))
    ·clear hx
     obtain ⟨eK, hfr, kI, aE⟩ := hR
     refine E_ret (thn_r ?_)
     obtain rfl := sinj h
     exact end0 rfl rfl ⟨_, hfr, rfl, j6.back aE⟩
  ·refine E_cf i8 rfl ?_
   exact E_skip (thn_n (oF (x0) _ _ ⟨g0, hfr, rfl, mp0, rfl, rfl, rfl, rfl⟩ h))
 ·rintro s2 tI gK ⟨bE, hfr, e9, g9, i9, i5, j9, k9⟩ h
  refine E_joinC h (fun (s : (List FaultDamage)) e w => ∃ (g : Gh) , FrM iI gI wI g w ∧ e 0 = up0 ∧ OM 1 g w 62 (s : List FaultDamage) up0 ∧ e 1 = .int .i64 (x1) ∧ e 2 = .int .i64 (x2) ∧ e 3 = .int .i64 (x3) ∧ e 4 = (.func (.func ff4) fa4 fc4)) (fun X608 aD zF h => ?_) ?_
  ·refine E_seq (E_region (EL_mv j9 rfl ?_))
   refine EL_mv i5 rfl ?_
   refine EL_in (.int .i64 ((w64 (x3 - x2)))) rfl rfl rfl rfl ?_
   refine EL_in (.bool (((w64 (x3 - x2)) == (1 : Int)))) rfl rfl rfl rfl ?_
   refine EL_nil (thn_n ?_)
   rcases csome h with ⟨m8, h⟩ | ⟨m8, h⟩
   ·refine E_ct m8 rfl ?_
    refine E_seq (E_region (EL_mv i9 rfl ?_))
    refine EL_at (.int .i64 (x1)) rfl rfl ?_
    refine EL_nil (thn_n (E_seq (E_region (EL_mv i5 rfl ?_))))
    refine EL_at (.int .i64 (x2)) rfl rfl ?_
    refine EL_nil (thn_n ?_)
    obtain ⟨z2, hx, h⟩ := bsome h
    refine E_join (fun e w => ∃ (g : Gh) , FrM iI gI wI g w ∧ e 0 = up0 ∧ OM 1 g w 62 (s2 : List FaultDamage) up0 ∧ e 2 = .int .i64 (x2) ∧ e 14 = .int .i64 (z2)) (fun Q' hQ => ?_) (fun uI iK hR => ?_)
    ·replace h := hx
     clear hx
     refine E_block ?_
     refine E_lp h (fun (s : Int × Int) e w => ∃ (g : Gh) , FrM iI gI wI g w ∧ e 0 = up0 ∧ OM 1 g w 62 (s2 : List FaultDamage) up0 ∧ e 2 = .int .i64 (x2) ∧ e 4 = (.func (.func ff4) fa4 fc4) ∧ e 14 = .int .i64 (s.1) ∧ e 15 = .int .i64 (s.2)) ⟨bE, hfr, e9, g9, i5, k9, rfl, rfl⟩ (fun X649 zA pB => ?_)
     rintro ⟨j1, d2⟩ vI jK ⟨cE, hfr, l9, m9, n9, dE, y5, m7⟩ h
     refine E_joinC h (fun (s : Unit) e w => ∃ (g : Gh) , FrM iI gI wI g w ∧ e 0 = up0 ∧ OM 1 g w 62 (s2 : List FaultDamage) up0 ∧ e 2 = .int .i64 (x2) ∧ e 4 = (.func (.func ff4) fa4 fc4) ∧ e 14 = .int .i64 (j1) ∧ e 15 = .int .i64 (d2)) (fun X652 dD aG h => ?_) ?_
     ·refine E_seq (E_region (EL_mv y5 rfl ?_))
      refine EL_mv m7 rfl ?_
      refine EL_in (.bool ((decide (j1 < d2)))) rfl rfl rfl rfl ?_
      refine EL_nil (thn_n ?_)
      rcases csome h with ⟨n8, h⟩ | ⟨n8, h⟩
      ·refine E_ct n8 rfl ?_
       exact E_skip (thn_n (aG () _ _ ⟨cE, hfr, l9, m9, n9, dE, y5, m7⟩ h))
      ·refine E_cf n8 rfl ?_
       refine E_exit ?_
       refine thn_e ?_
       refine thn_e ?_
       refine blk_hit ?_
       obtain rfl := sinj h
       exact hQ _ _ ⟨cE, hfr, l9, m9, n9, y5⟩
     ·rintro _ xI kK ⟨mH, hfr, j5, o3, q6, r6, n7, o7⟩ h
      refine E_block ?_
      refine E_seq (E_region (EL_mv n7 rfl ?_))
      refine EL_mv o7 rfl ?_
      refine EL_in (.int .i64 ((w64 (j1 + d2)))) rfl rfl rfl rfl ?_
      refine EL_pur (v := .int .u64 (wu64 (w64 (j1 + d2)))) (P_intu64 Try.underlying3 Try.underlying121 rfl) .plain rfl ?_
      obtain ⟨j2, bG, h⟩ := bsome h
      refine EL_pur (v := .int .u64 (j2)) (P_shrU rfl rfl bG) .plain rfl ?_
      refine EL_pur (v := .int .i64 ((w64 j2))) (P_u64int Try.underlying121 Try.underlying3 rfl) .plain rfl ?_
      refine EL_at (.int .i64 ((w64 j2))) rfl rfl ?_
      refine EL_nil (thn_n (E_seq ?_))
      obtain ⟨bD, qB, h⟩ := bsome h
      refine L_loadM (x := .tmp 95) Try.isAgg62 Try.sizeOf62 o3 qB fun eE nH cG => ?_
      obtain ⟨cD, rB, h⟩ := bsome h
      refine L_loadM (x := .tmp 99) Try.isAgg62 Try.sizeOf62 o3 rB fun gE oH dG => ?_
      obtain ⟨u5, eG, h⟩ := bsome h
      refine E_drawL (g := mH) (n := 12) [(9, (fun v g w => v = .int .i64 (u5)))] [0, 1, 2, 3, 4, 5, 6, 7, 8, 9, 10, 11] rfl mixed (by kernel_rfl) (⟨fun _ => up_eq _, trivial⟩) ?_
      refine L_pur (c := (.func (.func ff4) fa4 fc4)) rfl rfl .plain (fun _ _ hd => P_move r6) ?_
      refine L_pur (c := up0) rfl rfl .plain (fun _ _ hd => P_move j5) ?_
      refine L_pur (c := .int .i64 (x2)) rfl rfl .plain (fun _ _ hd => P_move q6) ?_
      refine L_pur (c := ePtr up0 x2 5) rfl rfl .plain (fun _ _ hd => P_indexAddrM (α := FaultDamage) Try.underlying29 Try.sizeOf62 rfl o3 rfl qB) ?_
      refine L_ld (c := eE) rfl rfl .plain (fun _ _ h => ⟨h.ch, fun b hb _ => h.below.block b hb⟩) cG rfl ?_
      refine L_pur (c := up0) rfl rfl .plain (fun _ _ hd => P_move j5) ?_
      refine L_pur (c := .int .i64 ((w64 j2))) rfl rfl .plain (fun _ _ hd => P_move rfl) ?_
      refine L_pur (c := ePtr up0 (w64 j2) 5) rfl rfl .plain (fun _ _ hd => P_indexAddrM (α := FaultDamage) Try.underlying29 Try.sizeOf62 rfl o3 rfl rB) ?_
      refine L_ld (c := gE) rfl rfl .plain (fun _ _ h => ⟨h.ch, fun b hb _ => h.below.block b hb⟩) dG rfl ?_
      refine L_do (φ := fun v g w => v = .int .i64 (u5)) rfl rfl .plain (fun g w hd => D_callv (g := g) (vs := [eE, gE]) rfl fen4 (.cons rfl (.cons rfl .nil)) (fcl4 _ _ (hfr.ext hd.1).ch _ _ _ _ _  (nH.ext hd.1) (oH.ext hd.1) eG) fun g' w' v hs hr => ⟨g', hs, RV_int.1 hr⟩) (fun lK hv => ?_)
      obtain ⟨_, _, _, rfl⟩ := hv
      refine L_pur (c := .bool ((decide (u5 < (0 : Int))))) rfl rfl .plain (fun _ _ hd => P_int rfl rfl rfl) ?_
      refine L_pur (c := .bool (!(decide (u5 < (0 : Int))))) rfl rfl .plain (fun _ _ hd => P_not rfl) ?_
      refine L_nil fun iE mK hall => ?_
      have hs := hall.1
      have hfr := hfr.ext hs
      have o3 := o3.ext hs
      clear hs hall
      refine EL_nil (thn_n ?_)
      rcases csome h with ⟨o8, h⟩ | ⟨o8, h⟩
      ·refine E_ct o8 rfl ?_
       refine E_region (EL_mw (.int .i64 ((w64 j2))) rfl rfl ?_)
       refine EL_in (.int .i64 ((w64 ((w64 j2) + (1 : Int))))) rfl rfl rfl rfl ?_
       refine EL_at (.int .i64 ((w64 ((w64 j2) + (1 : Int))))) rfl rfl ?_
       exact EL_nil (blk_n (thn_n (pB ((w64 ((w64 j2) + (1 : Int))), d2) _ _ ⟨iE, hfr, j5, o3, q6, r6, rfl, o7⟩ h)))
      ·refine E_cf o8 rfl ?_
       refine E_region (EL_mw (.int .i64 ((w64 j2))) rfl rfl ?_)
       refine EL_at (.int .i64 ((w64 j2))) rfl rfl ?_
       exact EL_nil (blk_n (thn_n (pB (j1, (w64 j2)) _ _ ⟨iE, hfr, j5, o3, q6, r6, n7, rfl⟩ h)))
    ·clear hx
     obtain ⟨pH, hfr, jE, kE, lE, eC⟩ := hR
     obtain ⟨k6, hx, h⟩ := bsome h
     refine E_join (fun e w => ∃ (g : Gh) , FrM iI gI wI g w ∧ e 0 = up0 ∧ OM 1 g w 62 (k6 : List FaultDamage) up0) (fun Q' hQ => ?_) (fun yI nK hR => ?_)
     ·replace h := hx
      clear hx
      refine E_seq (E_region (EL_mv lE rfl ?_))
      refine EL_at (.int .i64 (x2)) rfl rfl ?_
      refine EL_nil (thn_n (E_block ?_))
      refine E_lp h (fun (s : (List FaultDamage) × Int) e w => ∃ (g : Gh) , FrM iI gI wI g w ∧ e 0 = up0 ∧ OM 1 g w 62 (s.1 : List FaultDamage) up0 ∧ e 14 = .int .i64 (z2) ∧ e 17 = .int .i64 (s.2)) ⟨pH, hfr, jE, kE, eC, rfl⟩ (fun X750 eD gG => ?_)
      rintro ⟨d3, o0⟩ zI oK ⟨mE, hfr, o9, p9, p7, q7⟩ h
      refine E_joinC h (fun (s : Unit) e w => ∃ (g : Gh) , FrM iI gI wI g w ∧ e 0 = up0 ∧ OM 1 g w 62 (d3 : List FaultDamage) up0 ∧ e 14 = .int .i64 (z2) ∧ e 17 = .int .i64 (o0)) (fun X753 gD hG h => ?_) ?_
      ·refine E_seq (E_region (EL_mv q7 rfl ?_))
       refine EL_mv p7 rfl ?_
       refine EL_in (.bool ((decide (o0 > z2)))) rfl rfl rfl rfl ?_
       refine EL_nil (thn_n ?_)
       rcases csome h with ⟨p8, h⟩ | ⟨p8, h⟩
       ·refine E_ct p8 rfl ?_
        exact E_skip (thn_n (hG () _ _ ⟨mE, hfr, o9, p9, p7, q7⟩ h))
       ·refine E_cf p8 rfl ?_
        refine E_exit ?_
        refine thn_e ?_
        refine thn_e ?_
        refine blk_hit ?_
        obtain rfl := sinj h
        exact hQ _ _ ⟨mE, hfr, o9, p9⟩
      ·rintro _ aJ pK ⟨qH, hfr, p4, p3, iC, j4⟩ h
       obtain ⟨c5, hx, h⟩ := bsome h
       refine E_join (fun e w => ∃ (g : Gh) , FrM iI gI wI g w ∧ e 0 = up0 ∧ OM 1 g w 62 (c5 : List FaultDamage) up0 ∧ e 14 = .int .i64 (z2) ∧ e 17 = .int .i64 (o0)) (fun Q' hQ => ?_) (fun bJ qK hR => ?_)
       ·replace h := hx
        clear hx
        refine E_block ?_
        obtain ⟨e8, sB, h⟩ := bsome h
        refine L_loadM (x := .tmp 121) Try.isAgg62 Try.sizeOf62 p3 sB fun sH eB iG => ?_
        obtain ⟨aB, tB, h⟩ := bsome h
        refine L_loadM (x := .tmp 125) Try.isAgg62 Try.sizeOf62 p3 tB fun tH s6 jG => ?_
        obtain ⟨tG, uB, h⟩ := bsome h
        refine E_drawTL (g := qH) (n := 15) [2, 3, 4] [] [0, 1, 2, 3, 4, 5, 6, 7, 8, 9, 10, 11, 12, 13, 14] rfl mixed (by kernel_rfl) trivial rfl ?_
        refine L_pur (c := up0) rfl rfl .plain (fun _ _ hd => P_move p4) ?_
        refine L_pur (c := .int .i64 (o0)) rfl rfl .plain (fun _ _ hd => P_move j4) ?_
        refine L_purL (c := up0) rfl rfl .plain (P_move p4) ?_
        refine L_purL (c := .int .i64 (o0)) rfl rfl .plain (P_move j4) ?_
        refine L_purL (c := .int .i64 ((w64 (o0 - (1 : Int))))) rfl rfl .plain (P_int rfl rfl rfl) ?_
        refine L_pur (c := up0) rfl rfl .plain (fun _ _ hd => P_move p4) ?_
        refine L_pur (c := .int .i64 (o0)) rfl rfl .plain (fun _ _ hd => P_move j4) ?_
        refine L_pur (c := .int .i64 ((w64 (o0 - (1 : Int))))) rfl rfl .plain (fun _ _ hd => P_int rfl rfl rfl) ?_
        refine L_pur (c := ePtr up0 (w64 (o0 - (1 : Int))) 5) rfl rfl .plain (fun _ _ hd => P_indexAddrM (α := FaultDamage) Try.underlying29 Try.sizeOf62 rfl p3 rfl sB) ?_
        refine L_ld (c := sH) rfl rfl .plain (fun _ _ h => ⟨h.ch, fun b hb _ => h.below.block b hb⟩) iG rfl ?_
        refine L_pur (c := up0) rfl rfl .plain (fun _ _ hd => P_move p4) ?_
        refine L_pur (c := .int .i64 (o0)) rfl rfl .plain (fun _ _ hd => P_move j4) ?_
        refine L_pur (c := ePtr up0 o0 5) rfl rfl .plain (fun _ _ hd => P_indexAddrM (α := FaultDamage) Try.underlying29 Try.sizeOf62 rfl p3 rfl tB) ?_
        refine L_ld (c := tH) rfl rfl .plain (fun _ _ h => ⟨h.ch, fun b hb _ => h.below.block b hb⟩) jG rfl ?_
        refine L_pur (c := ePtr up0 o0 5) rfl rfl .plain (fun _ _ hd => P_indexAddrM (α := FaultDamage) Try.underlying29 Try.sizeOf62 rfl p3 rfl uB) ?_
        refine L_nil fun uH sK hall => ?_
        have hs := hall.1
        have hfr := hfr.ext hs
        have p3 := p3.ext hs
        have eB := eB.ext hs
        have s6 := s6.ext hs
        clear hs hall
        refine TL_do .plain rfl (D_storeM (g := uH) (α := FaultDamage) (a' := e8) Try.sizeOf62 rfl p3 uB rfl eB fun vH tK hs b807 => ?_)
        have hfr := hfr.stp hs
        have s6 := s6.stp hs
        obtain ⟨uG, vB, h⟩ := bsome h
        refine TL_pur (v := ePtr up0 (w64 (o0 - (1 : Int))) 5) (P_indexAddrM (α := FaultDamage) Try.underlying29 Try.sizeOf62 rfl b807 rfl vB) .plain rfl ?_
        refine TL_do .plain rfl (D_storeM (g := vH) (α := FaultDamage) (a' := aB) Try.sizeOf62 rfl b807 vB rfl s6 fun xH uK hs b809 => ?_)
        have hfr := hfr.stp hs
        refine TL_nil ?_
        refine blk_n ?_
        obtain rfl := sinj h
        exact hQ _ _ ⟨xH, hfr, p4, b809, iC, j4⟩
       ·clear hx
        obtain ⟨yH, hfr, nE, oE, jC, kC⟩ := hR
        refine E_region (EL_mv kC rfl ?_)
        refine EL_in (.int .i64 ((w64 (o0 - (1 : Int))))) rfl rfl rfl rfl ?_
        refine EL_at (.int .i64 ((w64 (o0 - (1 : Int))))) rfl rfl ?_
        exact EL_nil (thn_n (gG (c5, (w64 (o0 - (1 : Int)))) _ _ ⟨yH, hfr, nE, oE, jC, rfl⟩ h))
     ·clear hx
      obtain ⟨vK, hfr, lI, pE⟩ := hR
      refine E_ret (thn_r ?_)
      obtain rfl := sinj h
      exact end0 rfl rfl ⟨_, hfr, rfl, j6.back pE⟩
   ·refine E_cf m8 rfl ?_
    exact E_skip (thn_n (zF (s2) _ _ ⟨bE, hfr, e9, g9, i9, i5, j9, k9⟩ h))
  ·rintro p2 cJ xK ⟨qE, hfr, q9, r9, l5, q4, m5, s9⟩ h
   refine E_seq (E_region (EL_mv l5 rfl ?_))
   refine EL_mv m5 rfl ?_
   refine EL_in (.int .i64 ((w64 (x1 + x3)))) rfl rfl rfl rfl ?_
   refine EL_pur (v := .int .u64 (wu64 (w64 (x1 + x3)))) (P_intu64 Try.underlying3 Try.underlying121 rfl) .plain rfl ?_
   obtain ⟨n0, kG, h⟩ := bsome h
   refine EL_pur (v := .int .u64 (n0)) (P_shrU rfl rfl kG) .plain rfl ?_
   refine EL_pur (v := .int .i64 ((w64 n0))) (P_u64int Try.underlying121 Try.underlying3 rfl) .plain rfl ?_
   refine EL_at (.int .i64 ((w64 n0))) rfl rfl ?_
   refine EL_nil (thn_n (E_seq (E_region (EL_mw (.int .i64 ((w64 n0))) rfl rfl ?_))))
   refine EL_mv q4 rfl ?_
   refine EL_in (.int .i64 ((w64 ((w64 n0) + x2)))) rfl rfl rfl rfl ?_
   refine EL_at (.int .i64 ((w64 ((w64 n0) + x2)))) rfl rfl ?_
   refine EL_nil (thn_n (E_seq (E_region (EL_at (.int .i64 (0)) rfl rfl ?_))))
   refine EL_at (.int .i64 (0)) rfl rfl ?_
   refine EL_nil (thn_n ?_)
   obtain ⟨⟨p5, q5⟩, hx, h⟩ := bsome h
   refine E_join (fun e w => ∃ (g : Gh) , FrM iI gI wI g w ∧ e 0 = up0 ∧ OM 1 g w 62 (p2 : List FaultDamage) up0 ∧ e 1 = .int .i64 (x1) ∧ e 2 = .int .i64 (x2) ∧ e 3 = .int .i64 (x3) ∧ e 4 = (.func (.func ff4) fa4 fc4) ∧ e 18 = .int .i64 ((w64 n0)) ∧ e 19 = .int .i64 ((w64 ((w64 n0) + x2))) ∧ e 20 = .int .i64 (p5) ∧ e 21 = .int .i64 (q5)) (fun Q' hQ => ?_) (fun dJ yK hR => ?_)
   ·replace h := hx
    clear hx
    refine E_seq (E_region (EL_mv q4 rfl ?_))
    refine EL_mw (.int .i64 ((w64 n0))) rfl rfl ?_
    refine EL_in (.bool ((decide (x2 > (w64 n0))))) rfl rfl rfl rfl ?_
    refine EL_nil (thn_n ?_)
    rcases csome h with ⟨q8, h⟩ | ⟨q8, h⟩
    ·refine E_ct q8 rfl ?_
     refine E_seq (E_region (EL_mw (.int .i64 ((w64 ((w64 n0) + x2)))) rfl rfl ?_))
     refine EL_mv m5 rfl ?_
     refine EL_pur (v := .int .i64 ((w64 ((w64 ((w64 n0) + x2)) - x3)))) (P_int rfl rfl rfl) .plain rfl ?_
     refine EL_pur (v := .int .i64 ((w64 ((w64 ((w64 n0) + x2)) - x3)))) (P_assign rfl) .plain rfl ?_
     refine EL_nil (thn_n (E_region (EL_mw (.int .i64 ((w64 n0))) rfl rfl ?_)))
     refine EL_at (.int .i64 ((w64 n0))) rfl rfl ?_
     refine EL_nil ?_
     obtain ⟨rfl, rfl⟩ := pairs2 h
     exact hQ _ _ ⟨qE, hfr, q9, r9, l5, q4, m5, s9, rfl, rfl, rfl, rfl⟩
    ·refine E_cf q8 rfl ?_
     refine E_seq (E_region (EL_mv l5 rfl ?_))
     refine EL_at (.int .i64 (x1)) rfl rfl ?_
     refine EL_nil (thn_n (E_region (EL_mv q4 rfl ?_)))
     refine EL_at (.int .i64 (x2)) rfl rfl ?_
     refine EL_nil ?_
     obtain ⟨rfl, rfl⟩ := pairs2 h
     exact hQ _ _ ⟨qE, hfr, q9, r9, l5, q4, m5, s9, rfl, rfl, rfl, rfl⟩
   ·clear hx
    obtain ⟨zH, hfr, rE, sE, tE, uE, vE, xE, lC, r7, mC, nC⟩ := hR
    refine E_seq (E_region (EL_mv r7 rfl ?_))
    refine EL_pur (v := .int .i64 ((w64 ((w64 ((w64 n0) + x2)) - (1 : Int))))) (P_int rfl rfl rfl) .plain rfl ?_
    refine EL_pur (v := .int .i64 ((w64 ((w64 ((w64 n0) + x2)) - (1 : Int))))) (P_assign rfl) .plain rfl ?_
    refine EL_nil (thn_n ?_)
    obtain ⟨j0, hx, h⟩ := bsome h
    refine E_join (fun e w => ∃ (g : Gh) , FrM iI gI wI g w ∧ e 0 = up0 ∧ OM 1 g w 62 (p2 : List FaultDamage) up0 ∧ e 1 = .int .i64 (x1) ∧ e 2 = .int .i64 (x2) ∧ e 3 = .int .i64 (x3) ∧ e 4 = (.func (.func ff4) fa4 fc4) ∧ e 18 = .int .i64 ((w64 n0)) ∧ e 19 = .int .i64 ((w64 ((w64 n0) + x2))) ∧ e 20 = .int .i64 (j0)) (fun Q' hQ => ?_) (fun eJ zK hR => ?_)
    ·replace h := hx
     clear hx
     refine E_block ?_
     refine E_lp h (fun (s : Int × Int) e w => ∃ (g : Gh) , FrM iI gI wI g w ∧ e 0 = up0 ∧ OM 1 g w 62 (p2 : List FaultDamage) up0 ∧ e 1 = .int .i64 (x1) ∧ e 2 = .int .i64 (x2) ∧ e 3 = .int .i64 (x3) ∧ e 4 = (.func (.func ff4) fa4 fc4) ∧ e 18 = .int .i64 ((w64 n0)) ∧ e 19 = .int .i64 ((w64 ((w64 n0) + x2))) ∧ e 20 = .int .i64 (s.1) ∧ e 21 = .int .i64 (s.2) ∧ e 22 = .int .i64 ((w64 ((w64 ((w64 n0) + x2)) - (1 : Int))))) ⟨zH, hfr, rE, sE, tE, uE, vE, xE, lC, r7, mC, nC, rfl⟩ (fun X863 yA xB => ?_)
     rintro ⟨i1, z1⟩ gJ aL ⟨yE, hfr, t9, u9, v9, x9, y9, z9, s7, t7, z5, u7, oC⟩ h
     refine E_joinC h (fun (s : Unit) e w => ∃ (g : Gh) , FrM iI gI wI g w ∧ e 0 = up0 ∧ OM 1 g w 62 (p2 : List FaultDamage) up0 ∧ e 1 = .int .i64 (x1) ∧ e 2 = .int .i64 (x2) ∧ e 3 = .int .i64 (x3) ∧ e 4 = (.func (.func ff4) fa4 fc4) ∧ e 18 = .int .i64 ((w64 n0)) ∧ e 19 = .int .i64 ((w64 ((w64 n0) + x2))) ∧ e 20 = .int .i64 (i1) ∧ e 21 = .int .i64 (z1) ∧ e 22 = .int .i64 ((w64 ((w64 ((w64 n0) + x2)) - (1 : Int))))) (fun X866 vC lG h => ?_) ?_
     ·refine E_seq (E_region (EL_mv z5 rfl ?_))
      refine EL_mv u7 rfl ?_
      refine EL_in (.bool ((decide (i1 < z1)))) rfl rfl rfl rfl ?_
      refine EL_nil (thn_n ?_)
      rcases csome h with ⟨r8, h⟩ | ⟨r8, h⟩
      ·refine E_ct r8 rfl ?_
       exact E_skip (thn_n (lG () _ _ ⟨yE, hfr, t9, u9, v9, x9, y9, z9, s7, t7, z5, u7, oC⟩ h))
      ·refine E_cf r8 rfl ?_
       refine E_exit ?_
       refine thn_e ?_
       refine thn_e ?_
       refine blk_hit ?_
       obtain rfl := sinj h
       exact hQ _ _ ⟨yE, hfr, t9, u9, v9, x9, y9, z9, s7, t7, z5⟩
     ·rintro _ iJ bL ⟨aI, hfr, n5, q3, aA, bA, cA, t6, v7, x7, y7, z7, a6⟩ h
      refine E_block ?_
      refine E_seq (E_region (EL_mv y7 rfl ?_))
      refine EL_mv z7 rfl ?_
      refine EL_in (.int .i64 ((w64 (i1 + z1)))) rfl rfl rfl rfl ?_
      refine EL_pur (v := .int .u64 (wu64 (w64 (i1 + z1)))) (P_intu64 Try.underlying3 Try.underlying121 rfl) .plain rfl ?_
      obtain ⟨y0, mG, h⟩ := bsome h
      refine EL_pur (v := .int .u64 (y0)) (P_shrU rfl rfl mG) .plain rfl ?_
      refine EL_pur (v := .int .i64 ((w64 y0))) (P_u64int Try.underlying121 Try.underlying3 rfl) .plain rfl ?_
      refine EL_at (.int .i64 ((w64 y0))) rfl rfl ?_
      refine EL_nil (thn_n (E_seq ?_))
      obtain ⟨tC, yB, h⟩ := bsome h
      refine L_loadM (x := .tmp 163) Try.isAgg62 Try.sizeOf62 q3 yB fun zE bI nG => ?_
      obtain ⟨uC, zB, h⟩ := bsome h
      refine L_loadM (x := .tmp 167) Try.isAgg62 Try.sizeOf62 q3 zB fun aF cI oG => ?_
      obtain ⟨t5, pG, h⟩ := bsome h
      refine E_drawL (g := aI) (n := 14) [(11, (fun v g w => v = .int .i64 (t5)))] [0, 1, 2, 3, 4, 5, 6, 7, 8, 9, 10, 11, 12, 13] rfl mixed (by kernel_rfl) (⟨fun _ => up_eq _, trivial⟩) ?_
      refine L_pur (c := (.func (.func ff4) fa4 fc4)) rfl rfl .plain (fun _ _ hd => P_move t6) ?_
      refine L_pur (c := up0) rfl rfl .plain (fun _ _ hd => P_move n5) ?_
      refine L_pur (c := .int .i64 ((w64 ((w64 ((w64 n0) + x2)) - (1 : Int))))) rfl rfl .plain (fun _ _ hd => P_move a6) ?_
      refine L_pur (c := .int .i64 ((w64 y0))) rfl rfl .plain (fun _ _ hd => P_move rfl) ?_
      refine L_pur (c := .int .i64 ((w64 ((w64 ((w64 ((w64 n0) + x2)) - (1 : Int))) - (w64 y0))))) rfl rfl .plain (fun _ _ hd => P_int rfl rfl rfl) ?_
      refine L_pur (c := ePtr up0 (w64 ((w64 ((w64 ((w64 n0) + x2)) - (1 : Int))) - (w64 y0))) 5) rfl rfl .plain (fun _ _ hd => P_indexAddrM (α := FaultDamage) Try.underlying29 Try.sizeOf62 rfl q3 rfl yB) ?_
      refine L_ld (c := zE) rfl rfl .plain (fun _ _ h => ⟨h.ch, fun b hb _ => h.below.block b hb⟩) nG rfl ?_
      refine L_pur (c := up0) rfl rfl .plain (fun _ _ hd => P_move n5) ?_
      refine L_pur (c := .int .i64 ((w64 y0))) rfl rfl .plain (fun _ _ hd => P_move rfl) ?_
      refine L_pur (c := ePtr up0 (w64 y0) 5) rfl rfl .plain (fun _ _ hd => P_indexAddrM (α := FaultDamage) Try.underlying29 Try.sizeOf62 rfl q3 rfl zB) ?_
      refine L_ld (c := aF) rfl rfl .plain (fun _ _ h => ⟨h.ch, fun b hb _ => h.below.block b hb⟩) oG rfl ?_
      refine L_do (φ := fun v g w => v = .int .i64 (t5)) rfl rfl .plain (fun g w hd => D_callv (g := g) (vs := [zE, aF]) rfl fen4 (.cons rfl (.cons rfl .nil)) (fcl4 _ _ (hfr.ext hd.1).ch _ _ _ _ _  (bI.ext hd.1) (cI.ext hd.1) pG) fun g' w' v hs hr => ⟨g', hs, RV_int.1 hr⟩) (fun cL hv => ?_)
      obtain ⟨_, _, _, rfl⟩ := hv
      refine L_pur (c := .bool ((decide (t5 < (0 : Int))))) rfl rfl .plain (fun _ _ hd => P_int rfl rfl rfl) ?_
      refine L_pur (c := .bool (!(decide (t5 < (0 : Int))))) rfl rfl .plain (fun _ _ hd => P_not rfl) ?_
      refine L_nil fun bF dL hall => ?_
      have hs := hall.1
      have hfr := hfr.ext hs
      have q3 := q3.ext hs
      clear hs hall
      refine EL_nil (thn_n ?_)
      rcases csome h with ⟨t8, h⟩ | ⟨t8, h⟩
      ·refine E_ct t8 rfl ?_
       refine E_region (EL_mw (.int .i64 ((w64 y0))) rfl rfl ?_)
       refine EL_in (.int .i64 ((w64 ((w64 y0) + (1 : Int))))) rfl rfl rfl rfl ?_
       refine EL_at (.int .i64 ((w64 ((w64 y0) + (1 : Int))))) rfl rfl ?_
       exact EL_nil (blk_n (thn_n (xB ((w64 ((w64 y0) + (1 : Int))), z1) _ _ ⟨bF, hfr, n5, q3, aA, bA, cA, t6, v7, x7, rfl, z7, a6⟩ h)))
      ·refine E_cf t8 rfl ?_
       refine E_region (EL_mw (.int .i64 ((w64 y0))) rfl rfl ?_)
       refine EL_at (.int .i64 ((w64 y0))) rfl rfl ?_
       exact EL_nil (blk_n (thn_n (xB (i1, (w64 y0)) _ _ ⟨bF, hfr, n5, q3, aA, bA, cA, t6, v7, x7, y7, rfl, a6⟩ h)))
    ·clear hx
     obtain ⟨cF, hfr, dA, eA, gA, o5, iA, jA, a8, pC, s4⟩ := hR
     refine E_seq (E_region (EL_mv pC rfl ?_))
     refine EL_mv s4 rfl ?_
     refine EL_pur (v := .int .i64 ((w64 ((w64 ((w64 n0) + x2)) - j0)))) (P_int rfl rfl rfl) .plain rfl ?_
     refine EL_pur (v := .int .i64 ((w64 ((w64 ((w64 n0) + x2)) - j0)))) (P_assign rfl) .plain rfl ?_
     refine EL_nil (thn_n ?_)
     obtain ⟨m4, hx, h⟩ := bsome h
     refine E_join (fun e w => ∃ (g : Gh) , FrM iI gI wI g w ∧ e 0 = up0 ∧ OM 1 g w 62 (m4 : List FaultDamage) up0 ∧ e 1 = .int .i64 (x1) ∧ e 3 = .int .i64 (x3) ∧ e 4 = (.func (.func ff4) fa4 fc4) ∧ e 18 = .int .i64 ((w64 n0)) ∧ e 20 = .int .i64 (j0) ∧ e 24 = .int .i64 ((w64 ((w64 ((w64 n0) + x2)) - j0)))) (fun Q' hQ => ?_) (fun jJ eL hR => ?_)
     ·replace h := hx
      clear hx
      obtain ⟨c4, hx, h⟩ := bsome h
      refine E_join (fun e w => ∃ (g : Gh) , FrM iI gI wI g w ∧ e 0 = up0 ∧ OM 1 g w 62 (p2 : List FaultDamage) up0 ∧ e 1 = .int .i64 (x1) ∧ e 2 = .int .i64 (x2) ∧ e 3 = .int .i64 (x3) ∧ e 4 = (.func (.func ff4) fa4 fc4) ∧ e 18 = .int .i64 ((w64 n0)) ∧ e 20 = .int .i64 (j0) ∧ e 24 = .int .i64 ((w64 ((w64 ((w64 n0) + x2)) - j0))) ∧ e 185 = .bool (c4)) (fun Q' hQ => ?_) (fun kJ gL hR => ?_)
      ·replace h := hx
       clear hx
       refine E_region (EL_mv s4 rfl ?_)
       refine EL_mv o5 rfl ?_
       refine EL_in (.bool ((decide (j0 < x2)))) rfl rfl rfl rfl ?_
       refine EL_mw (.bool ((decide (j0 < x2)))) rfl rfl ?_
       rcases csome h with ⟨s3, h⟩ | ⟨s3, h⟩
       ·refine EL_pur (v := .int .i64 (x2)) (P_move o5) (.yes2 rfl rfl s3) rfl ?_
        refine EL_pur (v := .int .i64 ((w64 ((w64 ((w64 n0) + x2)) - j0)))) (P_move rfl) (.yes2 rfl rfl s3) rfl ?_
        refine EL_pur (v := .bool ((decide (x2 < (w64 ((w64 ((w64 n0) + x2)) - j0)))))) (P_int rfl rfl rfl) (.yes2 rfl rfl s3) rfl ?_
        refine EL_pur (v := .bool ((decide (x2 < (w64 ((w64 ((w64 n0) + x2)) - j0)))))) (P_pick (b := (decide (j0 < x2))) rfl (pick_t s3 rfl)) .plain rfl ?_
        refine EL_nil ?_
        obtain rfl := sinj h
        exact hQ _ _ ⟨cF, hfr, dA, eA, gA, o5, iA, jA, a8, s4, rfl, rfl⟩
       ·refine EL_skip (.no2 rfl rfl s3 rfl) rfl ?_
        refine EL_skip (.no2 rfl rfl s3 rfl) rfl ?_
        refine EL_skip (.no2 rfl rfl s3 rfl) rfl ?_
        refine EL_pur (v := .bool false) (P_pick (b := (decide (j0 < x2))) rfl (pick_f s3 rfl)) .plain rfl ?_
        refine EL_nil ?_
        obtain rfl := sinj h
        exact hQ _ _ ⟨cF, hfr, dA, eA, gA, o5, iA, jA, a8, s4, rfl, rfl⟩
      ·clear hx
       obtain ⟨dF, hfr, u6, kA, lA, eF, mA, v6, b8, b6, c6, x6⟩ := hR
       rcases csome h with ⟨v8, h⟩ | ⟨v8, h⟩
       ·refine E_cond_true (Eq.trans (show ev _ _ = .bool (c4) from x6) (congrArg Value.bool v8)) ?_
        refine E_region (EL_mv u6 rfl ?_)
        refine EL_mv b6 rfl ?_
        refine EL_mv eF rfl ?_
        refine EL_pur (v := .int .i64 ((w64 ((w64 ((w64 n0) + x2)) - j0)))) (P_move c6) .plain rfl ?_
        refine EL_mv v6 rfl ?_
        obtain ⟨xC, qG, h⟩ := bsome h
        refine EL_do .plain rfl (D_callM (g := dF) (i := 1) (vs := [up0, .int .i64 (j0), .int .i64 (x2), .int .i64 ((w64 ((w64 ((w64 n0) + x2)) - j0))), (.func (.func ff4) fa4 fc4)]) en113 (.cons rfl (.cons rfl (.cons rfl (.cons rfl (.cons rfl .nil))))) (wk113 kA (FnV2.ch ⟨_, _, _, rfl, fen4, fcl4⟩ hfr.ch) qG) fun dI lJ iL hs hr => ?_)
        obtain ⟨hrv, b920⟩ := hr
        subst hrv
        have hfr := hfr.stp hs
        refine EL_nil ?_
        obtain rfl := sinj h
        exact hQ _ _ ⟨dI, hfr, u6, b920, lA, mA, v6, b8, b6, c6⟩
       ·refine E_cond_false (Eq.trans (show ev _ _ = .bool (c4) from x6) (congrArg Value.bool v8)) ?_
        refine E_skip ?_
        obtain rfl := sinj h
        exact hQ _ _ ⟨dF, hfr, u6, kA, lA, mA, v6, b8, b6, c6⟩
     ·clear hx
      obtain ⟨gF, hfr, nA, oA, y6, pA, qA, d6, u4, c8⟩ := hR
      obtain ⟨n4, hx, h⟩ := bsome h
      refine E_join (fun e w => ∃ (g : Gh) , FrM iI gI wI g w ∧ e 0 = up0 ∧ OM 1 g w 62 (n4 : List FaultDamage) up0 ∧ e 3 = .int .i64 (x3) ∧ e 4 = (.func (.func ff4) fa4 fc4) ∧ e 18 = .int .i64 ((w64 n0)) ∧ e 24 = .int .i64 ((w64 ((w64 ((w64 n0) + x2)) - j0)))) (fun Q' hQ => ?_) (fun mJ jL hR => ?_)
      ·replace h := hx
       clear hx
       obtain ⟨d4, hx, h⟩ := bsome h
       refine E_join (fun e w => ∃ (g : Gh) , FrM iI gI wI g w ∧ e 0 = up0 ∧ OM 1 g w 62 (m4 : List FaultDamage) up0 ∧ e 1 = .int .i64 (x1) ∧ e 3 = .int .i64 (x3) ∧ e 4 = (.func (.func ff4) fa4 fc4) ∧ e 18 = .int .i64 ((w64 n0)) ∧ e 20 = .int .i64 (j0) ∧ e 24 = .int .i64 ((w64 ((w64 ((w64 n0) + x2)) - j0))) ∧ e 199 = .bool (d4)) (fun Q' hQ => ?_) (fun nJ kL hR => ?_)
       ·replace h := hx
        clear hx
        refine E_region (EL_mv y6 rfl ?_)
        refine EL_mv u4 rfl ?_
        refine EL_in (.bool ((decide (x1 < j0)))) rfl rfl rfl rfl ?_
        refine EL_mw (.bool ((decide (x1 < j0)))) rfl rfl ?_
        rcases csome h with ⟨u3, h⟩ | ⟨u3, h⟩
        ·refine EL_pur (v := .int .i64 (j0)) (P_move u4) (.yes2 rfl rfl u3) rfl ?_
         refine EL_pur (v := .int .i64 ((w64 n0))) (P_move d6) (.yes2 rfl rfl u3) rfl ?_
         refine EL_pur (v := .bool ((decide (j0 < (w64 n0))))) (P_int rfl rfl rfl) (.yes2 rfl rfl u3) rfl ?_
         refine EL_pur (v := .bool ((decide (j0 < (w64 n0))))) (P_pick (b := (decide (x1 < j0))) rfl (pick_t u3 rfl)) .plain rfl ?_
         refine EL_nil ?_
         obtain rfl := sinj h
         exact hQ _ _ ⟨gF, hfr, nA, oA, y6, pA, qA, d6, u4, c8, rfl⟩
        ·refine EL_skip (.no2 rfl rfl u3 rfl) rfl ?_
         refine EL_skip (.no2 rfl rfl u3 rfl) rfl ?_
         refine EL_skip (.no2 rfl rfl u3 rfl) rfl ?_
         refine EL_pur (v := .bool false) (P_pick (b := (decide (x1 < j0))) rfl (pick_f u3 rfl)) .plain rfl ?_
         refine EL_nil ?_
         obtain rfl := sinj h
         exact hQ _ _ ⟨gF, hfr, nA, oA, y6, pA, qA, d6, u4, c8, rfl⟩
       ·clear hx
        obtain ⟨iF, hfr, z6, rA, jF, sA, a7, e6, qC, d8, b7⟩ := hR
        rcases csome h with ⟨x8, h⟩ | ⟨x8, h⟩
        ·refine E_cond_true (Eq.trans (show ev _ _ = .bool (d4) from b7) (congrArg Value.bool x8)) ?_
         refine E_region (EL_mv z6 rfl ?_)
         refine EL_mv jF rfl ?_
         refine EL_mv qC rfl ?_
         refine EL_mv e6 rfl ?_
         refine EL_mv a7 rfl ?_
         obtain ⟨yC, rG, h⟩ := bsome h
         refine EL_do .plain rfl (D_callM (g := iF) (i := 1) (vs := [up0, .int .i64 (x1), .int .i64 (j0), .int .i64 ((w64 n0)), (.func (.func ff4) fa4 fc4)]) en108 (.cons rfl (.cons rfl (.cons rfl (.cons rfl (.cons rfl .nil))))) (ih rA (FnV2.ch ⟨_, _, _, rfl, fen4, fcl4⟩ hfr.ch) rG) fun eI oJ lL hs hr => ?_)
         obtain ⟨hrv, b933⟩ := hr
         subst hrv
         have hfr := hfr.stp hs
         refine EL_nil ?_
         obtain rfl := sinj h
         exact hQ _ _ ⟨eI, hfr, z6, b933, sA, a7, e6, d8⟩
        ·refine E_cond_false (Eq.trans (show ev _ _ = .bool (d4) from b7) (congrArg Value.bool x8)) ?_
         refine E_skip ?_
         obtain rfl := sinj h
         exact hQ _ _ ⟨iF, hfr, z6, rA, sA, a7, e6, d8⟩
      ·clear hx
       obtain ⟨kF, hfr, tA, uA, c7, vA, i6, z4⟩ := hR
       obtain ⟨e4, hx, h⟩ := bsome h
       refine E_join (fun e w => ∃ (g : Gh) , FrM iI gI wI g w ∧ e 0 = up0 ∧ OM 1 g w 62 (n4 : List FaultDamage) up0 ∧ e 3 = .int .i64 (x3) ∧ e 4 = (.func (.func ff4) fa4 fc4) ∧ e 18 = .int .i64 ((w64 n0)) ∧ e 24 = .int .i64 ((w64 ((w64 ((w64 n0) + x2)) - j0))) ∧ e 213 = .bool (e4)) (fun Q' hQ => ?_) (fun pJ mL hR => ?_)
       ·replace h := hx
        clear hx
        refine E_region (EL_mv i6 rfl ?_)
        refine EL_pur (v := .int .i64 ((w64 ((w64 ((w64 n0) + x2)) - j0)))) (P_move z4) .plain rfl ?_
        refine EL_pur (v := .bool ((decide ((w64 n0) < (w64 ((w64 ((w64 n0) + x2)) - j0)))))) (P_int rfl rfl rfl) .plain rfl ?_
        refine EL_pur (v := .bool ((decide ((w64 n0) < (w64 ((w64 ((w64 n0) + x2)) - j0)))))) (P_move rfl) .plain rfl ?_
        rcases csome h with ⟨z3, h⟩ | ⟨z3, h⟩
        ·refine EL_pur (v := .int .i64 ((w64 ((w64 ((w64 n0) + x2)) - j0)))) (P_move z4) (.yes2 rfl rfl z3) rfl ?_
         refine EL_pur (v := .int .i64 (x3)) (P_move c7) (.yes2 rfl rfl z3) rfl ?_
         refine EL_pur (v := .bool ((decide ((w64 ((w64 ((w64 n0) + x2)) - j0)) < x3)))) (P_int rfl rfl rfl) (.yes2 rfl rfl z3) rfl ?_
         refine EL_pur (v := .bool ((decide ((w64 ((w64 ((w64 n0) + x2)) - j0)) < x3)))) (P_pick (b := (decide ((w64 n0) < (w64 ((w64 ((w64 n0) + x2)) - j0))))) rfl (pick_t z3 rfl)) .plain rfl ?_
         refine EL_nil ?_
         obtain rfl := sinj h
         exact hQ _ _ ⟨kF, hfr, tA, uA, c7, vA, i6, z4, rfl⟩
        ·refine EL_skip (.no2 rfl rfl z3 rfl) rfl ?_
         refine EL_skip (.no2 rfl rfl z3 rfl) rfl ?_
         refine EL_skip (.no2 rfl rfl z3 rfl) rfl ?_
         refine EL_pur (v := .bool false) (P_pick (b := (decide ((w64 n0) < (w64 ((w64 ((w64 n0) + x2)) - j0))))) rfl (pick_f z3 rfl)) .plain rfl ?_
         refine EL_nil ?_
         obtain rfl := sinj h
         exact hQ _ _ ⟨kF, hfr, tA, uA, c7, vA, i6, z4, rfl⟩
       ·clear hx
        obtain ⟨jI, hfr, lF, xA, mF, nF, rC, sC, d7⟩ := hR
        rcases csome h with ⟨y8, h⟩ | ⟨y8, h⟩
        ·refine E_cond_true (Eq.trans (show ev _ _ = .bool (e4) from d7) (congrArg Value.bool y8)) ?_
         refine E_region (EL_mv lF rfl ?_)
         refine EL_mv rC rfl ?_
         refine EL_pur (v := .int .i64 ((w64 ((w64 ((w64 n0) + x2)) - j0)))) (P_move sC) .plain rfl ?_
         refine EL_mv mF rfl ?_
         refine EL_mv nF rfl ?_
         obtain ⟨zC, sG, h⟩ := bsome h
         refine EL_do .plain rfl (D_callM (g := jI) (i := 1) (vs := [up0, .int .i64 ((w64 n0)), .int .i64 ((w64 ((w64 ((w64 n0) + x2)) - j0))), .int .i64 (x3), (.func (.func ff4) fa4 fc4)]) en108 (.cons rfl (.cons rfl (.cons rfl (.cons rfl (.cons rfl .nil))))) (ih xA (FnV2.ch ⟨_, _, _, rfl, fen4, fcl4⟩ hfr.ch) sG) fun nL qJ oL hs hr => ?_)
         obtain ⟨hrv, b940⟩ := hr
         subst hrv
         have hfr := hfr.stp hs
         refine EL_nil ?_
         obtain rfl := sinj h
         exact end0n rfl rfl ⟨_, hfr, rfl, j6.back b940⟩
        ·refine E_cond_false (Eq.trans (show ev _ _ = .bool (e4) from d7) (congrArg Value.bool y8)) ?_
         refine E_skip ?_
         obtain rfl := sinj h
         exact end0n rfl rfl ⟨_, hfr, rfl, j6.back xA⟩
/-- griffe/griffelaw05.huge -/
def f30 (x0 : FaultLoom) : Option (Bool) :=
 Option.bind (α := Bool) (
  (f14 x0).bind fun y23 =>
  bif y23 then
   some (true)
  else
   (f33 x0).bind fun y0 =>
   bif (y0 == (0 : Int)) then
    bif (decide (((x0).Design).Hooks > (6 : Int))) then
     some (true)
    else
     bif (decide (((((x0).Harness).Warps).length : Int) > (12 : Int))) then
      some (true)
     else
      some ((decide (((((x0).Design).Rows).length : Int) > (6 : Int))))
   else
    some (false)
  ) fun i1 =>
 some (i1)
theorem en30 : Enters Try.prog 30 := enters_of Try.func30 (by kernel_rfl) rfl
theorem wk30 {gI : Gh} {wI : World} {x0 : FaultLoom} {up0 : Value} (rp0 : RV gI.m wI x0 up0) {r : Bool} (h : f30 x0 = some r) : Fn Try.prog 30 #[up0] gI wI (fun _ _ v => v = .bool (r)) := by
 unfold f30 at h
 refine fn_of_E Try.func30 rfl (Nat.le_of_ble_eq_true rfl) fun g0 hm hfr => ?_
 have rp0 : RV g0.m wI x0 up0 := hm ▸ rp0
 show E _ 30 none _ _ _ _ _
 refine E_seq (E_region (EL_do .plain rfl (D_box (g := g0) rfl rp0 fun g1 w1 p1 hs q1 => ?_)))
 have hfr := hfr.ext hs
 refine EL_at (.bool false) rfl rfl ?_
 refine EL_nil (thn_n ?_)
 obtain ⟨i1, hx, h⟩ := bsome h
 refine E_join (fun e w => ∃ (g : Gh) , Fr gI wI g w ∧ e 2 = .bool (i1)) (fun Q' hQ => ?_) (fun s3 c4 hR => ?_)
 ·replace h := hx
  clear hx
  refine E_region (EL_do .plain rfl (D_load (g := g1) Try.isAgg28 Try.sizeOf28 rfl q1 fun q2 s2 => ?_))
  obtain ⟨y23, m2, h⟩ := bsome h
  refine EL_do .plain rfl (D_call (g := g1) (vs := [q2]) en14 (.cons rfl .nil) (wk14 s2 m2) fun m1 u3 d4 hs hr => ?_)
  have hfr := hfr.ext hs
  have q1 := q1.ext hs
  subst hr
  refine EL_mw (.bool (y23)) rfl rfl ?_
  rcases csome h with ⟨n0, h⟩ | ⟨n0, h⟩
  ·refine EL_skip (.no2 rfl rfl n0 rfl) rfl ?_
   refine EL_skip (.no2 rfl rfl n0 rfl) rfl ?_
   refine EL_skip (.no2 rfl rfl n0 rfl) rfl ?_
   refine EL_skip (.no2 rfl rfl n0 rfl) rfl ?_
   refine EL_dead 18 rfl ?_
   refine EL_skip (.no2 rfl rfl n0 rfl) rfl ?_
   refine EL_pur (v := .bool true) (P_pick (b := y23) rfl (pick_t n0 rfl)) .plain rfl ?_
   refine EL_at (.bool true) rfl rfl ?_
   refine EL_nil ?_
   obtain rfl := sinj h
   exact hQ _ _ ⟨m1, hfr, rfl⟩
  ·refine EL_do (.yes2 rfl rfl n0) rfl (D_load (g := m1) Try.isAgg28 Try.sizeOf28 rfl q1 fun z2 d3 => ?_)
   obtain ⟨y0, p2, h⟩ := bsome h
   refine EL_do (.yes2 rfl rfl n0) rfl (D_call (g := m1) (vs := [z2]) en33 (.cons rfl .nil) (wk33 d3 p2) fun j1 z3 e4 hs hr => ?_)
   have hfr := hfr.ext hs
   have q1 := q1.ext hs
   subst hr
   refine EL_pur (v := .bool ((y0 == (0 : Int)))) (P_int rfl rfl rfl) (.yes2 rfl rfl n0) rfl ?_
   refine EL_pur (v := .bool ((y0 == (0 : Int)))) (P_move rfl) (.yes2 rfl rfl n0) rfl ?_
   rcases csome h with ⟨j0, h⟩ | ⟨j0, h⟩
   ·refine EL_pur (v := fPtr p1 2) (P_fieldAddr at_28_1 rfl (PT.ptr q1)) (.yes2 rfl rfl j0) rfl ?_
    have d2 := PT_field (part_FaultLoom_1).1 q1
    refine EL_pur (v := fPtr (fPtr p1 2) 0) (P_fieldAddr at_26_0 rfl (PT.ptr d2)) (.yes2 rfl rfl j0) rfl ?_
    have i3 := PT_field (part_Design_0).1 d2
    refine EL_do (.yes2 rfl rfl j0) rfl (D_load (g := j1) Try.isAgg3 Try.sizeOf3 rfl i3 fun i4 j3 => ?_)
    obtain rfl := RV_int.1 j3
    refine EL_pur (v := .bool ((decide (((x0).Design).Hooks > (6 : Int))))) (P_int rfl rfl rfl) (.yes2 rfl rfl j0) rfl ?_
    refine EL_pur (v := .bool ((decide (((x0).Design).Hooks > (6 : Int))))) (P_move rfl) (.yes2 rfl rfl j0) rfl ?_
    rcases csome h with ⟨o0, h⟩ | ⟨o0, h⟩
    ·refine EL_skip (.no2 rfl rfl o0 rfl) rfl ?_
     refine EL_skip (.no2 rfl rfl o0 rfl) rfl ?_
     refine EL_skip (.no2 rfl rfl o0 rfl) rfl ?_
     refine EL_skip (.no2 rfl rfl o0 rfl) rfl ?_
     refine EL_skip (.no2 rfl rfl o0 rfl) rfl ?_
     refine EL_pur (v := .bool true) (P_pick (b := (decide (((x0).Design).Hooks > (6 : Int)))) rfl (pick_t o0 rfl)) (.yes2 rfl rfl j0) rfl ?_
     refine EL_pur (v := .bool true) (P_move rfl) (.yes2 rfl rfl j0) rfl ?_
     refine EL_dead 5 rfl ?_
     refine EL_pur (v := .bool true) (P_pick (b := true) rfl (pick_t rfl rfl)) (.yes2 rfl rfl j0) rfl ?_
     refine EL_pur (v := .bool true) (P_pick (b := (y0 == (0 : Int))) rfl (pick_t j0 rfl)) (.yes2 rfl rfl n0) rfl ?_
     refine EL_pur (v := .bool true) (P_pick (b := y23) rfl (pick_f n0 rfl)) .plain rfl ?_
     refine EL_at (.bool true) rfl rfl ?_
     refine EL_nil ?_
     obtain rfl := sinj h
     exact hQ _ _ ⟨j1, hfr, rfl⟩
    ·refine EL_pur (v := fPtr p1 0) (P_fieldAddr at_28_0 rfl (PT.ptr q1)) (.yes2 rfl rfl o0) rfl ?_
     have i2 := PT_field (part_FaultLoom_0).1 q1
     refine EL_pur (v := fPtr (fPtr p1 0) 1) (P_fieldAddr at_24_1 rfl (PT.ptr i2)) (.yes2 rfl rfl o0) rfl ?_
     have m3 := PT_field (part_TieHarness_1).1 i2
     refine EL_do (.yes2 rfl rfl o0) rfl (D_load (g := j1) Try.isAgg22 Try.sizeOf22 rfl m3 fun j4 o3 => ?_)
     refine EL_pur (v := .int .i64 ((((x0).Harness).Warps).length : Int)) (P_len Try.underlying22 rfl o3) (.yes2 rfl rfl o0) rfl ?_
     refine EL_pur (v := .bool ((decide (((((x0).Harness).Warps).length : Int) > (12 : Int))))) (P_int rfl rfl rfl) (.yes2 rfl rfl o0) rfl ?_
     refine EL_pur (v := .bool ((decide (((((x0).Harness).Warps).length : Int) > (12 : Int))))) (P_pick (b := (decide (((x0).Design).Hooks > (6 : Int)))) rfl (pick_f o0 rfl)) (.yes2 rfl rfl j0) rfl ?_
     refine EL_pur (v := .bool ((decide (((((x0).Harness).Warps).length : Int) > (12 : Int))))) (P_move rfl) (.yes2 rfl rfl j0) rfl ?_
     rcases csome h with ⟨u0, h⟩ | ⟨u0, h⟩
     ·refine EL_skip (.no2 rfl rfl u0 rfl) rfl ?_
      refine EL_skip (.no2 rfl rfl u0 rfl) rfl ?_
      refine EL_skip (.no2 rfl rfl u0 rfl) rfl ?_
      refine EL_skip (.no2 rfl rfl u0 rfl) rfl ?_
      refine EL_skip (.no2 rfl rfl u0 rfl) rfl ?_
      refine EL_pur (v := .bool true) (P_pick (b := (decide (((((x0).Harness).Warps).length : Int) > (12 : Int)))) rfl (pick_t u0 rfl)) (.yes2 rfl rfl j0) rfl ?_
      refine EL_pur (v := .bool true) (P_pick (b := (y0 == (0 : Int))) rfl (pick_t j0 rfl)) (.yes2 rfl rfl n0) rfl ?_
      refine EL_pur (v := .bool true) (P_pick (b := y23) rfl (pick_f n0 rfl)) .plain rfl ?_
      refine EL_at (.bool true) rfl rfl ?_
      refine EL_nil ?_
      obtain rfl := sinj h
      exact hQ _ _ ⟨j1, hfr, rfl⟩
     ·refine EL_pur (v := fPtr p1 2) (P_fieldAddr at_28_1 rfl (PT.ptr q1)) (.yes2 rfl rfl u0) rfl ?_
      have j2 := PT_field (part_FaultLoom_1).1 q1
      refine EL_pur (v := fPtr (fPtr p1 2) 1) (P_fieldAddr at_26_1 rfl (PT.ptr j2)) (.yes2 rfl rfl u0) rfl ?_
      have p3 := PT_field (part_Design_1).1 j2
      refine EL_do (.yes2 rfl rfl u0) rfl (D_load (g := j1) Try.isAgg22 Try.sizeOf22 rfl p3 fun m4 q3 => ?_)
      refine EL_pur (v := .int .i64 ((((x0).Design).Rows).length : Int)) (P_len Try.underlying22 rfl q3) (.yes2 rfl rfl u0) rfl ?_
      refine EL_pur (v := .bool ((decide (((((x0).Design).Rows).length : Int) > (6 : Int))))) (P_int rfl rfl rfl) (.yes2 rfl rfl u0) rfl ?_
      refine EL_pur (v := .bool ((decide (((((x0).Design).Rows).length : Int) > (6 : Int))))) (P_pick (b := (decide (((((x0).Harness).Warps).length : Int) > (12 : Int)))) rfl (pick_f u0 rfl)) (.yes2 rfl rfl j0) rfl ?_
      refine EL_pur (v := .bool ((decide (((((x0).Design).Rows).length : Int) > (6 : Int))))) (P_pick (b := (y0 == (0 : Int))) rfl (pick_t j0 rfl)) (.yes2 rfl rfl n0) rfl ?_
      refine EL_pur (v := .bool ((decide (((((x0).Design).Rows).length : Int) > (6 : Int))))) (P_pick (b := y23) rfl (pick_f n0 rfl)) .plain rfl ?_
      refine EL_pur (v := .bool ((decide (((((x0).Design).Rows).length : Int) > (6 : Int))))) (P_assign rfl) .plain rfl ?_
      refine EL_nil ?_
      obtain rfl := sinj h
      exact hQ _ _ ⟨j1, hfr, rfl⟩
   ·refine EL_skip (.no2 rfl rfl j0 rfl) rfl ?_
    refine EL_skip (.no2 rfl rfl j0 rfl) rfl ?_
    refine EL_skip (.no2 rfl rfl j0 rfl) rfl ?_
    refine EL_skip (.no2 rfl rfl j0 rfl) rfl ?_
    refine EL_skip (.no2 rfl rfl j0 rfl) rfl ?_
    refine EL_dead 5 rfl ?_
    refine EL_skip (.no2 rfl rfl j0 rfl) rfl ?_
    refine EL_skip (.no2 rfl rfl j0 rfl) rfl ?_
    refine EL_dead 5 rfl ?_
    refine EL_skip (.no2 rfl rfl j0 rfl) rfl ?_
    refine EL_pur (v := .bool false) (P_pick (b := (y0 == (0 : Int))) rfl (pick_f j0 rfl)) (.yes2 rfl rfl n0) rfl ?_
    refine EL_pur (v := .bool false) (P_pick (b := y23) rfl (pick_f n0 rfl)) .plain rfl ?_
    refine EL_at (.bool false) rfl rfl ?_
    refine EL_nil ?_
    obtain rfl := sinj h
    exact hQ _ _ ⟨j1, hfr, rfl⟩
 ·clear hx
  obtain ⟨n4, hfr, z1⟩ := hR
  refine E_ret ?_
  obtain rfl := sinj h
  exact end1 rfl rfl (show _ = .bool (i1) from z1) ⟨_, hfr, rfl⟩
/-- griffe/fault.checkLoom -/
def f50 (x0 : FaultLoom) : Option (Int) :=
 jn (σ := Unit) (fun (_ : Unit) =>
  jn (σ := Unit) (fun (_ : Unit) =>
   jn (σ := Unit) (fun (_ : Unit) =>
    some ((0 : Int))
    ) fun k33 =>
   bif (((x0).Harness).Hooks != ((x0).Design).Hooks) then
    some ((4 : Int))
   else
    k33 ()
   ) fun k19 =>
  (f74 ((x0).Design)).bind fun y23 =>
  bif (y23 != (0 : Int)) then
   some (y23)
  else
   k19 ()
  ) fun k7 =>
 (f73 ((x0).Harness)).bind fun y11 =>
 bif (y11 != (0 : Int)) then
  some (y11)
 else
  k7 ()
theorem en50 : Enters Try.prog 50 := enters_of Try.func50 (by kernel_rfl) rfl
theorem wk50 {gI : Gh} {wI : World} {x0 : FaultLoom} {up0 : Value} (rp0 : RV gI.m wI x0 up0) {r : Int} (h : f50 x0 = some r) : Fn Try.prog 50 #[up0] gI wI (fun _ _ v => v = .int .i64 (r)) := by
 unfold f50 at h
 refine fn_of_E Try.func50 rfl (Nat.le_of_ble_eq_true rfl) fun g0 hm hfr => ?_
 have rp0 : RV g0.m wI x0 up0 := hm ▸ rp0
 show E _ 24 none _ _ _ _ _
 refine E_seq (E_region (EL_do .plain rfl (D_box (g := g0) rfl rp0 fun g1 w1 p1 hs q1 => ?_)))
 have hfr := hfr.ext hs
 refine EL_at (.int .i64 (0)) rfl rfl ?_
 refine EL_nil (thn_n (E_joinC h (fun (s : Unit) e w => ∃ (g : Gh) , Fr gI wI g w ∧ e 1 = p1 ∧ PT g.m w (x0 : FaultLoom) p1) (fun X7 k7 s2 h => ?_) ?_))
 ·refine E_seq (E_region (EL_pur (v := fPtr p1 0) (P_fieldAddr at_28_0 rfl (PT.ptr q1)) .plain rfl ?_))
  have q8 := PT_field (part_FaultLoom_0).1 q1
  refine EL_do .plain rfl (D_load (g := g1) Try.isAgg24 Try.sizeOf24 rfl q8 fun v9 r9 => ?_)
  obtain ⟨y11, j2, h⟩ := bsome h
  refine EL_do .plain rfl (D_call (g := g1) (vs := [v9]) en73 (.cons rfl .nil) (wk73 r9 j2) fun z2 u3 i4 hs hr => ?_)
  have hfr := hfr.ext hs
  have q1 := q1.ext hs
  subst hr
  refine EL_at (.int .i64 (y11)) rfl rfl ?_
  refine EL_nil (thn_n (E_seq (E_region (EL_mw (.int .i64 (y11)) rfl rfl ?_))))
  refine EL_in (.bool ((y11 != (0 : Int)))) rfl rfl rfl rfl ?_
  refine EL_nil (thn_n ?_)
  rcases csome h with ⟨o0, h⟩ | ⟨o0, h⟩
  ·refine E_ct o0 rfl ?_
   refine E_seq (E_region (EL_mw (.int .i64 (y11)) rfl rfl ?_))
   refine EL_at (.int .i64 (y11)) rfl rfl ?_
   refine EL_nil (thn_n (E_ret (thn_r ?_)))
   obtain rfl := sinj h
   exact end1 rfl rfl (show _ = .int .i64 (y11) from rfl) ⟨_, hfr, rfl⟩
  ·refine E_cf o0 rfl ?_
   exact E_skip (thn_n (s2 () _ _ ⟨z2, hfr, rfl, q1⟩ h))
 ·rintro _ z3 j4 ⟨z1, hfr, i1, j0⟩ h
  refine E_joinC h (fun (s : Unit) e w => ∃ (g : Gh) , Fr gI wI g w ∧ e 1 = p1 ∧ PT g.m w (x0 : FaultLoom) p1) (fun X19 k19 m2 h => ?_) ?_
  ·refine E_seq (E_region (EL_pur (v := fPtr p1 2) (P_fieldAddr at_28_1 i1 (PT.ptr j0)) .plain rfl ?_))
   have d3 := PT_field (part_FaultLoom_1).1 j0
   refine EL_do .plain rfl (D_load (g := z1) Try.isAgg26 Try.sizeOf26 rfl d3 fun i3 j3 => ?_)
   obtain ⟨y23, p2, h⟩ := bsome h
   refine EL_do .plain rfl (D_call (g := z1) (vs := [i3]) en74 (.cons rfl .nil) (wk74 j3 p2) fun m3 c4 m4 hs hr => ?_)
   have hfr := hfr.ext hs
   have j0 := j0.ext hs
   subst hr
   refine EL_at (.int .i64 (y23)) rfl rfl ?_
   refine EL_nil (thn_n (E_seq (E_region (EL_mw (.int .i64 (y23)) rfl rfl ?_))))
   refine EL_in (.bool ((y23 != (0 : Int)))) rfl rfl rfl rfl ?_
   refine EL_nil (thn_n ?_)
   rcases csome h with ⟨u0, h⟩ | ⟨u0, h⟩
   ·refine E_ct u0 rfl ?_
    refine E_seq (E_region (EL_mw (.int .i64 (y23)) rfl rfl ?_))
    refine EL_at (.int .i64 (y23)) rfl rfl ?_
    refine EL_nil (thn_n (E_ret (thn_r ?_)))
    obtain rfl := sinj h
    exact end1 rfl rfl (show _ = .int .i64 (y23) from rfl) ⟨_, hfr, rfl⟩
   ·refine E_cf u0 rfl ?_
    exact E_skip (thn_n (m2 () _ _ ⟨m3, hfr, i1, j0⟩ h))
  ·rintro _ d4 n4 ⟨m1, hfr, j1, n0⟩ h
   refine E_joinC h (fun (s : Unit) e w => ∃ (g : Gh) , Fr gI wI g w) (fun X33 k33 q2 h => ?_) ?_
   ·refine E_seq (E_region (EL_pur (v := fPtr p1 0) (P_fieldAddr at_28_0 j1 (PT.ptr n0)) .plain rfl ?_))
    have d2 := PT_field (part_FaultLoom_0).1 n0
    refine EL_pur (v := fPtr (fPtr p1 0) 0) (P_fieldAddr at_24_0 rfl (PT.ptr d2)) .plain rfl ?_
    have o3 := PT_field (part_TieHarness_0).1 d2
    refine EL_do .plain rfl (D_load (g := m1) Try.isAgg3 Try.sizeOf3 rfl o3 fun o4 p3 => ?_)
    obtain rfl := RV_int.1 p3
    refine EL_pur (v := fPtr p1 2) (P_fieldAddr at_28_1 j1 (PT.ptr n0)) .plain rfl ?_
    have i2 := PT_field (part_FaultLoom_1).1 n0
    refine EL_pur (v := fPtr (fPtr p1 2) 0) (P_fieldAddr at_26_0 rfl (PT.ptr i2)) .plain rfl ?_
    have q3 := PT_field (part_Design_0).1 i2
    refine EL_do .plain rfl (D_load (g := m1) Try.isAgg3 Try.sizeOf3 rfl q3 fun p4 s3 => ?_)
    obtain rfl := RV_int.1 s3
    refine EL_in (.bool ((((x0).Harness).Hooks != ((x0).Design).Hooks))) rfl rfl rfl rfl ?_
    refine EL_nil (thn_n ?_)
    rcases csome h with ⟨y0, h⟩ | ⟨y0, h⟩
    ·refine E_ct y0 rfl ?_
     refine E_seq (E_region (EL_at (.int .i64 (4)) rfl rfl ?_))
     refine EL_nil (thn_n (E_ret (thn_r ?_)))
     obtain rfl := sinj h
     exact end1 rfl rfl (show _ = .int .i64 (4) from rfl) ⟨_, hfr, rfl⟩
    ·refine E_cf y0 rfl ?_
     exact E_skip (thn_n (q2 () _ _ ⟨m1, hfr⟩ h))
   ·rintro _ e4 q4 ⟨s4, hfr⟩ h
    refine E_seq (E_region (EL_at (.int .i64 (0)) rfl rfl ?_))
    refine EL_nil (thn_n (E_ret ?_))
    obtain rfl := sinj h
    exact end1 rfl rfl (show _ = .int .i64 (0) from rfl) ⟨_, hfr, rfl⟩
/-- (griffe/fault.loom).isDamage -/
def f52 (x0 : FaultFaultLoom) (x1 : FaultDamage) : Option (Bool) :=
 Option.bind (α := FaultDamage × Bool) (
  bif ((x1).Kind == (1 : Int)) then
   some ({ { (⟨(x1).Kind, 0, 0, 0, false⟩ : FaultDamage) with Pick := (x1).Pick } with Hook := (x1).Hook }, true)
  else
   bif ((x1).Kind == (2 : Int)) then
    some ({ { (⟨(x1).Kind, 0, 0, 0, false⟩ : FaultDamage) with Hook := (x1).Hook } with Up := (x1).Up }, true)
   else
    Option.bind (α := Bool) (
     bif ((x1).Kind == (3 : Int)) then
      some (((x1).Kind == (3 : Int)))
     else
      some (((x1).Kind == (4 : Int)))
     ) fun d2 =>
    bif d2 then
     some ({ (⟨(x1).Kind, 0, 0, 0, false⟩ : FaultDamage) with Pick := (x1).Pick }, true)
    else
     bif ((x1).Kind == (5 : Int)) then
      some ({ (⟨(x1).Kind, 0, 0, 0, false⟩ : FaultDamage) with Warp := (x1).Warp }, true)
     else
      some ((⟨(x1).Kind, 0, 0, 0, false⟩ : FaultDamage), false)
  ) fun (j1, i2) =>
 Option.bind (α := Bool) (
  bif i2 then
   bif (decide (x1 = j1)) then
    (f62 ((0 : Int)) ((w64 ((((((x0).FaultLoom).Design).Rows).length : Int) - (1 : Int)))) (([(x1).Pick] : List Int))).bind fun j3 =>
    bif j3 then
     (f62 ((0 : Int)) ((w64 ((((x0).FaultLoom).Design).Hooks - (1 : Int)))) (([(x1).Hook] : List Int))).bind fun m3 =>
     bif m3 then
      (f62 ((0 : Int)) ((w64 ((((((x0).FaultLoom).Harness).Warps).length : Int) - (1 : Int)))) (([(x1).Warp] : List Int))).bind fun z3 =>
      some (z3)
     else
      some (false)
    else
     some (false)
   else
    some (false)
  else
   some (false)
  ) fun d3 =>
 some (d3)
theorem en52 : Enters Try.prog 52 := enters_of Try.func52 (by kernel_rfl) rfl
theorem wk52 {gI : Gh} {wI : World} {x0 : FaultFaultLoom} {x1 : FaultDamage} {up0 : Value} (rp0 : RV gI.m wI x0 up0) {up1 : Value} (rp1 : RV gI.m wI x1 up1) {r : Bool} (h : f52 x0 x1 = some r) : Fn Try.prog 52 #[up0, up1] gI wI (fun _ _ v => v = .bool (r)) := by
 unfold f52 at h
 refine fn_of_E Try.func52 rfl (Nat.le_of_ble_eq_true rfl) fun g0 hm hfr => ?_
 have rp0 : RV g0.m wI x0 up0 := hm ▸ rp0
 have rp1 : RV g0.m wI x1 up1 := hm ▸ rp1
 show E _ 80 none _ _ _ _ _
 refine E_seq (E_region (EL_do .plain rfl (D_box (g := g0) rfl rp0 fun g1 w1 p1 hs q1 => ?_)))
 have hfr := hfr.ext hs
 have rp1 := rp1.ext hs
 refine EL_do .plain rfl (D_box (g := g1) rfl rp1 fun g2 w2 p2 hs q2 => ?_)
 have hfr := hfr.ext hs
 have q1 := q1.ext hs
 refine EL_at (.bool false) rfl rfl ?_
 refine EL_nil (thn_n (E_seq (E_region (EL_pur (v := fPtr p2 0) (P_fieldAddr at_62_0 rfl (PT.ptr q2)) .plain rfl ?_))))
 have q3 := PT_field (part_FaultDamage_0).1 q2
 refine EL_do .plain rfl (D_load (g := g2) Try.isAgg60 Try.sizeOf60 rfl q3 fun v4 r4 => ?_)
 obtain rfl := RV_int.1 r4
 have r5 : RV g2.m w2 (⟨(x1).Kind, 0, 0, 0, false⟩ : FaultDamage) (.agg (setCh [[.int .i64 0], [.int .i64 0], [.int .i64 0], [.int .i64 0], [.bool false]] [(0, .int .i64 ((x1).Kind))]).flatten.toArray) := RV_build rfl (rep_pair (rfl) (rep_pair (rep_int) (rep_pair (rep_int) (rep_pair (rep_int) (rep_last (rep_bool))))))
 generalize s7 : (Value.agg (setCh [[.int .i64 0], [.int .i64 0], [.int .i64 0], [.int .i64 0], [.bool false]] [(0, .int .i64 ((x1).Kind))]).flatten.toArray) = v5 at r5
 refine EL_pur (v := v5) (s7 ▸ P_build (vs := [(0, .int .i64 ((x1).Kind))]) [[.int .i64 0], [.int .i64 0], [.int .i64 0], [.int .i64 0], [.bool false]] lay_62 rfl rfl (.cons rfl .nil) ⟨⟨_, rfl, rfl⟩, trivial⟩) .plain rfl ?_
 refine EL_do .plain rfl (D_allocOc (g := g2) 2005 (⟨0, 0, 0, 0, false⟩ : FaultDamage) Try.zeroValue62 (fun m w => ⟨_, (rep_two rep_int (rep_two rep_int (rep_two rep_int (rep_two rep_int rep_bool)))), rfl⟩) fun g6 w6 p6 hs b6 cb => ?_)
 have hfr := hfr.stp hs
 have q1 := q1.stp hs
 have q2 := q2.stp hs
 have r5 := r5.stp hs
 clear cb
 refine EL_do .plain rfl (D_storeOc (g := g6) (v := v5) Try.sizeOf62 rfl b6 rfl r5 fun g7 w7 hs b7 cb => ?_)
 clear cb
 have hfr := hfr.stp hs
 have q1 := q1.stp hs
 have q2 := q2.stp hs
 refine EL_nil (thn_n (E_seq (E_region (EL_at (.bool true) rfl rfl ?_))))
 refine EL_nil (thn_n ?_)
 obtain ⟨⟨j1, i2⟩, hx, h⟩ := bsome h
 refine E_join (fun e w => ∃ (g : Gh) , Fr gI wI g w ∧ e 2 = p1 ∧ PT g.m w (x0 : FaultFaultLoom) p1 ∧ e 3 = p2 ∧ PT g.m w (x1 : FaultDamage) p2 ∧ e 5 = p6 ∧ OB 2005 g w 62 (j1 : FaultDamage) p6 ∧ e 6 = .bool (i2)) (fun Q' hQ => ?_) (fun b8 j8 hR => ?_)
 ·replace h := hx
  clear hx
  refine E_seq (E_region (EL_pur (v := fPtr p2 0) (P_fieldAddr at_62_0 rfl (PT.ptr q2)) .plain rfl ?_))
  have t7 := PT_field (part_FaultDamage_0).1 q2
  refine EL_do .plain rfl (D_load (g := g7) Try.isAgg60 Try.sizeOf60 rfl t7 fun q9 u7 => ?_)
  obtain rfl := RV_int.1 u7
  refine EL_nil (thn_n (E_block ?_))
  refine E_seq (E_region (EL_in (.bool (((x1).Kind == (1 : Int)))) rfl rfl rfl rfl ?_))
  refine EL_at (.bool (((x1).Kind == (1 : Int)))) rfl rfl ?_
  refine EL_nil (thn_n ?_)
  rcases csome h with ⟨o4, h⟩ | ⟨o4, h⟩
  ·refine E_ct o4 rfl ?_
   have v7 := PT_field (part_FaultDamage_1).1 q2
   refine L_load (x := .tmp 14) Try.isAgg3 Try.sizeOf3 v7 fun r9 x7 q5 => ?_
   obtain rfl := RV_int.1 x7
   have y7 := PT_field (part_FaultDamage_2).1 q2
   refine L_load (x := .tmp 16) Try.isAgg3 Try.sizeOf3 y7 fun s9 z7 t5 => ?_
   obtain rfl := RV_int.1 z7
   refine E_drawB (a0 := ((⟨(x1).Kind, 0, 0, 0, false⟩ : FaultDamage) : FaultDamage)) (a1 := ({ (⟨(x1).Kind, 0, 0, 0, false⟩ : FaultDamage) with Pick := (x1).Pick } : FaultDamage)) b7 (n := 6) [(5, (fun _ g w => OB 2005 g w 62 ({ (⟨(x1).Kind, 0, 0, 0, false⟩ : FaultDamage) with Pick := (x1).Pick } : FaultDamage) p6))] [0, 1, 2, 3, 4, 5] rfl mixed (by kernel_rfl) (⟨fun _ => up_box, trivial⟩) ?_
   refine L_pur (c := fPtr p2 1) rfl rfl .plain (fun _ _ hd => P_fieldAddr at_62_1 rfl (PT.ptr q2)) ?_
   refine L_ld (c := .int .i64 ((x1).Pick)) rfl rfl .plain (fun _ _ h => h.1.ch) q5 rfl ?_
   refine L_pur (c := fPtr p2 2) rfl rfl .plain (fun _ _ hd => P_fieldAddr at_62_2 rfl (PT.ptr q2)) ?_
   refine L_ld (c := .int .i64 ((x1).Hook)) rfl rfl .plain (fun _ _ h => h.1.ch) t5 rfl ?_
   refine L_pur (c := fPtr p6 1) rfl rfl .plain (fun _ _ hd => P_fieldAddr at_62_1 rfl (OB.ptr b7)) ?_
   refine L_do (φ := fun _ g w => OB 2005 g w 62 ({ (⟨(x1).Kind, 0, 0, 0, false⟩ : FaultDamage) with Pick := (x1).Pick } : FaultDamage) p6) rfl rfl .plain (fun g w hd => D_storeR (g := g) rfl rfl part_FaultDamage_1 Try.sizeOf3 rfl hd.1.2 rfl (RV_int.2 rfl)) (fun t9 hv => ?_)
   clear hv
   refine L_nil fun a8 u9 hall => ?_
   have hs := hall.1.1
   have hfr := hfr.stp hs
   have q1 := q1.stp hs
   have q2 := q2.stp hs
   have b104 := (word_all (A := fun g w => OB 2005 g w 62 ({ (⟨(x1).Kind, 0, 0, 0, false⟩ : FaultDamage) with Pick := (x1).Pick } : FaultDamage) p6) 5 rfl hall)
   clear hs hall
   refine EL_pur (v := fPtr p6 2) (P_fieldAddr at_62_2 rfl (OB.ptr b104)) .plain rfl ?_
   refine EL_do .plain rfl (D_storeFc (g := a8) part_FaultDamage_2 Try.sizeOf3 rfl b104 rfl (RV_int.2 rfl) fun u5 k8 hs b116 rst hos => ?_)
   clear rst hos
   have hfr := hfr.stp hs
   have q1 := q1.stp hs
   have q2 := q2.stp hs
   refine EL_nil (blk_n ?_)
   obtain ⟨rfl, rfl⟩ := pairs2 h
   exact hQ _ _ ⟨u5, hfr, rfl, q1, rfl, q2, rfl, b116, rfl⟩
  ·refine E_cf o4 rfl ?_
   refine E_seq (E_region (EL_in (.bool (((x1).Kind == (2 : Int)))) rfl rfl rfl rfl ?_))
   refine EL_at (.bool (((x1).Kind == (2 : Int)))) rfl rfl ?_
   refine EL_nil (thn_n ?_)
   rcases csome h with ⟨c4, h⟩ | ⟨c4, h⟩
   ·refine E_ct c4 rfl ?_
    have x5 := PT_field (part_FaultDamage_2).1 q2
    refine L_load (x := .tmp 22) Try.isAgg3 Try.sizeOf3 x5 fun l8 y5 l5 => ?_
    obtain rfl := RV_int.1 y5
    have z5 := PT_field (part_FaultDamage_4).1 q2
    refine L_load (x := .tmp 24) Try.isAgg4 Try.sizeOf4 z5 fun m8 a6 m5 => ?_
    obtain rfl := RV_bool.1 a6
    refine E_drawB (a0 := ((⟨(x1).Kind, 0, 0, 0, false⟩ : FaultDamage) : FaultDamage)) (a1 := ({ (⟨(x1).Kind, 0, 0, 0, false⟩ : FaultDamage) with Hook := (x1).Hook } : FaultDamage)) b7 (n := 6) [(5, (fun _ g w => OB 2005 g w 62 ({ (⟨(x1).Kind, 0, 0, 0, false⟩ : FaultDamage) with Hook := (x1).Hook } : FaultDamage) p6))] [0, 1, 2, 3, 4, 5] rfl mixed (by kernel_rfl) (⟨fun _ => up_box, trivial⟩) ?_
    refine L_pur (c := fPtr p2 2) rfl rfl .plain (fun _ _ hd => P_fieldAddr at_62_2 rfl (PT.ptr q2)) ?_
    refine L_ld (c := .int .i64 ((x1).Hook)) rfl rfl .plain (fun _ _ h => h.1.ch) l5 rfl ?_
    refine L_pur (c := fPtr p2 4) rfl rfl .plain (fun _ _ hd => P_fieldAddr at_62_4 rfl (PT.ptr q2)) ?_
    refine L_ld (c := .bool ((x1).Up)) rfl rfl .plain (fun _ _ h => h.1.ch) m5 rfl ?_
    refine L_pur (c := fPtr p6 2) rfl rfl .plain (fun _ _ hd => P_fieldAddr at_62_2 rfl (OB.ptr b7)) ?_
    refine L_do (φ := fun _ g w => OB 2005 g w 62 ({ (⟨(x1).Kind, 0, 0, 0, false⟩ : FaultDamage) with Hook := (x1).Hook } : FaultDamage) p6) rfl rfl .plain (fun g w hd => D_storeR (g := g) rfl rfl part_FaultDamage_2 Try.sizeOf3 rfl hd.1.2 rfl (RV_int.2 rfl)) (fun n8 hv => ?_)
    clear hv
    refine L_nil fun c6 o8 hall => ?_
    have hs := hall.1.1
    have hfr := hfr.stp hs
    have q1 := q1.stp hs
    have q2 := q2.stp hs
    have b134 := (word_all (A := fun g w => OB 2005 g w 62 ({ (⟨(x1).Kind, 0, 0, 0, false⟩ : FaultDamage) with Hook := (x1).Hook } : FaultDamage) p6) 5 rfl hall)
    clear hs hall
    refine EL_pur (v := fPtr p6 4) (P_fieldAddr at_62_4 rfl (OB.ptr b134)) .plain rfl ?_
    refine EL_do .plain rfl (D_storeFc (g := c6) part_FaultDamage_4 Try.sizeOf4 rfl b134 rfl (RV_bool.2 rfl) fun d6 p8 hs b148 rst hos => ?_)
    clear rst hos
    have hfr := hfr.stp hs
    have q1 := q1.stp hs
    have q2 := q2.stp hs
    refine EL_nil (blk_n ?_)
    obtain ⟨rfl, rfl⟩ := pairs2 h
    exact hQ _ _ ⟨d6, hfr, rfl, q1, rfl, q2, rfl, b148, rfl⟩
   ·refine E_cf c4 rfl ?_
    obtain ⟨d2, hx, h⟩ := bsome h
    refine E_join (fun e w => ∃ (g : Gh) , Fr gI wI g w ∧ e 2 = p1 ∧ PT g.m w (x0 : FaultFaultLoom) p1 ∧ e 3 = p2 ∧ PT g.m w (x1 : FaultDamage) p2 ∧ e 5 = p6 ∧ OB 2005 g w 62 ((⟨(x1).Kind, 0, 0, 0, false⟩ : FaultDamage) : FaultDamage) p6 ∧ e 6 = .bool (true) ∧ e 11 = .int .i64 ((x1).Kind) ∧ e 28 = .bool (d2)) (fun Q' hQ => ?_) (fun c8 q8 hR => ?_)
    ·replace h := hx
     clear hx
     refine E_seq (E_region (EL_in (.bool (((x1).Kind == (3 : Int)))) rfl rfl rfl rfl ?_))
     refine EL_at (.bool (((x1).Kind == (3 : Int)))) rfl rfl ?_
     refine EL_nil (thn_n ?_)
     rcases csome h with ⟨d4, h⟩ | ⟨d4, h⟩
     ·refine E_ct d4 rfl ?_
      refine E_skip ?_
      obtain rfl := sinj h
      exact hQ _ _ ⟨g7, hfr, rfl, q1, rfl, q2, rfl, b7, rfl, rfl, rfl⟩
     ·refine E_cf d4 rfl ?_
      refine E_region (EL_in (.bool (((x1).Kind == (4 : Int)))) rfl rfl rfl rfl ?_)
      refine EL_at (.bool (((x1).Kind == (4 : Int)))) rfl rfl ?_
      refine EL_nil ?_
      obtain rfl := sinj h
      exact hQ _ _ ⟨g7, hfr, rfl, q1, rfl, q2, rfl, b7, rfl, rfl, rfl⟩
    ·clear hx
     obtain ⟨o3, hfr, p3, z1, j2, i1, m2, s2, n4, p4, u3⟩ := hR
     rcases csome h with ⟨e4, h⟩ | ⟨e4, h⟩
     ·refine E_cond_true (Eq.trans (show ev _ _ = .bool (d2) from u3) (congrArg Value.bool e4)) ?_
      refine E_region (EL_pur (v := fPtr p2 1) (P_fieldAddr at_62_1 j2 (PT.ptr i1)) .plain rfl ?_)
      have e6 := PT_field (part_FaultDamage_1).1 i1
      refine EL_do .plain rfl (D_load (g := o3) Try.isAgg3 Try.sizeOf3 rfl e6 fun r8 i6 => ?_)
      obtain rfl := RV_int.1 i6
      refine EL_pur (v := fPtr p6 1) (P_fieldAddr at_62_1 m2 (OB.ptr s2)) .plain rfl ?_
      refine EL_do .plain rfl (D_storeFc (g := o3) part_FaultDamage_1 Try.sizeOf3 rfl s2 rfl (RV_int.2 rfl) fun j6 t8 hs b156 rst hos => ?_)
      clear rst hos
      have hfr := hfr.stp hs
      have z1 := z1.stp hs
      have i1 := i1.stp hs
      refine EL_nil (blk_n ?_)
      obtain ⟨rfl, rfl⟩ := pairs2 h
      exact hQ _ _ ⟨j6, hfr, p3, z1, j2, i1, m2, b156, n4⟩
     ·refine E_cond_false (Eq.trans (show ev _ _ = .bool (d2) from u3) (congrArg Value.bool e4)) ?_
      refine E_seq (E_region (EL_in (.bool (((x1).Kind == (5 : Int)))) p4 rfl rfl rfl ?_))
      refine EL_at (.bool (((x1).Kind == (5 : Int)))) rfl rfl ?_
      refine EL_nil (thn_n ?_)
      rcases csome h with ⟨i4, h⟩ | ⟨i4, h⟩
      ·refine E_ct i4 rfl ?_
       refine E_region (EL_pur (v := fPtr p2 3) (P_fieldAddr at_62_3 j2 (PT.ptr i1)) .plain rfl ?_)
       have k6 := PT_field (part_FaultDamage_3).1 i1
       refine EL_do .plain rfl (D_load (g := o3) Try.isAgg3 Try.sizeOf3 rfl k6 fun v8 l6 => ?_)
       obtain rfl := RV_int.1 l6
       refine EL_pur (v := fPtr p6 3) (P_fieldAddr at_62_3 m2 (OB.ptr s2)) .plain rfl ?_
       refine EL_do .plain rfl (D_storeFc (g := o3) part_FaultDamage_3 Try.sizeOf3 rfl s2 rfl (RV_int.2 rfl) fun m6 x8 hs b161 rst hos => ?_)
       clear rst hos
       have hfr := hfr.stp hs
       have z1 := z1.stp hs
       have i1 := i1.stp hs
       refine EL_nil (blk_n ?_)
       obtain ⟨rfl, rfl⟩ := pairs2 h
       exact hQ _ _ ⟨m6, hfr, p3, z1, j2, i1, m2, b161, n4⟩
      ·refine E_cf i4 rfl ?_
       refine E_region (EL_at (.bool false) rfl rfl ?_)
       refine EL_nil (blk_n ?_)
       obtain ⟨rfl, rfl⟩ := pairs2 h
       exact hQ _ _ ⟨o3, hfr, p3, z1, j2, i1, m2, s2, rfl⟩
 ·clear hx
  obtain ⟨z2, hfr, s3, y0, i3, u0, q4, s4, u4⟩ := hR
  obtain ⟨d3, hx, h⟩ := bsome h
  refine E_join (fun e w => ∃ (g : Gh) , Fr gI wI g w ∧ e 4 = .bool (d3)) (fun Q' hQ => ?_) (fun d8 y8 hR => ?_)
  ·replace h := hx
   clear hx
   refine E_region (EL_mv u4 rfl ?_)
   refine EL_mw (.bool (i2)) rfl rfl ?_
   rcases csome h with ⟨m1, h⟩ | ⟨m1, h⟩
   ·refine EL_do (.yes2 rfl rfl m1) rfl (D_load (g := z2) Try.isAgg62 Try.sizeOf62 i3 u0 fun z8 n6 => ?_)
    refine EL_do (.yes2 rfl rfl m1) rfl (D_loadO (g := z2) Try.isAgg62 Try.sizeOf62 q4 s4 fun a9 o6 => ?_)
    refine EL_pur (v := .bool ((decide (x1 = j1)))) (P_seq seq_62 rfl eg_62 rfl rfl n6 o6) (.yes2 rfl rfl m1) rfl ?_
    refine EL_pur (v := .bool ((decide (x1 = j1)))) (P_pick (b := i2) rfl (pick_t m1 rfl)) .plain rfl ?_
    refine EL_mw (.bool ((decide (x1 = j1)))) rfl rfl ?_
    rcases csome h with ⟨j0, h⟩ | ⟨j0, h⟩
    ·refine EL_pur (v := fPtr p1 0) (P_fieldAddr at_98_0 s3 (PT.ptr y0)) (.yes2 rfl rfl j0) rfl ?_
     have x4 := PT_field (part_FaultFaultLoom_0).1 y0
     refine EL_pur (v := fPtr (fPtr p1 0) 2) (P_fieldAddr at_28_1 rfl (PT.ptr x4)) (.yes2 rfl rfl j0) rfl ?_
     have z4 := PT_field (part_FaultLoom_1).1 x4
     refine EL_pur (v := fPtr (fPtr (fPtr p1 0) 2) 1) (P_fieldAddr at_26_1 rfl (PT.ptr z4)) (.yes2 rfl rfl j0) rfl ?_
     have q6 := PT_field (part_Design_1).1 z4
     refine EL_do (.yes2 rfl rfl j0) rfl (D_load (g := z2) Try.isAgg22 Try.sizeOf22 rfl q6 fun b9 r6 => ?_)
     refine EL_pur (v := .int .i64 (((((x0).FaultLoom).Design).Rows).length : Int)) (P_len Try.underlying22 rfl r6) (.yes2 rfl rfl j0) rfl ?_
     refine EL_pur (v := .int .i64 ((w64 ((((((x0).FaultLoom).Design).Rows).length : Int) - (1 : Int))))) (P_int rfl rfl rfl) (.yes2 rfl rfl j0) rfl ?_
     refine EL_pur (v := fPtr p2 1) (P_fieldAddr at_62_1 i3 (PT.ptr u0)) (.yes2 rfl rfl j0) rfl ?_
     have s6 := PT_field (part_FaultDamage_1).1 u0
     refine EL_do (.yes2 rfl rfl j0) rfl (D_load (g := z2) Try.isAgg3 Try.sizeOf3 rfl s6 fun c9 t6 => ?_)
     obtain rfl := RV_int.1 t6
     refine EL_do (.yes2 rfl rfl j0) rfl (D_buildSlice (g := z2) 3054 (xs := ([(x1).Pick] : List Int)) (vs := [.int .i64 ((x1).Pick)]) Try.underlying22 Try.sizeOf3 Try.zeroValue3 rfl rfl (.cons rfl .nil) (RVs.cons (RV_int.2 rfl) RVs.nil) rfl rfl fun u6 d9 v6 hs o206 x6 hxt hfl => ?_)
     have hfr := hfr.stp hs
     have y0 := y0.stp hs
     have u0 := u0.stp hs
     obtain ⟨j3, n5, h⟩ := bsome h
     refine EL_do (.yes2 rfl rfl j0) rfl (D_call (g := u6) (vs := [.int .i64 (0), .int .i64 ((w64 ((((((x0).FaultLoom).Design).Rows).length : Int) - (1 : Int)))), v6]) en62 (.cons rfl (.cons rfl (.cons rfl .nil))) (wk62 x6 n5) fun j4 e8 e9 hs hr => ?_)
     have hfr := hfr.ext hs
     have y0 := y0.ext hs
     have u0 := u0.ext hs
     subst hr
     refine EL_pur (v := .bool (j3)) (P_pick (b := (decide (x1 = j1))) rfl (pick_t j0 rfl)) .plain rfl ?_
     refine EL_mw (.bool (j3)) rfl rfl ?_
     rcases csome h with ⟨o0, h⟩ | ⟨o0, h⟩
     ·refine EL_pur (v := fPtr p1 0) (P_fieldAddr at_98_0 s3 (PT.ptr y0)) (.yes2 rfl rfl o0) rfl ?_
      have c5 := PT_field (part_FaultFaultLoom_0).1 y0
      refine EL_pur (v := fPtr (fPtr p1 0) 2) (P_fieldAddr at_28_1 rfl (PT.ptr c5)) (.yes2 rfl rfl o0) rfl ?_
      have d5 := PT_field (part_FaultLoom_1).1 c5
      refine EL_pur (v := fPtr (fPtr (fPtr p1 0) 2) 0) (P_fieldAddr at_26_0 rfl (PT.ptr d5)) (.yes2 rfl rfl o0) rfl ?_
      have y6 := PT_field (part_Design_0).1 d5
      refine EL_do (.yes2 rfl rfl o0) rfl (D_load (g := j4) Try.isAgg3 Try.sizeOf3 rfl y6 fun g9 z6 => ?_)
      obtain rfl := RV_int.1 z6
      refine EL_pur (v := .int .i64 ((w64 ((((x0).FaultLoom).Design).Hooks - (1 : Int))))) (P_int rfl rfl rfl) (.yes2 rfl rfl o0) rfl ?_
      refine EL_pur (v := fPtr p2 2) (P_fieldAddr at_62_2 i3 (PT.ptr u0)) (.yes2 rfl rfl o0) rfl ?_
      have a7 := PT_field (part_FaultDamage_2).1 u0
      refine EL_do (.yes2 rfl rfl o0) rfl (D_load (g := j4) Try.isAgg3 Try.sizeOf3 rfl a7 fun i9 c7 => ?_)
      obtain rfl := RV_int.1 c7
      refine EL_do (.yes2 rfl rfl o0) rfl (D_buildSlice (g := j4) 3065 (xs := ([(x1).Hook] : List Int)) (vs := [.int .i64 ((x1).Hook)]) Try.underlying22 Try.sizeOf3 Try.zeroValue3 rfl rfl (.cons rfl .nil) (RVs.cons (RV_int.2 rfl) RVs.nil) rfl rfl fun d7 j9 e7 hs o216 i7 hxt hfl => ?_)
      have hfr := hfr.stp hs
      have y0 := y0.stp hs
      have u0 := u0.stp hs
      obtain ⟨m3, o5, h⟩ := bsome h
      refine EL_do (.yes2 rfl rfl o0) rfl (D_call (g := d7) (vs := [.int .i64 (0), .int .i64 ((w64 ((((x0).FaultLoom).Design).Hooks - (1 : Int)))), e7]) en62 (.cons rfl (.cons rfl (.cons rfl .nil))) (wk62 i7 o5) fun m4 g8 k9 hs hr => ?_)
      have hfr := hfr.ext hs
      have y0 := y0.ext hs
      have u0 := u0.ext hs
      subst hr
      refine EL_pur (v := .bool (m3)) (P_pick (b := j3) rfl (pick_t o0 rfl)) .plain rfl ?_
      refine EL_mw (.bool (m3)) rfl rfl ?_
      rcases csome h with ⟨n0, h⟩ | ⟨n0, h⟩
      ·refine EL_pur (v := fPtr p1 0) (P_fieldAddr at_98_0 s3 (PT.ptr y0)) (.yes2 rfl rfl n0) rfl ?_
       have e5 := PT_field (part_FaultFaultLoom_0).1 y0
       refine EL_pur (v := fPtr (fPtr p1 0) 0) (P_fieldAddr at_28_0 rfl (PT.ptr e5)) (.yes2 rfl rfl n0) rfl ?_
       have i5 := PT_field (part_FaultLoom_0).1 e5
       refine EL_pur (v := fPtr (fPtr (fPtr p1 0) 0) 1) (P_fieldAddr at_24_1 rfl (PT.ptr i5)) (.yes2 rfl rfl n0) rfl ?_
       have j7 := PT_field (part_TieHarness_1).1 i5
       refine EL_do (.yes2 rfl rfl n0) rfl (D_load (g := m4) Try.isAgg22 Try.sizeOf22 rfl j7 fun l9 l7 => ?_)
       refine EL_pur (v := .int .i64 (((((x0).FaultLoom).Harness).Warps).length : Int)) (P_len Try.underlying22 rfl l7) (.yes2 rfl rfl n0) rfl ?_
       refine EL_pur (v := .int .i64 ((w64 ((((((x0).FaultLoom).Harness).Warps).length : Int) - (1 : Int))))) (P_int rfl rfl rfl) (.yes2 rfl rfl n0) rfl ?_
       refine EL_pur (v := fPtr p2 3) (P_fieldAddr at_62_3 i3 (PT.ptr u0)) (.yes2 rfl rfl n0) rfl ?_
       have m7 := PT_field (part_FaultDamage_3).1 u0
       refine EL_do (.yes2 rfl rfl n0) rfl (D_load (g := m4) Try.isAgg3 Try.sizeOf3 rfl m7 fun m9 n7 => ?_)
       obtain rfl := RV_int.1 n7
       refine EL_do (.yes2 rfl rfl n0) rfl (D_buildSlice (g := m4) 3077 (xs := ([(x1).Warp] : List Int)) (vs := [.int .i64 ((x1).Warp)]) Try.underlying22 Try.sizeOf3 Try.zeroValue3 rfl rfl (.cons rfl .nil) (RVs.cons (RV_int.2 rfl) RVs.nil) rfl rfl fun o7 n9 p7 hs o226 q7 hxt hfl => ?_)
       have hfr := hfr.stp hs
       obtain ⟨z3, p5, h⟩ := bsome h
       refine EL_do (.yes2 rfl rfl n0) rfl (D_call (g := o7) (vs := [.int .i64 (0), .int .i64 ((w64 ((((((x0).FaultLoom).Harness).Warps).length : Int) - (1 : Int)))), p7]) en62 (.cons rfl (.cons rfl (.cons rfl .nil))) (wk62 q7 p5) fun r7 i8 o9 hs hr => ?_)
       have hfr := hfr.ext hs
       subst hr
       refine EL_pur (v := .bool (z3)) (P_pick (b := m3) rfl (pick_t n0 rfl)) .plain rfl ?_
       refine EL_at (.bool (z3)) rfl rfl ?_
       refine EL_nil ?_
       obtain rfl := sinj h
       exact hQ _ _ ⟨r7, hfr, rfl⟩
      ·refine EL_skip (.no2 rfl rfl n0 rfl) rfl ?_
       refine EL_skip (.no2 rfl rfl n0 rfl) rfl ?_
       refine EL_skip (.no2 rfl rfl n0 rfl) rfl ?_
       refine EL_skip (.no2 rfl rfl n0 rfl) rfl ?_
       refine EL_skip (.no2 rfl rfl n0 rfl) rfl ?_
       refine EL_skip (.no2 rfl rfl n0 rfl) rfl ?_
       refine EL_skip (.no2 rfl rfl n0 rfl) rfl ?_
       refine EL_skip (.no2 rfl rfl n0 rfl) rfl ?_
       refine EL_skip (.no2 rfl rfl n0 rfl) rfl ?_
       refine EL_skip (.no2 rfl rfl n0 rfl) rfl ?_
       refine EL_pur (v := .bool false) (P_pick (b := m3) rfl (pick_f n0 rfl)) .plain rfl ?_
       refine EL_at (.bool false) rfl rfl ?_
       refine EL_nil ?_
       obtain rfl := sinj h
       exact hQ _ _ ⟨m4, hfr, rfl⟩
     ·refine EL_skip (.no2 rfl rfl o0 rfl) rfl ?_
      refine EL_skip (.no2 rfl rfl o0 rfl) rfl ?_
      refine EL_skip (.no2 rfl rfl o0 rfl) rfl ?_
      refine EL_skip (.no2 rfl rfl o0 rfl) rfl ?_
      refine EL_skip (.no2 rfl rfl o0 rfl) rfl ?_
      refine EL_skip (.no2 rfl rfl o0 rfl) rfl ?_
      refine EL_skip (.no2 rfl rfl o0 rfl) rfl ?_
      refine EL_skip (.no2 rfl rfl o0 rfl) rfl ?_
      refine EL_skip (.no2 rfl rfl o0 rfl) rfl ?_
      refine EL_pur (v := .bool false) (P_pick (b := j3) rfl (pick_f o0 rfl)) .plain rfl ?_
      refine EL_dead 12 rfl ?_
      refine EL_at (.bool false) rfl rfl ?_
      refine EL_nil ?_
      obtain rfl := sinj h
      exact hQ _ _ ⟨j4, hfr, rfl⟩
    ·refine EL_skip (.no2 rfl rfl j0 rfl) rfl ?_
     refine EL_skip (.no2 rfl rfl j0 rfl) rfl ?_
     refine EL_skip (.no2 rfl rfl j0 rfl) rfl ?_
     refine EL_skip (.no2 rfl rfl j0 rfl) rfl ?_
     refine EL_skip (.no2 rfl rfl j0 rfl) rfl ?_
     refine EL_skip (.no2 rfl rfl j0 rfl) rfl ?_
     refine EL_skip (.no2 rfl rfl j0 rfl) rfl ?_
     refine EL_skip (.no2 rfl rfl j0 rfl) rfl ?_
     refine EL_skip (.no2 rfl rfl j0 rfl) rfl ?_
     refine EL_skip (.no2 rfl rfl j0 rfl) rfl ?_
     refine EL_pur (v := .bool false) (P_pick (b := (decide (x1 = j1))) rfl (pick_f j0 rfl)) .plain rfl ?_
     refine EL_dead 23 rfl ?_
     refine EL_at (.bool false) rfl rfl ?_
     refine EL_nil ?_
     obtain rfl := sinj h
     exact hQ _ _ ⟨z2, hfr, rfl⟩
   ·refine EL_skip (.no2 rfl rfl m1 rfl) rfl ?_
    refine EL_skip (.no2 rfl rfl m1 rfl) rfl ?_
    refine EL_skip (.no2 rfl rfl m1 rfl) rfl ?_
    refine EL_pur (v := .bool false) (P_pick (b := i2) rfl (pick_f m1 rfl)) .plain rfl ?_
    refine EL_dead 35 rfl ?_
    refine EL_at (.bool false) rfl rfl ?_
    refine EL_nil ?_
    obtain rfl := sinj h
    exact hQ _ _ ⟨z2, hfr, rfl⟩
  ·clear hx
   obtain ⟨p9, hfr, j5⟩ := hR
   refine E_ret ?_
   obtain rfl := sinj h
   exact end1 rfl rfl (show _ = .bool (d3) from j5) ⟨_, hfr, rfl⟩
theorem v86_0 {iO : Nat} {gI : Gh} {wI : World} {x0 : List Bool} {up0 : Value} (rp0 : RV gI.m wI x0 up0) {r : (List Bool)} (h : f86 x0 = some r) : FnG Try.prog 86 #[up0] gI wI (fun g w v => OM iO g w 4 (r) v) := by
 unfold f86 at h
 refine fnG_of_E Try.func86 rfl (Nat.le_of_ble_eq_true rfl) fun g0 hm hfr => ?_
 have rp0 : RV g0.m wI x0 up0 := hm ▸ rp0
 show E _ 21 none _ _ _ _ _
 refine E_seq (E_region (EL_at (.slice none 0 0) rfl rfl ?_))
 refine EL_nil (thn_n (E_seq (E_region (EL_do .plain rfl (D_buildSlice (g := g0) 3005 (xs := ([] : List Bool)) (vs := []) Try.underlying110 Try.sizeOf4 Try.zeroValue4 rfl rfl .nil RVs.nil rfl rfl fun g1 w1 v1 hs o1 r1 hxt hfl => ?_)))))
 have hfr := hfr.stp hs
 have rp0 := rp0.stp hs
 refine EL_at v1 rfl rfl ?_
 refine EL_nil (thn_n ?_)
 obtain ⟨m1, hx, h⟩ := bsome h
 refine E_join (fun e w => ∃ (g : Gh) (v3 : Value), Fr gI wI g w ∧ e 3 = v3 ∧ RV g.m w (m1 : List Bool) v3 ∧ OS 3005 g w 4 (m1 : List Bool) v3) (fun Q' hQ => ?_) (fun i5 n5 hR => ?_)
 ·replace h := hx
  clear hx
  refine E_seq (E_region (EL_mw up0 rfl rfl ?_))
  refine EL_pur (v := .int .i64 ((x0).length : Int)) (P_len Try.underlying110 rfl rp0) .plain rfl ?_
  refine EL_in (.int .i64 ((w64 (((x0).length : Int) - (1 : Int))))) rfl rfl rfl rfl ?_
  refine EL_at (.int .i64 ((w64 (((x0).length : Int) - (1 : Int))))) rfl rfl ?_
  refine EL_nil (thn_n (E_block ?_))
  refine E_lp h (fun (s : (List Bool) × Int) e w => ∃ (g : Gh) (v3 : Value), Fr gI wI g w ∧ e 0 = up0 ∧ RV g.m w (x0 : List Bool) up0 ∧ e 3 = v3 ∧ RV g.m w (s.1 : List Bool) v3 ∧ OS 3005 g w 4 (s.1 : List Bool) v3 ∧ e 4 = .int .i64 (s.2)) ⟨g1, (v1), hfr, rfl, rp0, rfl, r1, o1, rfl⟩ (fun X21 o5 o4 => ?_)
  rintro ⟨z1, j0⟩ j5 p5 ⟨i4, o0, hfr, d3, i3, d2, i2, j2, m2⟩ h
  refine E_joinC h (fun (s : Unit) e w => ∃ (g : Gh) , Fr gI wI g w ∧ e 0 = up0 ∧ RV g.m w (x0 : List Bool) up0 ∧ e 3 = o0 ∧ RV g.m w (z1 : List Bool) o0 ∧ OS 3005 g w 4 (z1 : List Bool) o0 ∧ e 4 = .int .i64 (j0)) (fun X24 q5 p4 h => ?_) ?_
  ·refine E_seq (E_region (EL_mv m2 rfl ?_))
   refine EL_in (.bool ((decide (j0 ≥ (0 : Int))))) rfl rfl rfl rfl ?_
   refine EL_nil (thn_n ?_)
   rcases csome h with ⟨j1, h⟩ | ⟨j1, h⟩
   ·refine E_ct j1 rfl ?_
    exact E_skip (thn_n (p4 () _ _ ⟨i4, hfr, d3, i3, d2, i2, j2, m2⟩ h))
   ·refine E_cf j1 rfl ?_
    refine E_exit ?_
    refine thn_e ?_
    refine thn_e ?_
    refine blk_hit ?_
    obtain rfl := sinj h
    exact hQ _ _ ⟨i4, (o0), hfr, d2, i2, j2⟩
  ·rintro _ l5 t5 ⟨j4, hfr, p2, n0, j3, u0, y0, q2⟩ h
   obtain ⟨i1, hx, h⟩ := bsome h
   refine E_join (fun e w => ∃ (g : Gh) (v3 : Value), Fr gI wI g w ∧ e 0 = up0 ∧ RV g.m w (x0 : List Bool) up0 ∧ e 3 = v3 ∧ RV g.m w (i1 : List Bool) v3 ∧ OS 3005 g w 4 (i1 : List Bool) v3 ∧ e 4 = .int .i64 (j0)) (fun Q' hQ => ?_) (fun m5 u5 hR => ?_)
   ·replace h := hx
    clear hx
    refine E_block ?_
    refine E_region (EL_mv j3 rfl ?_)
    refine EL_mv p2 rfl ?_
    refine EL_mv q2 rfl ?_
    obtain ⟨m4, z2, h⟩ := bsome h
    refine EL_pur (v := ePtr up0 j0 1) (P_indexAddr (α := Bool) Try.underlying110 Try.sizeOf4 rfl n0 rfl z2) .plain rfl ?_
    have s4 := PT_idx n0 z2
    refine EL_do .plain rfl (D_load (g := j4) Try.isAgg4 Try.sizeOf4 rfl s4 fun x5 u4 => ?_)
    obtain rfl := RV_bool.1 u4
    refine EL_do .plain rfl (D_buildSlice (g := j4) 3018 (xs := ([m4] : List Bool)) (vs := [.bool (m4)]) Try.underlying110 Try.sizeOf4 Try.zeroValue4 rfl rfl (.cons rfl .nil) (RVs.cons (RV_bool.2 rfl) RVs.nil) rfl rfl fun x4 y5 z5 hs o36 z4 hxt hfl => ?_)
    have hfr := hfr.stp hs
    have n0 := n0.stp hs
    have u0 := u0.stp hs
    have y0 := y0.stp hs rfl
    obtain ⟨a6, q4, h⟩ := bsome h
    refine EL_do .plain rfl (D_append (g := x4) (i := 3005) Try.underlying110 info_4 rfl rfl y0 u0 rfl z4 q4 fun c5 b6 n4 hs o37 d5 _ => ?_)
    have hfr := hfr.stp hs
    have n0 := n0.stp hs
    refine EL_at n4 rfl rfl ?_
    refine EL_nil (blk_n ?_)
    obtain rfl := sinj h
    exact hQ _ _ ⟨c5, (n4), hfr, p2, n0, rfl, d5, o37, q2⟩
   ·clear hx
    obtain ⟨e5, m3, hfr, o3, p3, q3, s3, u3, z3⟩ := hR
    refine E_region (EL_mv z3 rfl ?_)
    refine EL_in (.int .i64 ((w64 (j0 - (1 : Int))))) rfl rfl rfl rfl ?_
    refine EL_at (.int .i64 ((w64 (j0 - (1 : Int))))) rfl rfl ?_
    exact EL_nil (thn_n (o4 (i1, (w64 (j0 - (1 : Int)))) _ _ ⟨e5, (m3), hfr, o3, p3, q3, s3, u3, rfl⟩ h))
 ·clear hx
  obtain ⟨c6, s2, hfr, c4, d4, e4⟩ := hR
  refine E_seq (E_region (EL_mv c4 rfl ?_))
  refine EL_at s2 rfl rfl ?_
  refine EL_nil (thn_n (E_ret ?_))
  obtain rfl := sinj h
  obtain ⟨gh, hxh, homh⟩ := OM.hand (i := iO) plain_bool hfr e4 d4
  exact end1 rfl rfl (show _ = s2 from rfl) ⟨gh, hxh, homh⟩
/-- griffe/fault.Can$1 -/
def f61 (x0 : FaultSight) (z0 : FaultLoom) : Option (Bool) :=
 Option.bind (α := Bool) (
  (f62 ((0 : Int)) ((119 : Int)) (([(x0).Pick] : List Int))).bind fun o0 =>
  bif (!o0) then
   some (true)
  else
   (f62 ((0 : Int)) ((w64 (((((z0).Harness).Warps).length : Int) - (1 : Int)))) (([(x0).Warp] : List Int))).bind fun u0 =>
   some ((!u0))
  ) fun n0 =>
 some (n0)
theorem en61 : Enters Try.prog 61 := enters_of Try.func61 (by kernel_rfl) rfl
theorem wk61 {gI : Gh} {wI : World} {x0 : FaultSight} {z0 : FaultLoom} {up0 : Value} (rp0 : RV gI.m wI x0 up0) {pf0 : Value} (qf0 : PT gI.m wI z0 pf0) {r : Bool} (h : f61 x0 z0 = some r) : Fn Try.prog 61 #[up0, pf0] gI wI (fun _ _ v => v = .bool (r)) := by
 unfold f61 at h
 refine fn_of_E Try.func61 rfl (Nat.le_of_ble_eq_true rfl) fun g0 hm hfr => ?_
 have qf0 : PT g0.m wI z0 pf0 := hm ▸ qf0
 have rp0 : RV g0.m wI x0 up0 := hm ▸ rp0
 show E _ 21 none _ _ _ _ _
 refine E_seq (E_region (EL_do .plain rfl (D_box (g := g0) rfl rp0 fun g1 w1 p1 hs q1 => ?_)))
 have hfr := hfr.ext hs
 have qf0 := qf0.ext hs
 refine EL_at (.bool false) rfl rfl ?_
 refine EL_nil (thn_n ?_)
 obtain ⟨n0, hx, h⟩ := bsome h
 refine E_join (fun e w => ∃ (g : Gh) , Fr gI wI g w ∧ e 3 = .bool (n0)) (fun Q' hQ => ?_) (fun p3 u3 hR => ?_)
 ·replace h := hx
  clear hx
  refine E_region (EL_pur (v := fPtr p1 0) (P_fieldAddr at_56_0 rfl (PT.ptr q1)) .plain rfl ?_)
  have d2 := PT_field (part_FaultSight_0).1 q1
  refine EL_do .plain rfl (D_load (g := g1) Try.isAgg3 Try.sizeOf3 rfl d2 fun z3 i2 => ?_)
  obtain rfl := RV_int.1 i2
  refine EL_do .plain rfl (D_buildSlice (g := g1) 3006 (xs := ([(x0).Pick] : List Int)) (vs := [.int .i64 ((x0).Pick)]) Try.underlying22 Try.sizeOf3 Try.zeroValue3 rfl rfl (.cons rfl .nil) (RVs.cons (RV_int.2 rfl) RVs.nil) rfl rfl fun j2 c4 m2 hs o18 p2 hxt hfl => ?_)
  have hfr := hfr.stp hs
  have qf0 := qf0.stp hs
  have q1 := q1.stp hs
  obtain ⟨o0, m1, h⟩ := bsome h
  refine EL_do .plain rfl (D_call (g := j2) (vs := [.int .i64 (0), .int .i64 (119), m2]) en62 (.cons rfl (.cons rfl (.cons rfl .nil))) (wk62 p2 m1) fun y0 q3 d4 hs hr => ?_)
  have hfr := hfr.ext hs
  have qf0 := qf0.ext hs
  have q1 := q1.ext hs
  subst hr
  refine EL_pur (v := .bool (!o0)) (P_not rfl) .plain rfl ?_
  refine EL_mw (.bool (!o0)) rfl rfl ?_
  rcases csome h with ⟨j0, h⟩ | ⟨j0, h⟩
  ·refine EL_skip (.no2 rfl rfl j0 rfl) rfl ?_
   refine EL_skip (.no2 rfl rfl j0 rfl) rfl ?_
   refine EL_skip (.no2 rfl rfl j0 rfl) rfl ?_
   refine EL_skip (.no2 rfl rfl j0 rfl) rfl ?_
   refine EL_skip (.no2 rfl rfl j0 rfl) rfl ?_
   refine EL_skip (.no2 rfl rfl j0 rfl) rfl ?_
   refine EL_skip (.no2 rfl rfl j0 rfl) rfl ?_
   refine EL_skip (.no2 rfl rfl j0 rfl) rfl ?_
   refine EL_skip (.no2 rfl rfl j0 rfl) rfl ?_
   refine EL_skip (.no2 rfl rfl j0 rfl) rfl ?_
   refine EL_pur (v := .bool true) (P_pick (b := (!o0)) rfl (pick_t j0 rfl)) .plain rfl ?_
   refine EL_at (.bool true) rfl rfl ?_
   refine EL_nil ?_
   obtain rfl := sinj h
   exact hQ _ _ ⟨y0, hfr, rfl⟩
  ·refine EL_pur (v := fPtr pf0 0) (P_fieldAddr at_28_0 rfl (PT.ptr qf0)) (.yes2 rfl rfl j0) rfl ?_
   have j1 := PT_field (part_FaultLoom_0).1 qf0
   refine EL_pur (v := fPtr (fPtr pf0 0) 1) (P_fieldAddr at_24_1 rfl (PT.ptr j1)) (.yes2 rfl rfl j0) rfl ?_
   have q2 := PT_field (part_TieHarness_1).1 j1
   refine EL_do (.yes2 rfl rfl j0) rfl (D_load (g := y0) Try.isAgg22 Try.sizeOf22 rfl q2 fun e4 s2 => ?_)
   refine EL_pur (v := .int .i64 ((((z0).Harness).Warps).length : Int)) (P_len Try.underlying22 rfl s2) (.yes2 rfl rfl j0) rfl ?_
   refine EL_pur (v := .int .i64 ((w64 (((((z0).Harness).Warps).length : Int) - (1 : Int))))) (P_int rfl rfl rfl) (.yes2 rfl rfl j0) rfl ?_
   refine EL_pur (v := fPtr p1 1) (P_fieldAddr at_56_1 rfl (PT.ptr q1)) (.yes2 rfl rfl j0) rfl ?_
   have z2 := PT_field (part_FaultSight_1).1 q1
   refine EL_do (.yes2 rfl rfl j0) rfl (D_load (g := y0) Try.isAgg3 Try.sizeOf3 rfl z2 fun i4 d3 => ?_)
   obtain rfl := RV_int.1 d3
   refine EL_do (.yes2 rfl rfl j0) rfl (D_buildSlice (g := y0) 3017 (xs := ([(x0).Warp] : List Int)) (vs := [.int .i64 ((x0).Warp)]) Try.underlying22 Try.sizeOf3 Try.zeroValue3 rfl rfl (.cons rfl .nil) (RVs.cons (RV_int.2 rfl) RVs.nil) rfl rfl fun i3 j4 j3 hs o27 m3 hxt hfl => ?_)
   have hfr := hfr.stp hs
   obtain ⟨u0, z1, h⟩ := bsome h
   refine EL_do (.yes2 rfl rfl j0) rfl (D_call (g := i3) (vs := [.int .i64 (0), .int .i64 ((w64 (((((z0).Harness).Warps).length : Int) - (1 : Int)))), j3]) en62 (.cons rfl (.cons rfl (.cons rfl .nil))) (wk62 m3 z1) fun o3 s3 m4 hs hr => ?_)
   have hfr := hfr.ext hs
   subst hr
   refine EL_pur (v := .bool (!u0)) (P_not rfl) (.yes2 rfl rfl j0) rfl ?_
   refine EL_pur (v := .bool (!u0)) (P_pick (b := (!o0)) rfl (pick_f j0 rfl)) .plain rfl ?_
   refine EL_at (.bool (!u0)) rfl rfl ?_
   refine EL_nil ?_
   obtain rfl := sinj h
   exact hQ _ _ ⟨o3, hfr, rfl⟩
 ·clear hx
  obtain ⟨n4, hfr, i1⟩ := hR
  refine E_ret ?_
  obtain rfl := sinj h
  exact end1 rfl rfl (show _ = .bool (n0) from i1) ⟨_, hfr, rfl⟩
/-- slices.stableCmpFunc[griffe/api.FaultDamage] -/
def f96 (x0 : List FaultDamage) (x1 : Int) (x2 : FaultDamage → FaultDamage → Option Int) : Option ((List FaultDamage)) :=
 Option.bind (α := (List FaultDamage) × Int) (
  lp (σ := (List FaultDamage) × Int × Int) (fun k9 (j1, i1, n0) =>
   jn (σ := Unit) (fun (_ : Unit) =>
    (f107 j1 i1 n0 x2).bind fun u5 =>
    k9 (u5, n0, (w64 (n0 + (20 : Int))))
    ) fun v6 =>
   bif (decide (n0 ≤ x1)) then
    v6 ()
   else
    some (j1, i1)
   ) big (x0, (0 : Int), (20 : Int))
  ) fun (p2, m1) =>
 (f107 p2 m1 x1 x2).bind fun x6 =>
 lp (σ := (List FaultDamage) × Int) (fun y6 (z1, j0) =>
  jn (σ := Unit) (fun (_ : Unit) =>
   Option.bind (α := (List FaultDamage) × Int) (
    lp (σ := (List FaultDamage) × Int × Int) (fun z6 (d2, y0, o0) =>
     jn (σ := Unit) (fun (_ : Unit) =>
      (f108 big d2 y0 ((w64 (y0 + j0))) o0 x2).bind fun x5 =>
      z6 (x5, o0, (w64 (o0 + (w64 ((2 : Int) * j0)))))
      ) fun a7 =>
     bif (decide (o0 ≤ x1)) then
      a7 ()
     else
      some (d2, y0)
     ) big (z1, (0 : Int), (w64 ((2 : Int) * j0)))
    ) fun (i2, u0) =>
   Option.bind (α := (List FaultDamage)) (
    bif (decide ((w64 (u0 + j0)) < x1)) then
     (f108 big i2 u0 ((w64 (u0 + j0))) x1 x2).bind fun b7 =>
     some (b7)
    else
     some (i2)
    ) fun j2 =>
   y6 (j2, (w64 (j0 * (2 : Int))))
   ) fun c7 =>
  bif (decide (j0 < x1)) then
   c7 ()
  else
   some (z1)
  ) big (x6, (20 : Int))
theorem en96 : Enters Try.prog 96 := enters_of Try.func96 (by kernel_rfl) rfl
theorem wk96 {iI : Nat} {gI : Gh} {wI : World} {x0 : List FaultDamage} {x1 : Int} {x2 : FaultDamage → FaultDamage → Option Int} {up0 : Value} (mp0 : OM iI gI wI 62 x0 up0) {up2 : Value} (rp2 : FnV2 Try.prog x2 up2 gI wI) {r : (List FaultDamage)} (h : f96 x0 x1 x2 = some r) : FnM Try.prog 96 #[up0, .int .i64 (x1), up2] iI gI wI (fun g w v => v = .tuple #[] ∧ OM iI g w 62 r up0) := by
 unfold f96 at h
 refine fnM_of_E Try.func96 rfl (Nat.le_of_ble_eq_true rfl) fun g0 hm hfr => ?_
 have y5 := mp0
 replace mp0 := mp0.enter
 rw [← hm] at mp0
 replace hm : g0.m = gI.m := by rw [hm]
 obtain ⟨ff2, fa2, fc2, rfl, fen2, fcl2⟩ := rp2
 show E _ 63 none _ _ _ _ _
 refine E_seq (E_region (EL_at (.int .i64 (20)) rfl rfl ?_))
 refine EL_nil (thn_n (E_seq (E_region (EL_mw (.int .i64 (20)) rfl rfl ?_))))
 refine EL_at (.int .i64 (0)) rfl rfl ?_
 refine EL_at (.int .i64 (20)) rfl rfl ?_
 refine EL_nil (thn_n ?_)
 obtain ⟨⟨p2, m1⟩, hx, h⟩ := bsome h
 refine E_join (fun e w => ∃ (g : Gh) , FrM iI gI wI g w ∧ e 0 = up0 ∧ OM 1 g w 62 (p2 : List FaultDamage) up0 ∧ e 1 = .int .i64 (x1) ∧ e 2 = (.func (.func ff2) fa2 fc2) ∧ e 6 = .int .i64 ((20 : Int)) ∧ e 7 = .int .i64 (m1)) (fun Q' hQ => ?_) (fun g8 i7 hR => ?_)
 ·replace h := hx
  clear hx
  refine E_block ?_
  refine E_lp h (fun (s : (List FaultDamage) × Int × Int) e w => ∃ (g : Gh) , FrM iI gI wI g w ∧ e 0 = up0 ∧ OM 1 g w 62 (s.1 : List FaultDamage) up0 ∧ e 1 = .int .i64 (x1) ∧ e 2 = (.func (.func ff2) fa2 fc2) ∧ e 6 = .int .i64 ((20 : Int)) ∧ e 7 = .int .i64 (s.2.1) ∧ e 8 = .int .i64 (s.2.2)) ⟨g0, hfr, rfl, mp0, rfl, rfl, rfl, rfl, rfl⟩ (fun X9 k9 t7 => ?_)
  rintro ⟨j1, i1, n0⟩ i8 v8 ⟨d7, hfr, z3, c4, q2, d4, e4, i4, j4⟩ h
  refine E_joinC h (fun (s : Unit) e w => ∃ (g : Gh) , FrM iI gI wI g w ∧ e 0 = up0 ∧ OM 1 g w 62 (j1 : List FaultDamage) up0 ∧ e 1 = .int .i64 (x1) ∧ e 2 = (.func (.func ff2) fa2 fc2) ∧ e 6 = .int .i64 ((20 : Int)) ∧ e 7 = .int .i64 (i1) ∧ e 8 = .int .i64 (n0)) (fun X12 v6 j7 h => ?_) ?_
  ·refine E_seq (E_region (EL_mv j4 rfl ?_))
   refine EL_mv q2 rfl ?_
   refine EL_in (.bool ((decide (n0 ≤ x1)))) rfl rfl rfl rfl ?_
   refine EL_nil (thn_n ?_)
   rcases csome h with ⟨p3, h⟩ | ⟨p3, h⟩
   ·refine E_ct p3 rfl ?_
    exact E_skip (thn_n (j7 () _ _ ⟨d7, hfr, z3, c4, q2, d4, e4, i4, j4⟩ h))
   ·refine E_cf p3 rfl ?_
    refine E_exit ?_
    refine thn_e ?_
    refine thn_e ?_
    refine blk_hit ?_
    obtain ⟨rfl, rfl⟩ := pairs2 h
    exact hQ _ _ ⟨d7, hfr, z3, c4, q2, d4, e4, i4⟩
  ·rintro _ j8 x8 ⟨u7, hfr, m4, z5, a6, n4, o4, b6, s2⟩ h
   refine E_block ?_
   refine E_seq (E_region (EL_mv m4 rfl ?_))
   refine EL_mv b6 rfl ?_
   refine EL_mv s2 rfl ?_
   refine EL_mv n4 rfl ?_
   obtain ⟨u5, l7, h⟩ := bsome h
   refine EL_do .plain rfl (D_callM (g := u7) (i := 1) (vs := [up0, .int .i64 (i1), .int .i64 (n0), (.func (.func ff2) fa2 fc2)]) en107 (.cons rfl (.cons rfl (.cons rfl (.cons rfl .nil)))) (wk107 z5 (FnV2.ch ⟨_, _, _, rfl, fen2, fcl2⟩ hfr.ch) l7) fun v7 k8 y8 hs hr => ?_)
   obtain ⟨hrv, b15⟩ := hr
   subst hrv
   have hfr := hfr.stp hs
   refine EL_nil (thn_n (E_seq (E_region (EL_mv s2 rfl ?_))))
   refine EL_at (.int .i64 (n0)) rfl rfl ?_
   refine EL_nil (thn_n (E_region (EL_mv s2 rfl ?_)))
   refine EL_mv o4 rfl ?_
   refine EL_in (.int .i64 ((w64 (n0 + (20 : Int))))) rfl rfl rfl rfl ?_
   refine EL_at (.int .i64 ((w64 (n0 + (20 : Int))))) rfl rfl ?_
   exact EL_nil (blk_n (thn_n (t7 (u5, n0, (w64 (n0 + (20 : Int)))) _ _ ⟨v7, hfr, m4, b15, a6, n4, o4, rfl, rfl⟩ h)))
 ·clear hx
  obtain ⟨x7, hfr, p4, c6, q4, s4, d6, e6⟩ := hR
  refine E_seq (E_region (EL_mv p4 rfl ?_))
  refine EL_mv e6 rfl ?_
  refine EL_mv q4 rfl ?_
  refine EL_mv s4 rfl ?_
  obtain ⟨x6, m7, h⟩ := bsome h
  refine EL_do .plain rfl (D_callM (g := x7) (i := 1) (vs := [up0, .int .i64 (m1), .int .i64 (x1), (.func (.func ff2) fa2 fc2)]) en107 (.cons rfl (.cons rfl (.cons rfl (.cons rfl .nil)))) (wk107 c6 (FnV2.ch ⟨_, _, _, rfl, fen2, fcl2⟩ hfr.ch) m7) fun y7 i7 z8 hs hr => ?_)
  obtain ⟨hrv, b18⟩ := hr
  subst hrv
  have hfr := hfr.stp hs
  refine EL_nil (thn_n (E_block ?_))
  refine E_lp h (fun (s : (List FaultDamage) × Int) e w => ∃ (g : Gh) , FrM iI gI wI g w ∧ e 0 = up0 ∧ OM 1 g w 62 (s.1 : List FaultDamage) up0 ∧ e 1 = .int .i64 (x1) ∧ e 2 = (.func (.func ff2) fa2 fc2) ∧ e 6 = .int .i64 (s.2)) ⟨y7, hfr, p4, b18, q4, s4, d6⟩ (fun X20 y6 n7 => ?_)
  rintro ⟨z1, j0⟩ l8 a9 ⟨z7, hfr, i6, u4, x4, j6, z4⟩ h
  refine E_joinC h (fun (s : Unit) e w => ∃ (g : Gh) , FrM iI gI wI g w ∧ e 0 = up0 ∧ OM 1 g w 62 (z1 : List FaultDamage) up0 ∧ e 1 = .int .i64 (x1) ∧ e 2 = (.func (.func ff2) fa2 fc2) ∧ e 6 = .int .i64 (j0)) (fun X23 c7 o7 h => ?_) ?_
  ·refine E_seq (E_region (EL_mv z4 rfl ?_))
   refine EL_mv x4 rfl ?_
   refine EL_in (.bool ((decide (j0 < x1)))) rfl rfl rfl rfl ?_
   refine EL_nil (thn_n ?_)
   rcases csome h with ⟨q3, h⟩ | ⟨q3, h⟩
   ·refine E_ct q3 rfl ?_
    exact E_skip (thn_n (o7 () _ _ ⟨z7, hfr, i6, u4, x4, j6, z4⟩ h))
   ·refine E_cf q3 rfl ?_
    refine E_exit ?_
    refine thn_e ?_
    refine thn_e ?_
    refine blk_hit ?_
    obtain rfl := sinj h
    exact end0n rfl rfl ⟨_, hfr, rfl, y5.back u4⟩
  ·rintro _ m8 b9 ⟨a8, hfr, k6, l6, m6, n6, c5⟩ h
   refine E_block ?_
   refine E_seq (E_region (EL_mv c5 rfl ?_))
   refine EL_in (.int .i64 ((w64 ((2 : Int) * j0)))) rfl rfl rfl rfl ?_
   refine EL_at (.int .i64 (0)) rfl rfl ?_
   refine EL_at (.int .i64 ((w64 ((2 : Int) * j0)))) rfl rfl ?_
   refine EL_nil (thn_n ?_)
   obtain ⟨⟨i2, u0⟩, hx, h⟩ := bsome h
   refine E_join (fun e w => ∃ (g : Gh) , FrM iI gI wI g w ∧ e 0 = up0 ∧ OM 1 g w 62 (i2 : List FaultDamage) up0 ∧ e 1 = .int .i64 (x1) ∧ e 2 = (.func (.func ff2) fa2 fc2) ∧ e 6 = .int .i64 (j0) ∧ e 7 = .int .i64 (u0)) (fun Q' hQ => ?_) (fun n8 c9 hR => ?_)
   ·replace h := hx
    clear hx
    refine E_block ?_
    refine E_lp h (fun (s : (List FaultDamage) × Int × Int) e w => ∃ (g : Gh) , FrM iI gI wI g w ∧ e 0 = up0 ∧ OM 1 g w 62 (s.1 : List FaultDamage) up0 ∧ e 1 = .int .i64 (x1) ∧ e 2 = (.func (.func ff2) fa2 fc2) ∧ e 6 = .int .i64 (j0) ∧ e 7 = .int .i64 (s.2.1) ∧ e 8 = .int .i64 (s.2.2)) ⟨a8, hfr, k6, l6, m6, n6, c5, rfl, rfl⟩ (fun X34 z6 p7 => ?_)
    rintro ⟨d2, y0, o0⟩ o8 d9 ⟨e7, hfr, d5, e5, z2, i5, j5, l5, m5⟩ h
    refine E_joinC h (fun (s : Unit) e w => ∃ (g : Gh) , FrM iI gI wI g w ∧ e 0 = up0 ∧ OM 1 g w 62 (d2 : List FaultDamage) up0 ∧ e 1 = .int .i64 (x1) ∧ e 2 = (.func (.func ff2) fa2 fc2) ∧ e 6 = .int .i64 (j0) ∧ e 7 = .int .i64 (y0) ∧ e 8 = .int .i64 (o0)) (fun X37 a7 q7 h => ?_) ?_
    ·refine E_seq (E_region (EL_mv m5 rfl ?_))
     refine EL_mv z2 rfl ?_
     refine EL_in (.bool ((decide (o0 ≤ x1)))) rfl rfl rfl rfl ?_
     refine EL_nil (thn_n ?_)
     rcases csome h with ⟨s3, h⟩ | ⟨s3, h⟩
     ·refine E_ct s3 rfl ?_
      exact E_skip (thn_n (q7 () _ _ ⟨e7, hfr, d5, e5, z2, i5, j5, l5, m5⟩ h))
     ·refine E_cf s3 rfl ?_
      refine E_exit ?_
      refine thn_e ?_
      refine thn_e ?_
      refine blk_hit ?_
      obtain ⟨rfl, rfl⟩ := pairs2 h
      exact hQ _ _ ⟨e7, hfr, d5, e5, z2, i5, j5, l5⟩
    ·rintro _ p8 e9 ⟨b8, hfr, n5, o6, p6, o5, d3, p5, i3⟩ h
     refine E_block ?_
     refine E_seq (E_region (EL_mv n5 rfl ?_))
     refine EL_mv p5 rfl ?_
     refine EL_mv p5 rfl ?_
     refine EL_mv d3 rfl ?_
     refine EL_in (.int .i64 ((w64 (y0 + j0)))) rfl rfl rfl rfl ?_
     refine EL_mv i3 rfl ?_
     refine EL_mv o5 rfl ?_
     obtain ⟨x5, r7, h⟩ := bsome h
     refine EL_do .plain rfl (D_callM (g := b8) (i := 1) (vs := [up0, .int .i64 (y0), .int .i64 ((w64 (y0 + j0))), .int .i64 (o0), (.func (.func ff2) fa2 fc2)]) en108 (.cons rfl (.cons rfl (.cons rfl (.cons rfl (.cons rfl .nil))))) (wk108 big o6 (FnV2.ch ⟨_, _, _, rfl, fen2, fcl2⟩ hfr.ch) r7) fun c8 q8 g9 hs hr => ?_)
     obtain ⟨hrv, b40⟩ := hr
     subst hrv
     have hfr := hfr.stp hs
     refine EL_nil (thn_n (E_seq (E_region (EL_mv i3 rfl ?_))))
     refine EL_at (.int .i64 (o0)) rfl rfl ?_
     refine EL_nil (thn_n (E_region (EL_mv i3 rfl ?_)))
     refine EL_mv d3 rfl ?_
     refine EL_in (.int .i64 ((w64 ((2 : Int) * j0)))) rfl rfl rfl rfl ?_
     refine EL_pur (v := .int .i64 ((w64 (o0 + (w64 ((2 : Int) * j0)))))) (P_int rfl rfl rfl) .plain rfl ?_
     refine EL_pur (v := .int .i64 ((w64 (o0 + (w64 ((2 : Int) * j0)))))) (P_assign rfl) .plain rfl ?_
     exact EL_nil (blk_n (thn_n (p7 (x5, o0, (w64 (o0 + (w64 ((2 : Int) * j0))))) _ _ ⟨c8, hfr, n5, b40, p6, o5, d3, rfl, rfl⟩ h)))
   ·clear hx
    obtain ⟨g7, hfr, j3, q5, m2, m3, o3, t5⟩ := hR
    obtain ⟨j2, hx, h⟩ := bsome h
    refine E_join (fun e w => ∃ (g : Gh) , FrM iI gI wI g w ∧ e 0 = up0 ∧ OM 1 g w 62 (j2 : List FaultDamage) up0 ∧ e 1 = .int .i64 (x1) ∧ e 2 = (.func (.func ff2) fa2 fc2) ∧ e 6 = .int .i64 (j0)) (fun Q' hQ => ?_) (fun r8 i9 hR => ?_)
    ·replace h := hx
     clear hx
     refine E_seq (E_region (EL_mv t5 rfl ?_))
     refine EL_mv o3 rfl ?_
     refine EL_in (.int .i64 ((w64 (u0 + j0)))) rfl rfl rfl rfl ?_
     refine EL_at (.int .i64 ((w64 (u0 + j0)))) rfl rfl ?_
     refine EL_nil (thn_n (E_seq (E_region (EL_mw (.int .i64 ((w64 (u0 + j0)))) rfl rfl ?_))))
     refine EL_mv m2 rfl ?_
     refine EL_in (.bool ((decide ((w64 (u0 + j0)) < x1)))) rfl rfl rfl rfl ?_
     refine EL_nil (thn_n ?_)
     rcases csome h with ⟨u3, h⟩ | ⟨u3, h⟩
     ·refine E_ct u3 rfl ?_
      refine E_region (EL_mv j3 rfl ?_)
      refine EL_mv t5 rfl ?_
      refine EL_mw (.int .i64 ((w64 (u0 + j0)))) rfl rfl ?_
      refine EL_mv m2 rfl ?_
      refine EL_mv m3 rfl ?_
      obtain ⟨b7, s7, h⟩ := bsome h
      refine EL_do .plain rfl (D_callM (g := g7) (i := 1) (vs := [up0, .int .i64 (u0), .int .i64 ((w64 (u0 + j0))), .int .i64 (x1), (.func (.func ff2) fa2 fc2)]) en108 (.cons rfl (.cons rfl (.cons rfl (.cons rfl (.cons rfl .nil))))) (wk108 big q5 (FnV2.ch ⟨_, _, _, rfl, fen2, fcl2⟩ hfr.ch) s7) fun d8 t8 j9 hs hr => ?_)
      obtain ⟨hrv, b47⟩ := hr
      subst hrv
      have hfr := hfr.stp hs
      refine EL_nil ?_
      obtain rfl := sinj h
      exact hQ _ _ ⟨d8, hfr, j3, b47, m2, m3, o3⟩
     ·refine E_cf u3 rfl ?_
      refine E_skip ?_
      obtain rfl := sinj h
      exact hQ _ _ ⟨g7, hfr, j3, q5, m2, m3, o3⟩
    ·clear hx
     obtain ⟨e8, hfr, q6, r6, s6, t6, u6⟩ := hR
     refine E_region (EL_mv u6 rfl ?_)
     refine EL_in (.int .i64 ((w64 (j0 * (2 : Int))))) rfl rfl rfl rfl ?_
     refine EL_at (.int .i64 ((w64 (j0 * (2 : Int))))) rfl rfl ?_
     exact EL_nil (blk_n (thn_n (n7 (j2, (w64 (j0 * (2 : Int)))) _ _ ⟨e8, hfr, q6, r6, s6, t6, rfl⟩ h)))
/-- griffe/fault.Check$1 -/
def f51 (x0 : FaultDamage) (z0 : FaultLoom) : Option (Bool) :=
 (f52 ((⟨z0⟩ : FaultFaultLoom)) x0).bind fun y6 =>
 some ((!y6))
theorem en51 : Enters Try.prog 51 := enters_of Try.func51 (by kernel_rfl) rfl
theorem wk51 {gI : Gh} {wI : World} {x0 : FaultDamage} {z0 : FaultLoom} {up0 : Value} (rp0 : RV gI.m wI x0 up0) {pf0 : Value} (qf0 : PT gI.m wI z0 pf0) {r : Bool} (h : f51 x0 z0 = some r) : Fn Try.prog 51 #[up0, pf0] gI wI (fun _ _ v => v = .bool (r)) := by
 unfold f51 at h
 refine fn_of_E Try.func51 rfl (Nat.le_of_ble_eq_true rfl) fun g0 hm hfr => ?_
 have qf0 : PT g0.m wI z0 pf0 := hm ▸ qf0
 have rp0 : RV g0.m wI x0 up0 := hm ▸ rp0
 show E _ 9 none _ _ _ _ _
 refine E_seq (E_region (EL_do .plain rfl (D_box (g := g0) rfl rp0 fun g1 w1 p1 hs q1 => ?_)))
 have hfr := hfr.ext hs
 have qf0 := qf0.ext hs
 refine EL_at (.bool false) rfl rfl ?_
 refine EL_nil (thn_n (E_seq (E_region (EL_do .plain rfl (D_load (g := g1) Try.isAgg28 Try.sizeOf28 rfl qf0 fun v2 r2 => ?_)))))
 have r3 : RV g1.m _ (⟨z0⟩ : FaultFaultLoom) (.agg (setCh [[.int .i64 0, .slice none 0 0, .int .i64 0, .slice none 0 0]] [(0, v2)]).flatten.toArray) := RV_build rfl (rep_last (RV.cells r2))
 generalize hv3 : (Value.agg (setCh [[.int .i64 0, .slice none 0 0, .int .i64 0, .slice none 0 0]] [(0, v2)]).flatten.toArray) = v3 at r3
 refine EL_pur (v := v3) (hv3 ▸ P_build (vs := [(0, v2)]) [[.int .i64 0, .slice none 0 0, .int .i64 0, .slice none 0 0]] lay_98 rfl rfl (.cons rfl .nil) ⟨⟨_, rfl, cells_size r2⟩, trivial⟩) .plain rfl ?_
 refine EL_do .plain rfl (D_load (g := g1) Try.isAgg62 Try.sizeOf62 rfl q1 fun v4 r4 => ?_)
 obtain ⟨y6, j0, h⟩ := bsome h
 refine EL_do .plain rfl (D_call (g := g1) (vs := [v3, v4]) en52 (.cons rfl (.cons rfl .nil)) (wk52 r3 r4 j0) fun g5 w5_ v5 hs hr => ?_)
 have hfr := hfr.ext hs
 subst hr
 refine EL_pur (v := .bool (!y6)) (P_not rfl) .plain rfl ?_
 refine EL_at (.bool (!y6)) rfl rfl ?_
 refine EL_nil (thn_n (E_ret ?_))
 obtain rfl := sinj h
 exact end1 rfl rfl (show _ = .bool (!y6) from rfl) ⟨_, hfr, rfl⟩
/-- griffe/grifferef05.Cards -/
def f60 (x0 : FaultLoom) (x1 : List FaultDamage) : Option ((List (List Bool))) :=
 (f85 ((x0).Design)).bind fun y5 =>
 Option.bind (α := (List (List Bool))) (
  lp (σ := (List (List Bool)) × Int) (fun u4 (y0, j1) =>
   jn (σ := Unit) (fun (_ : Unit) =>
    Option.bind (α := (List (List Bool))) (
     (idx x1 j1).bind fun u0 =>
     bif ((u0).Kind == (1 : Int)) then
      (idx y0 (u0).Pick).bind fun i4 =>
      (idx y0 (u0).Pick).bind fun x4 =>
      (idx x4 (u0).Hook).bind fun m2 =>
      (idx i4 (u0).Hook).bind fun _c7 =>
      some ((List.set y0 (Int.toNat (u0).Pick) (List.set i4 (Int.toNat (u0).Hook) ((!m2)))))
     else
      bif ((u0).Kind == (3 : Int)) then
       (idx y0 ((u0).Pick)).bind fun z4 =>
       (f86 z4).bind fun p2 =>
       some ((List.set y0 (Int.toNat (u0).Pick) p2))
      else
       bif ((u0).Kind == (4 : Int)) then
        (rem64 (w64 ((u0).Pick + (1 : Int))) ((y0).length : Int)).bind fun z1 =>
        (idx y0 (u0).Pick).bind fun c5 =>
        (idx y0 z1).bind fun d5 =>
        (idx y0 (u0).Pick).bind fun _d7 =>
        some ((List.set (List.set y0 (Int.toNat (u0).Pick) d5) (Int.toNat z1) c5))
       else
        some (y0)
     ) fun j2 =>
    u4 (j2, (w64 (j1 + (1 : Int))))
    ) fun e5 =>
   bif (decide (j1 < ((x1).length : Int))) then
    e5 ()
   else
    some (y0)
   ) big (y5, (0 : Int))
  ) fun s2 =>
 some (s2)
theorem en60 : Enters Try.prog 60 := enters_of Try.func60 (by kernel_rfl) rfl
theorem wk60 {gI : Gh} {wI : World} {x0 : FaultLoom} {x1 : List FaultDamage} {up0 : Value} (rp0 : RV gI.m wI x0 up0) {up1 : Value} (rp1 : RV gI.m wI x1 up1) {r : (List (List Bool))} (h : f60 x0 x1 = some r) : Fn Try.prog 60 #[up0, up1] gI wI (fun m w v => RV m w (r) v) := by
 unfold f60 at h
 refine fn_of_E Try.func60 rfl (Nat.le_of_ble_eq_true rfl) fun g0 hm hfr => ?_
 have rp0 : RV g0.m wI x0 up0 := hm ▸ rp0
 have rp1 : RV g0.m wI x1 up1 := hm ▸ rp1
 show E _ 85 none _ _ _ _ _
 refine E_seq (E_region (EL_do .plain rfl (D_box (g := g0) rfl rp0 fun g1 w1 p1 hs q1 => ?_)))
 have hfr := hfr.ext hs
 have rp1 := rp1.ext hs
 refine EL_at (.slice none 0 0) rfl rfl ?_
 refine EL_nil (thn_n (E_seq (E_region (EL_pur (v := fPtr p1 2) (P_fieldAddr at_28_1 rfl (PT.ptr q1)) .plain rfl ?_))))
 have q2 := PT_field (part_FaultLoom_1).1 q1
 refine EL_do .plain rfl (D_load (g := g1) Try.isAgg26 Try.sizeOf26 rfl q2 fun v3 r3 => ?_)
 obtain ⟨y5, o8, h⟩ := bsome h
 refine EL_do .plain rfl (D_callG (g := g1) (vs := [v3]) en85 (.cons rfl .nil) (v85_0 (iO := 9013) (jO := 9513) r3 o8) fun g4 w4_ v4 hs hr => ?_)
 have hfr := hfr.ext hs
 have rp1 := rp1.ext hs
 obtain ⟨q4, b4, c4⟩ := hr
 refine EL_at v4 rfl rfl ?_
 refine EL_nil (thn_n ?_)
 obtain ⟨s2, hx, h⟩ := bsome h
 refine E_join (fun e w => ∃ (g : Gh) , Fr gI wI g w ∧ e 5 = v4 ∧ NS (RM (α := Bool) 4) 9013 9513 g w 110 (s2 : List (List Bool)) v4) (fun Q' hQ => ?_) (fun v8 a9 hR => ?_)
 ·replace h := hx
  clear hx
  refine E_seq (E_region (EL_at (.int .i64 (0)) rfl rfl ?_))
  refine EL_nil (thn_n (E_block ?_))
  refine E_lp h (fun (s : (List (List Bool)) × Int) e w => ∃ (g : Gh) , Fr gI wI g w ∧ e 1 = up1 ∧ RV g.m w (x1 : List FaultDamage) up1 ∧ e 5 = v4 ∧ NS (RM (α := Bool) 4) 9013 9513 g w 110 (s.1 : List (List Bool)) v4 ∧ e 6 = .int .i64 (s.2)) ⟨g4, hfr, rfl, rp1, rfl, ⟨_, b4, c4⟩, rfl⟩ (fun X309 u4 b6 => ?_)
  rintro ⟨y0, j1⟩ x8 b9 ⟨i5, hfr, q3, s3, u3, ⟨p8, z3, d4⟩, e4⟩ h
  refine E_joinC h (fun (s : Unit) e w => ∃ (g : Gh) , Fr gI wI g w ∧ e 1 = up1 ∧ RV g.m w (x1 : List FaultDamage) up1 ∧ e 5 = v4 ∧ NS (RM (α := Bool) 4) 9013 9513 g w 110 (y0 : List (List Bool)) v4 ∧ e 6 = .int .i64 (j1)) (fun X312 e5 c6 h => ?_) ?_
  ·refine E_seq (E_region (EL_mv e4 rfl ?_))
   refine EL_mv q3 rfl ?_
   refine EL_pur (v := .int .i64 ((x1).length : Int)) (P_len Try.underlying29 rfl s3) .plain rfl ?_
   refine EL_in (.bool ((decide (j1 < ((x1).length : Int))))) rfl rfl rfl rfl ?_
   refine EL_nil (thn_n ?_)
   rcases csome h with ⟨z2, h⟩ | ⟨z2, h⟩
   ·refine E_ct z2 rfl ?_
    exact E_skip (thn_n (c6 () _ _ ⟨i5, hfr, q3, s3, u3, ⟨_, z3, d4⟩, e4⟩ h))
   ·refine E_cf z2 rfl ?_
    refine E_exit ?_
    refine thn_e ?_
    refine thn_e ?_
    refine blk_hit ?_
    obtain rfl := sinj h
    exact hQ _ _ ⟨i5, hfr, u3, ⟨_, z3, d4⟩⟩
  ·rintro _ y8 c9 ⟨j5, hfr, d2, n0, i1, ⟨q8, j0, o0⟩, i2⟩ h
   obtain ⟨j2, hx, h⟩ := bsome h
   refine E_join (fun e w => ∃ (g : Gh) , Fr gI wI g w ∧ e 1 = up1 ∧ RV g.m w (x1 : List FaultDamage) up1 ∧ e 5 = v4 ∧ NS (RM (α := Bool) 4) 9013 9513 g w 110 (j2 : List (List Bool)) v4 ∧ e 6 = .int .i64 (j1)) (fun Q' hQ => ?_) (fun z8 d9 hR => ?_)
   ·replace h := hx
    clear hx
    refine E_block ?_
    refine E_seq (E_region (EL_mv d2 rfl ?_))
    refine EL_mv i2 rfl ?_
    obtain ⟨u0, o4, h⟩ := bsome h
    refine EL_pur (v := ePtr up1 j1 5) (P_indexAddr (α := FaultDamage) Try.underlying29 Try.sizeOf62 rfl n0 rfl o4) .plain rfl ?_
    have e7 := PT_idx n0 o4
    refine EL_do .plain rfl (D_load (g := j5) Try.isAgg62 Try.sizeOf62 rfl e7 fun g7 j4 => ?_)
    refine EL_do .plain rfl (D_allocOc (g := j5) 2007 (⟨0, 0, 0, 0, false⟩ : FaultDamage) Try.zeroValue62 (fun m w => ⟨_, (rep_two rep_int (rep_two rep_int (rep_two rep_int (rep_two rep_int rep_bool)))), rfl⟩) fun i7 e9 m1 hs b466 cb => ?_)
    have hfr := hfr.stp hs
    have n0 := n0.stp hs
    have j0 := j0.stp hs rfl
    have o0 := o0.stp (rowM _) hs rfl
    have j4 := j4.stp hs
    clear cb
    refine EL_do .plain rfl (D_storeOc (g := i7) (v := g7) Try.sizeOf62 rfl b466 rfl j4 fun g9 i9 hs b467 cb => ?_)
    clear cb
    have hfr := hfr.stp hs
    have n0 := n0.stp hs
    have j0 := j0.stp hs rfl
    have o0 := o0.stp (rowM _) hs rfl
    obtain ⟨gp467, hs, qp467⟩ := OB.pub b467
    have hfr := hfr.stp hs
    have n0 := n0.stp hs
    have j0 := j0.stp hs rfl
    have o0 := o0.stp (rowM _) hs rfl
    refine EL_nil (thn_n (E_seq (E_region (EL_pur (v := fPtr m1 0) (P_fieldAddr at_62_0 rfl (PT.ptr qp467)) .plain rfl ?_))))
    have j7 := PT_field (part_FaultDamage_0).1 qp467
    refine EL_do .plain rfl (D_load (g := gp467) Try.isAgg60 Try.sizeOf60 rfl j7 fun j9 l7 => ?_)
    obtain rfl := RV_int.1 l7
    refine EL_nil (thn_n (E_block ?_))
    refine E_seq (E_region (EL_in (.bool (((u0).Kind == (1 : Int)))) rfl rfl rfl rfl ?_))
    refine EL_at (.bool (((u0).Kind == (1 : Int)))) rfl rfl ?_
    refine EL_nil (thn_n ?_)
    rcases csome h with ⟨d3, h⟩ | ⟨d3, h⟩
    ·refine E_ct d3 rfl ?_
     have m7 := PT_field (part_FaultDamage_1).1 qp467
     refine L_load (x := .tmp 29) Try.isAgg3 Try.sizeOf3 m7 fun k9 n7 d6 => ?_
     obtain rfl := RV_int.1 n7
     obtain ⟨i4, e6, h⟩ := bsome h
     obtain ⟨m4, hri474, hrn474, hxn474⟩ := Pool.idx o0 e6
     refine L_loadM (x := .tmp 31) (α := Fv) Try.isAgg110 Try.sizeOf110 (RO.toM j0) hri474 fun l9 o7 i6 => ?_
     obtain rfl := RV_fv.1 o7
     have p7 := PT_field (part_FaultDamage_2).1 qp467
     refine L_load (x := .tmp 33) Try.isAgg3 Try.sizeOf3 p7 fun m9 q7 j6 => ?_
     obtain rfl := RV_int.1 q7
     have r7 := PT_field (part_FaultDamage_1).1 qp467
     refine L_load (x := .tmp 36) Try.isAgg3 Try.sizeOf3 r7 fun n9 s7 k6 => ?_
     obtain rfl := RV_int.1 s7
     obtain ⟨x4, l6, h⟩ := bsome h
     obtain ⟨l5, hri481, hrn481, hxn481⟩ := Pool.idx o0 l6
     refine L_loadM (x := .tmp 38) (α := Fv) Try.isAgg110 Try.sizeOf110 (RO.toM j0) hri481 fun o9 t7 m6 => ?_
     obtain rfl := RV_fv.1 t7
     have u7 := PT_field (part_FaultDamage_2).1 qp467
     refine L_load (x := .tmp 40) Try.isAgg3 Try.sizeOf3 u7 fun p9 v7 n6 => ?_
     obtain rfl := RV_int.1 v7
     obtain ⟨m2, p4, h⟩ := bsome h
     refine L_loadM (x := .tmp 42) (α := Bool) Try.isAgg4 Try.sizeOf4 (o0.2.1 _ _ _ (by simp) hrn481 hxn481) p4 fun q9 x7 o6 => ?_
     obtain rfl := RV_bool.1 x7
     obtain ⟨c7, s4, h⟩ := bsome h
     refine E_drawL (g := gp467) (n := 18) [] [0, 1, 2, 3, 4, 5, 6, 7, 8, 9, 10, 11, 12, 13, 14, 15, 16, 17] rfl mixed (by kernel_rfl) trivial ?_
     refine L_pur (c := v4) rfl rfl .plain (fun _ _ hd => P_move i1) ?_
     refine L_pur (c := fPtr m1 1) rfl rfl .plain (fun _ _ hd => P_fieldAddr at_62_1 rfl (PT.ptr qp467)) ?_
     refine L_ld (c := .int .i64 ((u0).Pick)) rfl rfl .plain (fun _ _ h => h.ch) d6 rfl ?_
     refine L_pur (c := ePtr v4 (u0).Pick 1) rfl rfl .plain (fun _ _ hd => P_indexAddrM (α := Fv) Try.underlying108 Try.sizeOf110 rfl (RO.toM j0) rfl hri474) ?_
     refine L_ld (c := m4.v) rfl rfl .plain (fun _ _ h => ⟨h.ch, fun b hb _ => h.below.block b hb⟩) i6 rfl ?_
     refine L_pur (c := fPtr m1 2) rfl rfl .plain (fun _ _ hd => P_fieldAddr at_62_2 rfl (PT.ptr qp467)) ?_
     refine L_ld (c := .int .i64 ((u0).Hook)) rfl rfl .plain (fun _ _ h => h.ch) j6 rfl ?_
     refine L_pur (c := v4) rfl rfl .plain (fun _ _ hd => P_move i1) ?_
     refine L_pur (c := fPtr m1 1) rfl rfl .plain (fun _ _ hd => P_fieldAddr at_62_1 rfl (PT.ptr qp467)) ?_
     refine L_ld (c := .int .i64 ((u0).Pick)) rfl rfl .plain (fun _ _ h => h.ch) k6 rfl ?_
     refine L_pur (c := ePtr v4 (u0).Pick 1) rfl rfl .plain (fun _ _ hd => P_indexAddrM (α := Fv) Try.underlying108 Try.sizeOf110 rfl (RO.toM j0) rfl hri481) ?_
     refine L_ld (c := l5.v) rfl rfl .plain (fun _ _ h => ⟨h.ch, fun b hb _ => h.below.block b hb⟩) m6 rfl ?_
     refine L_pur (c := fPtr m1 2) rfl rfl .plain (fun _ _ hd => P_fieldAddr at_62_2 rfl (PT.ptr qp467)) ?_
     refine L_ld (c := .int .i64 ((u0).Hook)) rfl rfl .plain (fun _ _ h => h.ch) n6 rfl ?_
     refine L_pur (c := ePtr (l5.v) (u0).Hook 1) rfl rfl .plain (fun _ _ hd => P_indexAddrM (α := Bool) Try.underlying110 Try.sizeOf4 rfl (o0.2.1 _ _ _ (by simp) hrn481 hxn481) rfl p4) ?_
     refine L_ld (c := .bool (m2)) rfl rfl .plain (fun _ _ h => ⟨h.ch, fun b hb _ => h.below.block b hb⟩) o6 rfl ?_
     refine L_pur (c := .bool (!m2)) rfl rfl .plain (fun _ _ hd => P_not rfl) ?_
     refine L_pur (c := ePtr (m4.v) (u0).Hook 1) rfl rfl .plain (fun _ _ hd => P_indexAddrM (α := Bool) Try.underlying110 Try.sizeOf4 rfl (o0.2.1 _ _ _ (by simp) hrn474 hxn474) rfl s4) ?_
     refine L_nil fun r9 s9 hall => ?_
     have hs := hall.1
     have hfr := hfr.ext hs
     have n0 := n0.ext hs
     have j0 := j0.ext hs
     have o0 := o0.ext (rowM _) hs
     clear hs hall
     obtain ⟨ga519, _, hs, hw519, ck519⟩ := Pool.take (rowM _) o0 hrn474 hxn474 10319
     have hfr := hfr.stp hs
     have n0 := n0.stp hs
     have j0 := j0.stp hs rfl
     refine EL_do .plain rfl (D_storeM (g := ga519) (α := Bool) (a' := ((!m2))) Try.sizeOf4 rfl hw519 s4 rfl (RV_bool.2 rfl) fun t9 u9 hs b519 => ?_)
     have hfr := hfr.stp hs
     have n0 := n0.stp hs
     have j0 := j0.stp hs rfl
     have ck519 := ck519.stp (rowM _) hs rfl
     obtain ⟨gb519, _, hs, cp519⟩ := Pool.put (rowM _) ck519 m4 b519 rfl
     rw [set_same hrn474] at cp519
     have hfr := hfr.stp hs
     have n0 := n0.stp hs
     have j0 := j0.stp hs rfl
     refine EL_nil (blk_n (blk_n ?_))
     obtain rfl := sinj h
     exact hQ _ _ ⟨gb519, hfr, d2, n0, i1, ⟨_, j0, cp519⟩, i2⟩
    ·refine E_cf d3 rfl ?_
     refine E_seq (E_region (EL_in (.bool (((u0).Kind == (3 : Int)))) rfl rfl rfl rfl ?_))
     refine EL_at (.bool (((u0).Kind == (3 : Int)))) rfl rfl ?_
     refine EL_nil (thn_n ?_)
     rcases csome h with ⟨i3, h⟩ | ⟨i3, h⟩
     ·refine E_ct i3 rfl ?_
      obtain ⟨z4, p6, h⟩ := bsome h
      obtain ⟨m5, hri521, hrn521, hxn521⟩ := Pool.idx o0 p6
      obtain ⟨ga521, _, hs, hw521, ck521⟩ := Pool.take (rowM _) o0 hrn521 hxn521 9910
      have hfr := hfr.stp hs
      have n0 := n0.stp hs
      have j0 := j0.stp hs rfl
      have qp467 := qp467.stp hs
      obtain ⟨gp521, hs, rp521⟩ := OM.pub hw521
      have hfr := hfr.stp hs
      have n0 := n0.stp hs
      have j0 := j0.stp hs rfl
      have ck521 := ck521.stp (rowM _) hs rfl
      have qp467 := qp467.stp hs
      have y7 := PT_field (part_FaultDamage_1).1 qp467
      refine L_load (x := .tmp 49) Try.isAgg3 Try.sizeOf3 y7 fun v9 z7 q6 => ?_
      obtain rfl := RV_int.1 z7
      have a8 := PT_field (part_FaultDamage_1).1 qp467
      refine L_load (x := .tmp 52) Try.isAgg3 Try.sizeOf3 a8 fun x9 b8 r6 => ?_
      obtain rfl := RV_int.1 b8
      refine L_loadM (x := .tmp 54) (α := Fv) Try.isAgg110 Try.sizeOf110 (RO.toM j0) hri521 fun y9 c8 s6 => ?_
      obtain rfl := RV_fv.1 c8
      obtain ⟨p2, t6, h⟩ := bsome h
      refine E_drawL (g := gp521) (n := 10) [(8, (fun v g w => OM 9756 g w 4 p2 v))] [0, 1, 2, 3, 4, 5, 6, 7, 8, 9] rfl mixed (by kernel_rfl) (⟨fun _ => up_om, trivial⟩) ?_
      refine L_pur (c := v4) rfl rfl .plain (fun _ _ hd => P_move i1) ?_
      refine L_pur (c := fPtr m1 1) rfl rfl .plain (fun _ _ hd => P_fieldAddr at_62_1 rfl (PT.ptr qp467)) ?_
      refine L_ld (c := .int .i64 ((u0).Pick)) rfl rfl .plain (fun _ _ h => h.ch) q6 rfl ?_
      refine L_pur (c := v4) rfl rfl .plain (fun _ _ hd => P_move i1) ?_
      refine L_pur (c := fPtr m1 1) rfl rfl .plain (fun _ _ hd => P_fieldAddr at_62_1 rfl (PT.ptr qp467)) ?_
      refine L_ld (c := .int .i64 ((u0).Pick)) rfl rfl .plain (fun _ _ h => h.ch) r6 rfl ?_
      refine L_pur (c := ePtr v4 (u0).Pick 1) rfl rfl .plain (fun _ _ hd => P_indexAddrM (α := Fv) Try.underlying108 Try.sizeOf110 rfl (RO.toM j0) rfl hri521) ?_
      refine L_ld (c := m5.v) rfl rfl .plain (fun _ _ h => ⟨h.ch, fun b hb _ => h.below.block b hb⟩) s6 rfl ?_
      refine L_do (φ := fun v g w => OM 9756 g w 4 p2 v) rfl rfl .plain (fun g w hd => D_callG (g := g) (vs := [m5.v]) en86 (.cons rfl .nil) (v86_0 (iO := 9756) (rp521.ext hd.1) t6) fun g' w' v hs hr => ⟨g', hs, hr⟩) (fun n4 hv => ?_)
      obtain ⟨_, _, _, rq528⟩ := hv
      have one528 := K_one (rowM (α := Bool) 4) rq528
      refine L_pur (c := ePtr v4 (u0).Pick 1) rfl rfl .plain (fun _ _ hd => P_indexAddrM (α := Fv) Try.underlying108 Try.sizeOf110 rfl (RO.toM j0) rfl hri521) ?_
      refine L_nil fun z9 aA hall => ?_
      have hs := hall.1
      have hfr := hfr.ext hs
      have n0 := n0.ext hs
      have j0 := j0.ext hs
      have ck521 := ck521.ext (rowM _) hs
      have b554 := (word_all (A := fun g w => OM 9756 g w 4 p2 n4) 8 rfl hall)
      clear hs hall
      obtain ⟨gb556, _, hs, cp556⟩ := Pool.put (rowM _) ck521 ⟨n4, one528⟩ b554 rfl
      have hfr := hfr.stp hs
      have n0 := n0.stp hs
      have j0 := j0.stp hs rfl
      refine EL_do .plain rfl (D_storeRO (g := gb556) ⟨n4, one528⟩ Try.sizeOf110 rfl j0 hri521 rfl fun bA hs b556 => ?_)
      have hfr := hfr.stp hs
      have n0 := n0.stp hs
      have cp556 := cp556.stp (rowM _) hs rfl
      refine EL_nil (blk_n (blk_n ?_))
      obtain rfl := sinj h
      exact hQ _ _ ⟨gb556, hfr, d2, n0, i1, ⟨_, b556, cp556⟩, i2⟩
     ·refine E_cf i3 rfl ?_
      refine E_seq (E_region (EL_in (.bool (((u0).Kind == (4 : Int)))) rfl rfl rfl rfl ?_))
      refine EL_at (.bool (((u0).Kind == (4 : Int)))) rfl rfl ?_
      refine EL_nil (thn_n ?_)
      rcases csome h with ⟨j3, h⟩ | ⟨j3, h⟩
      ·refine E_ct j3 rfl ?_
       refine E_seq (E_region (EL_pur (v := fPtr m1 1) (P_fieldAddr at_62_1 rfl (PT.ptr qp467)) .plain rfl ?_))
       have d8 := PT_field (part_FaultDamage_1).1 qp467
       refine EL_do .plain rfl (D_load (g := gp467) Try.isAgg3 Try.sizeOf3 rfl d8 fun cA e8 => ?_)
       obtain rfl := RV_int.1 e8
       refine EL_in (.int .i64 ((w64 ((u0).Pick + (1 : Int))))) rfl rfl rfl rfl ?_
       refine EL_mv i1 rfl ?_
       refine EL_pur (v := .int .i64 ((y0).length : Int)) (P_lenN Try.underlying108 rfl j0 o0) .plain rfl ?_
       obtain ⟨z1, u6, h⟩ := bsome h
       refine EL_pur (v := .int .i64 (z1)) (P_int rfl rfl (congrArg (Option.map (Value.int .i64)) u6)) .plain rfl ?_
       refine EL_at (.int .i64 (z1)) rfl rfl ?_
       refine EL_nil (thn_n (E_seq ?_))
       have g8 := PT_field (part_FaultDamage_1).1 qp467
       refine L_load (x := .tmp 67) Try.isAgg3 Try.sizeOf3 g8 fun dA i8 v6 => ?_
       obtain rfl := RV_int.1 i8
       obtain ⟨c5, x6, h⟩ := bsome h
       obtain ⟨m3, hri564, hrn564, hxn564⟩ := Pool.idx o0 x6
       refine L_loadM (x := .tmp 69) (α := Fv) Try.isAgg110 Try.sizeOf110 (RO.toM j0) hri564 fun eA j8 y6 => ?_
       obtain rfl := RV_fv.1 j8
       obtain ⟨d5, z6, h⟩ := bsome h
       obtain ⟨o3, hri567, hrn567, hxn567⟩ := Pool.idx o0 z6
       refine L_loadM (x := .tmp 73) (α := Fv) Try.isAgg110 Try.sizeOf110 (RO.toM j0) hri567 fun gA k8 a7 => ?_
       obtain rfl := RV_fv.1 k8
       refine E_drawL (g := gp467) (n := 11) [] [0, 1, 2, 3, 4, 5, 6, 7, 8, 9, 10] rfl mixed (by kernel_rfl) trivial ?_
       refine L_pur (c := v4) rfl rfl .plain (fun _ _ hd => P_move i1) ?_
       refine L_pur (c := fPtr m1 1) rfl rfl .plain (fun _ _ hd => P_fieldAddr at_62_1 rfl (PT.ptr qp467)) ?_
       refine L_ld (c := .int .i64 ((u0).Pick)) rfl rfl .plain (fun _ _ h => h.ch) v6 rfl ?_
       refine L_pur (c := ePtr v4 (u0).Pick 1) rfl rfl .plain (fun _ _ hd => P_indexAddrM (α := Fv) Try.underlying108 Try.sizeOf110 rfl (RO.toM j0) rfl hri564) ?_
       refine L_ld (c := m3.v) rfl rfl .plain (fun _ _ h => ⟨h.ch, fun b hb _ => h.below.block b hb⟩) y6 rfl ?_
       refine L_pur (c := v4) rfl rfl .plain (fun _ _ hd => P_move i1) ?_
       refine L_pur (c := .int .i64 (z1)) rfl rfl .plain (fun _ _ hd => P_move rfl) ?_
       refine L_pur (c := ePtr v4 z1 1) rfl rfl .plain (fun _ _ hd => P_indexAddrM (α := Fv) Try.underlying108 Try.sizeOf110 rfl (RO.toM j0) rfl hri567) ?_
       refine L_ld (c := o3.v) rfl rfl .plain (fun _ _ h => ⟨h.ch, fun b hb _ => h.below.block b hb⟩) a7 rfl ?_
       refine L_pur (c := m3.v) rfl rfl .plain (fun _ _ hd => P_assign rfl) ?_
       refine L_pur (c := o3.v) rfl rfl .plain (fun _ _ hd => P_assign rfl) ?_
       refine L_nil fun p3 iA hall => ?_
       have hs := hall.1
       have hfr := hfr.ext hs
       have n0 := n0.ext hs
       have j0 := j0.ext hs
       have o0 := o0.ext (rowM _) hs
       have qp467 := qp467.ext hs
       clear hs hall
       refine EL_nil (thn_n (E_seq (E_region (EL_mv i1 rfl ?_))))
       refine EL_pur (v := fPtr m1 1) (P_fieldAddr at_62_1 rfl (PT.ptr qp467)) .plain rfl ?_
       have l8 := PT_field (part_FaultDamage_1).1 qp467
       refine EL_do .plain rfl (D_load (g := p3) Try.isAgg3 Try.sizeOf3 rfl l8 fun jA m8 => ?_)
       obtain rfl := RV_int.1 m8
       refine EL_mw (o3.v) rfl rfl ?_
       obtain ⟨d7, b7, h⟩ := bsome h
       obtain ⟨kA, hri607, hrn607, hxn607⟩ := Pool.idx o0 b7
       refine EL_pur (v := ePtr v4 (u0).Pick 1) (P_indexAddrM (α := Fv) Try.underlying108 Try.sizeOf110 rfl (RO.toM j0) rfl hri607) .plain rfl ?_
       refine EL_do .plain rfl (D_storeRO (g := p3) o3 Try.sizeOf110 rfl j0 hri607 rfl fun lA hs b608 => ?_)
       have hfr := hfr.stp hs
       have n0 := n0.stp hs
       have o0 := o0.stp (rowM _) hs rfl
       refine EL_nil (thn_n (E_region (EL_mv i1 rfl ?_)))
       refine EL_mw (.int .i64 (z1)) rfl rfl ?_
       refine EL_mw (m3.v) rfl rfl ?_
       obtain ⟨mA, hri609⟩ := idx_set hri567
       refine EL_pur (v := ePtr v4 z1 1) (P_indexAddrM (α := Fv) Try.underlying108 Try.sizeOf110 rfl (RO.toM b608) rfl hri609) .plain rfl ?_
       refine EL_do .plain rfl (D_storeRO (g := p3) m3 Try.sizeOf110 rfl b608 hri609 rfl fun nA hs b610 => ?_)
       have hfr := hfr.stp hs
       have n0 := n0.stp hs
       have o0 := o0.stp (rowM _) hs rfl
       have cp610 := Pool.swap o0 hrn564 hrn567 hxn564 hxn567
       refine EL_nil (blk_n (blk_n ?_))
       obtain rfl := sinj h
       exact hQ _ _ ⟨p3, hfr, d2, n0, i1, ⟨_, b610, cp610⟩, i2⟩
      ·refine E_cf j3 rfl ?_
       refine E_skip (blk_n (blk_n ?_))
       obtain rfl := sinj h
       exact hQ _ _ ⟨gp467, hfr, d2, n0, i1, ⟨_, j0, o0⟩, i2⟩
   ·clear hx
    obtain ⟨n8, hfr, n5, o5, p5, ⟨r8, q5, t5⟩, u5⟩ := hR
    refine E_region (EL_mv u5 rfl ?_)
    refine EL_in (.int .i64 ((w64 (j1 + (1 : Int))))) rfl rfl rfl rfl ?_
    refine EL_at (.int .i64 ((w64 (j1 + (1 : Int))))) rfl rfl ?_
    exact EL_nil (thn_n (b6 (j2, (w64 (j1 + (1 : Int)))) _ _ ⟨n8, hfr, n5, o5, p5, ⟨_, q5, t5⟩, rfl⟩ h))
 ·clear hx
  obtain ⟨oA, hfr, x5, ⟨t8, z5, a6⟩⟩ := hR
  refine E_seq (E_region (EL_mv x5 rfl ?_))
  refine EL_at v4 rfl rfl ?_
  refine EL_nil (thn_n (E_ret ?_))
  obtain ⟨gq613, gp613, hs, hs2, rp613⟩ := NS.pubM (et2 := 4) ⟨_, z5, a6⟩ rfl
  have hfr := hfr.stp hs
  have hfr := hfr.stp hs2
  obtain rfl := sinj h
  exact end1 rfl rfl (show _ = v4 from rfl) ⟨_, hfr, rp613⟩
/-- slices.SortStableFunc[[]griffe/api.FaultDamage,griffe/api.FaultDamage] -/
def f78 (x0 : List FaultDamage) (x1 : FaultDamage → FaultDamage → Option Int) : Option ((List FaultDamage)) :=
 (f96 x0 (((x0).length : Int)) x1).bind fun y2 =>
 some (y2)
theorem en78 : Enters Try.prog 78 := enters_of Try.func78 (by kernel_rfl) rfl
theorem wk78 {iI : Nat} {gI : Gh} {wI : World} {x0 : List FaultDamage} {x1 : FaultDamage → FaultDamage → Option Int} {up0 : Value} (mp0 : OM iI gI wI 62 x0 up0) {up1 : Value} (rp1 : FnV2 Try.prog x1 up1 gI wI) {r : (List FaultDamage)} (h : f78 x0 x1 = some r) : FnM Try.prog 78 #[up0, up1] iI gI wI (fun g w v => v = .tuple #[] ∧ OM iI g w 62 r up0) := by
 unfold f78 at h
 refine fnM_of_E Try.func78 rfl (Nat.le_of_ble_eq_true rfl) fun g0 hm hfr => ?_
 have j0 := mp0
 replace mp0 := mp0.enter
 rw [← hm] at mp0
 replace hm : g0.m = gI.m := by rw [hm]
 obtain ⟨ff1, fa1, fc1, rfl, fen1, fcl1⟩ := rp1
 show E _ 9 none _ _ _ _ _
 refine E_region (EL_mw up0 rfl rfl ?_)
 refine EL_mw up0 rfl rfl ?_
 refine EL_pur (v := .int .i64 ((x0).length : Int)) (P_lenM Try.underlying29 rfl mp0) .plain rfl ?_
 refine EL_mw ((.func (.func ff1) fa1 fc1)) rfl rfl ?_
 obtain ⟨y2, n0, h⟩ := bsome h
 refine EL_do .plain rfl (D_callM (g := g0) (i := 1) (vs := [up0, .int .i64 ((x0).length : Int), (.func (.func ff1) fa1 fc1)]) en96 (.cons rfl (.cons rfl (.cons rfl .nil))) (wk96 mp0 (FnV2.ch ⟨_, _, _, rfl, fen1, fcl1⟩ hfr.ch) n0) fun g1 w1_ v1 hs hr => ?_)
 obtain ⟨hrv, b1⟩ := hr
 subst hrv
 have hfr := hfr.stp hs
 refine EL_nil ?_
 obtain rfl := sinj h
 exact end0n rfl rfl ⟨_, hfr, rfl, j0.back b1⟩
/-- griffe/fault.Check -/
def f18 (x0 : FaultLoom) (x1 : List FaultDamage) : Option (Int) :=
 jn (σ := Unit) (fun (_ : Unit) =>
  jn (σ := Unit) (fun (_ : Unit) =>
   some ((0 : Int))
   ) fun z1 =>
  bif (decide (((x1).length : Int) > (100 : Int))) then
   some ((5 : Int))
  else
   (f53 x1 ((fun a0 => f51 a0 x0))).bind fun i1 =>
   bif i1 then
    some ((2 : Int))
   else
    z1 ()
  ) fun k6 =>
 (f50 x0).bind fun y9 =>
 bif (y9 != (0 : Int)) then
  some (y9)
 else
  k6 ()
theorem en18 : Enters Try.prog 18 := enters_of Try.func18 (by kernel_rfl) rfl
theorem wk18 {gI : Gh} {wI : World} {x0 : FaultLoom} {x1 : List FaultDamage} {up0 : Value} (rp0 : RV gI.m wI x0 up0) {up1 : Value} (rp1 : RV gI.m wI x1 up1) {r : Int} (h : f18 x0 x1 = some r) : Fn Try.prog 18 #[up0, up1] gI wI (fun _ _ v => v = .int .i64 (r)) := by
 unfold f18 at h
 refine fn_of_E Try.func18 rfl (Nat.le_of_ble_eq_true rfl) fun g0 hm hfr => ?_
 have rp0 : RV g0.m wI x0 up0 := hm ▸ rp0
 have rp1 : RV g0.m wI x1 up1 := hm ▸ rp1
 show E _ 21 none _ _ _ _ _
 refine E_seq (E_region (EL_do .plain rfl (D_box (g := g0) rfl rp0 fun g1 w1 p1 hs q1 => ?_)))
 have hfr := hfr.ext hs
 have rp1 := rp1.ext hs
 refine EL_at (.int .i64 (0)) rfl rfl ?_
 refine EL_nil (thn_n (E_joinC h (fun (s : Unit) e w => ∃ (g : Gh) , Fr gI wI g w ∧ e 1 = up1 ∧ RV g.m w (x1 : List FaultDamage) up1 ∧ e 2 = p1 ∧ PT g.m w (x0 : FaultLoom) p1) (fun X6 k6 hk6 h => ?_) ?_))
 ·refine E_seq (E_region (EL_do .plain rfl (D_load (g := g1) Try.isAgg28 Try.sizeOf28 rfl q1 fun v7 r7 => ?_)))
  obtain ⟨y9, j2, h⟩ := bsome h
  refine EL_do .plain rfl (D_call (g := g1) (vs := [v7]) en50 (.cons rfl .nil) (wk50 r7 j2) fun g8 w8_ v8 hs hr => ?_)
  have hfr := hfr.ext hs
  have rp1 := rp1.ext hs
  have q1 := q1.ext hs
  subst hr
  refine EL_at (.int .i64 (y9)) rfl rfl ?_
  refine EL_nil (thn_n (E_seq (E_region (EL_mw (.int .i64 (y9)) rfl rfl ?_))))
  refine EL_in (.bool ((y9 != (0 : Int)))) rfl rfl rfl rfl ?_
  refine EL_nil (thn_n ?_)
  rcases csome h with ⟨j0, h⟩ | ⟨j0, h⟩
  ·refine E_ct j0 rfl ?_
   refine E_seq (E_region (EL_mw (.int .i64 (y9)) rfl rfl ?_))
   refine EL_at (.int .i64 (y9)) rfl rfl ?_
   refine EL_nil (thn_n (E_ret (thn_r ?_)))
   obtain rfl := sinj h
   exact end1 rfl rfl (show _ = .int .i64 (y9) from rfl) ⟨_, hfr, rfl⟩
  ·refine E_cf j0 rfl ?_
   exact E_skip (thn_n (hk6 () _ _ ⟨g8, hfr, rfl, rp1, rfl, q1⟩ h))
 ·rintro _ q2 d3 ⟨m2, hfr, u0, y0, j1, m1⟩ h
  refine E_seq (E_region (EL_pur (v := (.func (.func 51) #[] #[p1])) (P_makeFunc (capf_0_1 (show ev _ _ = p1 from j1))) .plain rfl ?_))
  refine EL_at ((.func (.func 51) #[] #[p1])) rfl rfl ?_
  refine EL_nil (thn_n (E_joinC h (fun (s : Unit) e w => ∃ (g : Gh) , Fr gI wI g w) (fun X16 z1 d2 h => ?_) ?_))
  ·refine E_block ?_
   refine E_seq (E_region (EL_mv u0 rfl ?_))
   refine EL_pur (v := .int .i64 ((x1).length : Int)) (P_len Try.underlying29 rfl y0) .plain rfl ?_
   refine EL_in (.bool ((decide (((x1).length : Int) > (100 : Int))))) rfl rfl rfl rfl ?_
   refine EL_at (.bool ((decide (((x1).length : Int) > (100 : Int))))) rfl rfl ?_
   refine EL_nil (thn_n ?_)
   rcases csome h with ⟨n0, h⟩ | ⟨n0, h⟩
   ·refine E_ct n0 rfl ?_
    refine E_seq (E_region (EL_at (.int .i64 (5)) rfl rfl ?_))
    refine EL_nil (thn_n (E_ret (blk_r ?_)))
    refine thn_r ?_
    obtain rfl := sinj h
    exact end1 rfl rfl (show _ = .int .i64 (5) from rfl) ⟨_, hfr, rfl⟩
   ·refine E_cf n0 rfl ?_
    refine E_seq (E_region (EL_mv u0 rfl ?_))
    refine EL_mw ((.func (.func 51) #[] #[p1])) rfl rfl ?_
    obtain ⟨i1, i2, h⟩ := bsome h
    refine EL_do .plain rfl (D_call (g := m2) (vs := [up1, (.func (.func 51) #[] #[p1])]) en53 (.cons rfl (.cons rfl .nil)) (wk53 y0 ⟨51, #[], #[p1], rfl, en51, fun g' w' hch a0 b0 r hu0 hr => by exact Fn.mono (wk51 hu0 (m1.ch hch) hr) fun _ _ _ h => RV_bool.2 h⟩ i2) fun p2 s2 i3 hs hr => ?_)
    have hfr := hfr.ext hs
    subst hr
    refine EL_at (.bool (i1)) rfl rfl ?_
    refine EL_nil (thn_n ?_)
    rcases csome h with ⟨o0, h⟩ | ⟨o0, h⟩
    ·refine E_ct o0 rfl ?_
     refine E_seq (E_region (EL_at (.int .i64 (2)) rfl rfl ?_))
     refine EL_nil (thn_n (E_ret (blk_r ?_)))
     refine thn_r ?_
     obtain rfl := sinj h
     exact end1 rfl rfl (show _ = .int .i64 (2) from rfl) ⟨_, hfr, rfl⟩
    ·refine E_cf o0 rfl ?_
     exact E_skip (blk_n (thn_n (d2 () _ _ ⟨p2, hfr⟩ h)))
  ·rintro _ z2 j3 ⟨m3, hfr⟩ h
   refine E_seq (E_region (EL_at (.int .i64 (0)) rfl rfl ?_))
   refine EL_nil (thn_n (E_ret ?_))
   obtain rfl := sinj h
   exact end1 rfl rfl (show _ = .int .i64 (0) from rfl) ⟨_, hfr, rfl⟩
/-- griffe/grifferef05.Round -/
def f26 (x0 : FaultLoom) (x1 : List FaultDamage) : Option ((List Str)) :=
 (f60 x0 x1).bind fun y4 =>
 Option.bind (α := (List Str)) (
  lp (σ := (List Str) × Int) (fun aC (n0, o0) =>
   jn (σ := Unit) (fun (_ : Unit) =>
    Option.bind (α := (List Str)) (
     Option.bind (α := Str) (
      lp (σ := Str × Int) (fun bC (j1, u0) =>
       jn (σ := Unit) (fun (_ : Unit) =>
        Option.bind (α := Str) (
         (idx (((x0).Harness).Warps) u0).bind fun d2 =>
         (idx y4 o0).bind fun cC =>
         (idx cC d2).bind fun aB =>
         Option.bind (α := Bool) (
          lp (σ := Bool × Int) (fun dC (m2, y0) =>
           jn (σ := Unit) (fun (_ : Unit) =>
            Option.bind (α := Bool) (
             Option.bind (α := Bool) (
              (idx x1 y0).bind fun u3 =>
              bif ((u3).Kind == (2 : Int)) then
               (idx x1 y0).bind fun p5 =>
               some (((p5).Hook == d2))
              else
               some (false)
              ) fun p2 =>
             bif p2 then
              (idx x1 y0).bind fun bB =>
              some ((bB).Up)
             else
              some (m2)
             ) fun o3 =>
            dC (o3, (w64 (y0 + (1 : Int))))
            ) fun eC =>
           bif (decide (y0 < ((x1).length : Int))) then
            eC ()
           else
            some (m2)
           ) big (aB, (0 : Int))
          ) fun n4 =>
         Option.bind (α := Bool) (
          lp (σ := Bool × Int) (fun iC (q2, i1) =>
           jn (σ := Unit) (fun (_ : Unit) =>
            Option.bind (α := Bool) (
             Option.bind (α := Bool) (
              (idx x1 i1).bind fun z3 =>
              bif ((z3).Kind == (5 : Int)) then
               (idx x1 i1).bind fun q5 =>
               some (((q5).Warp == u0))
              else
               some (false)
              ) fun s2 =>
             bif s2 then
              some (false)
             else
              some (q2)
             ) fun p3 =>
            iC (p3, (w64 (i1 + (1 : Int))))
            ) fun jC =>
           bif (decide (i1 < ((x1).length : Int))) then
            jC ()
           else
            some (q2)
           ) big (n4, (0 : Int))
          ) fun o4 =>
         bif o4 then
          (sadd j1 (⟨[120]⟩ : Str)).bind fun t5 =>
          some (t5)
         else
          (sadd j1 (⟨[46]⟩ : Str)).bind fun u5 =>
          some (u5)
         ) fun c4 =>
        bC (c4, (w64 (u0 + (1 : Int))))
        ) fun kC =>
       bif (decide (u0 < ((((x0).Harness).Warps).length : Int))) then
        kC ()
       else
        some (j1)
       ) big ((⟨[]⟩ : Str), (0 : Int))
      ) fun z2 =>
     (apnd 16 n0 (([z2] : List Str))).bind fun lC =>
     some (lC)
     ) fun d3 =>
    aC (d3, (w64 (o0 + (1 : Int))))
    ) fun mC =>
   bif (decide (o0 < ((y4).length : Int))) then
    mC ()
   else
    some (n0)
   ) big (([] : List Str), (0 : Int))
  ) fun d4 =>
 some (d4)
theorem en26 : Enters Try.prog 26 := enters_of Try.func26 (by kernel_rfl) rfl
theorem wk26 {gI : Gh} {wI : World} {x0 : FaultLoom} {x1 : List FaultDamage} {up0 : Value} (rp0 : RV gI.m wI x0 up0) {up1 : Value} (rp1 : RV gI.m wI x1 up1) {r : (List Str)} (h : f26 x0 x1 = some r) : Fn Try.prog 26 #[up0, up1] gI wI (fun m w v => RV m w (r) v) := by
 unfold f26 at h
 refine fn_of_E Try.func26 rfl (Nat.le_of_ble_eq_true rfl) fun g0 hm hfr => ?_
 have rp0 : RV g0.m wI x0 up0 := hm ▸ rp0
 have rp1 : RV g0.m wI x1 up1 := hm ▸ rp1
 show E _ 102 none _ _ _ _ _
 refine E_seq (E_region (EL_do .plain rfl (D_box (g := g0) rfl rp0 fun g1 w1 p1 hs q1 => ?_)))
 have hfr := hfr.ext hs
 have rp1 := rp1.ext hs
 refine EL_at (.slice none 0 0) rfl rfl ?_
 refine EL_nil (thn_n (E_seq (E_region (EL_do .plain rfl (D_load (g := g1) Try.isAgg28 Try.sizeOf28 rfl q1 fun v2 r2 => ?_)))))
 refine EL_mw up1 rfl rfl ?_
 obtain ⟨y4, yI, h⟩ := bsome h
 refine EL_do .plain rfl (D_call (g := g1) (vs := [v2, up1]) en60 (.cons rfl (.cons rfl .nil)) (wk60 r2 rp1 yI) fun g3 w3_ v3 hs hr => ?_)
 have hfr := hfr.ext hs
 have rp1 := rp1.ext hs
 have q1 := q1.ext hs
 have r3 := hr
 refine EL_do .plain rfl (D_buildSlice (g := g3) 3017 (xs := ([] : List Str)) (vs := []) Try.underlying36 Try.sizeOf9 Try.zeroValue9 rfl rfl .nil RVs.nil rfl rfl fun g5 w5 v5 hs o5 r5 hxt hfl => ?_)
 have hfr := hfr.stp hs
 have rp1 := rp1.stp hs
 have q1 := q1.stp hs
 have r3 := r3.stp hs
 refine EL_at v3 rfl rfl ?_
 refine EL_at v5 rfl rfl ?_
 refine EL_nil (thn_n ?_)
 obtain ⟨d4, hx, h⟩ := bsome h
 refine E_join (fun e w => ∃ (g : Gh) (v6 : Value), Fr gI wI g w ∧ e 6 = v6 ∧ RV g.m w (d4 : List Str) v6 ∧ OS 3017 g w 9 (d4 : List Str) v6) (fun Q' hQ => ?_) (fun zI tJ hR => ?_)
 ·replace h := hx
  clear hx
  refine E_seq (E_region (EL_at (.int .i64 (0)) rfl rfl ?_))
  refine EL_nil (thn_n (E_block ?_))
  refine E_lp h (fun (s : (List Str) × Int) e w => ∃ (g : Gh) (v6 : Value), Fr gI wI g w ∧ e 1 = up1 ∧ RV g.m w (x1 : List FaultDamage) up1 ∧ e 2 = p1 ∧ PT g.m w (x0 : FaultLoom) p1 ∧ e 5 = v3 ∧ RV g.m w (y4 : List (List Bool)) v3 ∧ e 6 = v6 ∧ RV g.m w (s.1 : List Str) v6 ∧ OS 3017 g w 9 (s.1 : List Str) v6 ∧ e 7 = .int .i64 (s.2)) ⟨g5, (v5), hfr, rfl, rp1, rfl, q1, rfl, r3, rfl, r5, o5, rfl⟩ (fun X1841 aC xG => ?_)
  rintro ⟨n0, o0⟩ aJ uJ ⟨nC, j0, hfr, dD, eD, gD, iD, t6, u6, x6, y6, z6, a7⟩ h
  refine E_joinC h (fun (s : Unit) e w => ∃ (g : Gh) , Fr gI wI g w ∧ e 1 = up1 ∧ RV g.m w (x1 : List FaultDamage) up1 ∧ e 2 = p1 ∧ PT g.m w (x0 : FaultLoom) p1 ∧ e 5 = v3 ∧ RV g.m w (y4 : List (List Bool)) v3 ∧ e 6 = j0 ∧ RV g.m w (n0 : List Str) j0 ∧ OS 3017 g w 9 (n0 : List Str) j0 ∧ e 7 = .int .i64 (o0)) (fun X1844 mC yG h => ?_) ?_
  ·refine E_seq (E_region (EL_mv a7 rfl ?_))
   refine EL_mv t6 rfl ?_
   refine EL_pur (v := .int .i64 ((y4).length : Int)) (P_len Try.underlying108 rfl u6) .plain rfl ?_
   refine EL_in (.bool ((decide (o0 < ((y4).length : Int))))) rfl rfl rfl rfl ?_
   refine EL_nil (thn_n ?_)
   rcases csome h with ⟨z5, h⟩ | ⟨z5, h⟩
   ·refine E_ct z5 rfl ?_
    exact E_skip (thn_n (yG () _ _ ⟨nC, hfr, dD, eD, gD, iD, t6, u6, x6, y6, z6, a7⟩ h))
   ·refine E_cf z5 rfl ?_
    refine E_exit ?_
    refine thn_e ?_
    refine thn_e ?_
    refine blk_hit ?_
    obtain rfl := sinj h
    exact hQ _ _ ⟨nC, (j0), hfr, x6, y6, z6⟩
  ·rintro _ bJ vJ ⟨lH, hfr, jD, kD, lD, mD, nD, oD, pD, qD, rD, sD⟩ h
   obtain ⟨d3, hx, h⟩ := bsome h
   refine E_join (fun e w => ∃ (g : Gh) (v6 : Value), Fr gI wI g w ∧ e 1 = up1 ∧ RV g.m w (x1 : List FaultDamage) up1 ∧ e 2 = p1 ∧ PT g.m w (x0 : FaultLoom) p1 ∧ e 5 = v3 ∧ RV g.m w (y4 : List (List Bool)) v3 ∧ e 6 = v6 ∧ RV g.m w (d3 : List Str) v6 ∧ OS 3017 g w 9 (d3 : List Str) v6 ∧ e 7 = .int .i64 (o0)) (fun Q' hQ => ?_) (fun cJ xJ hR => ?_)
   ·replace h := hx
    clear hx
    refine E_block ?_
    refine E_seq (E_region (EL_at (Str.v (⟨[]⟩ : Str)) rfl rfl ?_))
    refine EL_nil (thn_n ?_)
    obtain ⟨z2, hx, h⟩ := bsome h
    refine E_join (fun e w => ∃ (g : Gh) , Fr gI wI g w ∧ e 1 = up1 ∧ RV g.m w (x1 : List FaultDamage) up1 ∧ e 2 = p1 ∧ PT g.m w (x0 : FaultLoom) p1 ∧ e 5 = v3 ∧ RV g.m w (y4 : List (List Bool)) v3 ∧ e 6 = j0 ∧ RV g.m w (n0 : List Str) j0 ∧ OS 3017 g w 9 (n0 : List Str) j0 ∧ e 7 = .int .i64 (o0) ∧ e 8 = Str.v (z2)) (fun Q' hQ => ?_) (fun dJ mH hR => ?_)
    ·replace h := hx
     clear hx
     refine E_seq (E_region (EL_at (.int .i64 (0)) rfl rfl ?_))
     refine EL_nil (thn_n (E_block ?_))
     refine E_lp h (fun (s : Str × Int) e w => ∃ (g : Gh) , Fr gI wI g w ∧ e 1 = up1 ∧ RV g.m w (x1 : List FaultDamage) up1 ∧ e 2 = p1 ∧ PT g.m w (x0 : FaultLoom) p1 ∧ e 5 = v3 ∧ RV g.m w (y4 : List (List Bool)) v3 ∧ e 6 = j0 ∧ RV g.m w (n0 : List Str) j0 ∧ OS 3017 g w 9 (n0 : List Str) j0 ∧ e 7 = .int .i64 (o0) ∧ e 8 = Str.v (s.1) ∧ e 9 = .int .i64 (s.2)) ⟨lH, hfr, jD, kD, lD, mD, nD, oD, pD, qD, rD, sD, rfl, rfl⟩ (fun X3216 bC zG => ?_)
     rintro ⟨j1, u0⟩ eJ yJ ⟨cB, hfr, b7, c7, u4, e4, d7, e7, g7, i7, j7, l7, m7, n7⟩ h
     refine E_joinC h (fun (s : Unit) e w => ∃ (g : Gh) , Fr gI wI g w ∧ e 1 = up1 ∧ RV g.m w (x1 : List FaultDamage) up1 ∧ e 2 = p1 ∧ PT g.m w (x0 : FaultLoom) p1 ∧ e 5 = v3 ∧ RV g.m w (y4 : List (List Bool)) v3 ∧ e 6 = j0 ∧ RV g.m w (n0 : List Str) j0 ∧ OS 3017 g w 9 (n0 : List Str) j0 ∧ e 7 = .int .i64 (o0) ∧ e 8 = Str.v (j1) ∧ e 9 = .int .i64 (u0)) (fun X3222 kC aH h => ?_) ?_
     ·refine E_seq (E_region (EL_mv n7 rfl ?_))
      refine EL_pur (v := fPtr p1 0) (P_fieldAddr at_28_0 u4 (PT.ptr e4)) .plain rfl ?_
      have oC := PT_field (part_FaultLoom_0).1 e4
      refine EL_pur (v := fPtr (fPtr p1 0) 1) (P_fieldAddr at_24_1 rfl (PT.ptr oC)) .plain rfl ?_
      have nH := PT_field (part_TieHarness_1).1 oC
      refine EL_do .plain rfl (D_load (g := cB) Try.isAgg22 Try.sizeOf22 rfl nH fun zJ oH => ?_)
      refine EL_pur (v := .int .i64 ((((x0).Harness).Warps).length : Int)) (P_len Try.underlying22 rfl oH) .plain rfl ?_
      refine EL_pur (v := .bool ((decide (u0 < ((((x0).Harness).Warps).length : Int))))) (P_int rfl rfl rfl) .plain rfl ?_
      refine EL_nil (thn_n ?_)
      rcases csome h with ⟨a6, h⟩ | ⟨a6, h⟩
      ·refine E_ct a6 rfl ?_
       exact E_skip (thn_n (aH () _ _ ⟨cB, hfr, b7, c7, u4, e4, d7, e7, g7, i7, j7, l7, m7, n7⟩ h))
      ·refine E_cf a6 rfl ?_
       refine E_exit ?_
       refine thn_e ?_
       refine thn_e ?_
       refine blk_hit ?_
       obtain rfl := sinj h
       exact hQ _ _ ⟨cB, hfr, b7, c7, u4, e4, d7, e7, g7, i7, j7, l7, m7⟩
     ·rintro _ gJ aK ⟨s4, hfr, tD, uD, o7, x4, p7, z4, vD, xD, yD, q7, zD, r7⟩ h
      obtain ⟨c4, hx, h⟩ := bsome h
      refine E_join (fun e w => ∃ (g : Gh) , Fr gI wI g w ∧ e 1 = up1 ∧ RV g.m w (x1 : List FaultDamage) up1 ∧ e 2 = p1 ∧ PT g.m w (x0 : FaultLoom) p1 ∧ e 5 = v3 ∧ RV g.m w (y4 : List (List Bool)) v3 ∧ e 6 = j0 ∧ RV g.m w (n0 : List Str) j0 ∧ OS 3017 g w 9 (n0 : List Str) j0 ∧ e 7 = .int .i64 (o0) ∧ e 8 = Str.v (c4) ∧ e 9 = .int .i64 (u0)) (fun Q' hQ => ?_) (fun iJ bK hR => ?_)
      ·replace h := hx
       clear hx
       refine E_block ?_
       refine E_seq (E_region (EL_pur (v := fPtr p1 0) (P_fieldAddr at_28_0 o7 (PT.ptr x4)) .plain rfl ?_))
       have pC := PT_field (part_FaultLoom_0).1 x4
       refine EL_pur (v := fPtr (fPtr p1 0) 1) (P_fieldAddr at_24_1 rfl (PT.ptr pC)) .plain rfl ?_
       have pH := PT_field (part_TieHarness_1).1 pC
       refine EL_do .plain rfl (D_load (g := s4) Try.isAgg22 Try.sizeOf22 rfl pH fun qH qC => ?_)
       refine EL_mv r7 rfl ?_
       obtain ⟨d2, eB, h⟩ := bsome h
       refine EL_pur (v := ePtr qH u0 1) (P_indexAddr (α := Int) Try.underlying22 Try.sizeOf3 rfl qC rfl eB) .plain rfl ?_
       have sH := PT_idx qC eB
       refine EL_do .plain rfl (D_load (g := s4) Try.isAgg3 Try.sizeOf3 rfl sH fun cK tH => ?_)
       obtain rfl := RV_int.1 tH
       refine EL_at (.int .i64 (d2)) rfl rfl ?_
       refine EL_nil (thn_n (E_seq (E_region (EL_mv p7 rfl ?_))))
       refine EL_mv q7 rfl ?_
       obtain ⟨cC, iB, h⟩ := bsome h
       refine EL_pur (v := ePtr v3 o0 1) (P_indexAddr (α := List Bool) Try.underlying108 Try.sizeOf110 rfl z4 rfl iB) .plain rfl ?_
       have uH := PT_idx z4 iB
       refine EL_do .plain rfl (D_load (g := s4) Try.isAgg110 Try.sizeOf110 rfl uH fun vH rC => ?_)
       refine EL_mw (.int .i64 (d2)) rfl rfl ?_
       obtain ⟨aB, jB, h⟩ := bsome h
       refine EL_pur (v := ePtr vH d2 1) (P_indexAddr (α := Bool) Try.underlying110 Try.sizeOf4 rfl rC rfl jB) .plain rfl ?_
       have xH := PT_idx rC jB
       refine EL_do .plain rfl (D_load (g := s4) Try.isAgg4 Try.sizeOf4 rfl xH fun dK yH => ?_)
       obtain rfl := RV_bool.1 yH
       refine EL_at (.bool (aB)) rfl rfl ?_
       refine EL_nil (thn_n ?_)
       obtain ⟨n4, hx, h⟩ := bsome h
       refine E_join (fun e w => ∃ (g : Gh) , Fr gI wI g w ∧ e 1 = up1 ∧ RV g.m w (x1 : List FaultDamage) up1 ∧ e 2 = p1 ∧ PT g.m w (x0 : FaultLoom) p1 ∧ e 5 = v3 ∧ RV g.m w (y4 : List (List Bool)) v3 ∧ e 6 = j0 ∧ RV g.m w (n0 : List Str) j0 ∧ OS 3017 g w 9 (n0 : List Str) j0 ∧ e 7 = .int .i64 (o0) ∧ e 8 = Str.v (j1) ∧ e 9 = .int .i64 (u0) ∧ e 11 = .bool (n4)) (fun Q' hQ => ?_) (fun jJ eK hR => ?_)
       ·replace h := hx
        clear hx
        refine E_seq (E_region (EL_at (.int .i64 (0)) rfl rfl ?_))
        refine EL_nil (thn_n (E_block ?_))
        refine E_lp h (fun (s : Bool × Int) e w => ∃ (g : Gh) , Fr gI wI g w ∧ e 1 = up1 ∧ RV g.m w (x1 : List FaultDamage) up1 ∧ e 2 = p1 ∧ PT g.m w (x0 : FaultLoom) p1 ∧ e 5 = v3 ∧ RV g.m w (y4 : List (List Bool)) v3 ∧ e 6 = j0 ∧ RV g.m w (n0 : List Str) j0 ∧ OS 3017 g w 9 (n0 : List Str) j0 ∧ e 7 = .int .i64 (o0) ∧ e 8 = Str.v (j1) ∧ e 9 = .int .i64 (u0) ∧ e 10 = .int .i64 (d2) ∧ e 11 = .bool (s.1) ∧ e 12 = .int .i64 (s.2)) ⟨s4, hfr, tD, uD, o7, x4, p7, z4, vD, xD, yD, q7, zD, r7, rfl, rfl, rfl⟩ (fun X3516 dC bH => ?_)
        rintro ⟨m2, y0⟩ kJ gK ⟨sC, hfr, c5, d5, s7, t7, u7, v7, x7, y7, z7, a8, b8, c8, pB, b6, c6⟩ h
        refine E_joinC h (fun (s : Unit) e w => ∃ (g : Gh) , Fr gI wI g w ∧ e 1 = up1 ∧ RV g.m w (x1 : List FaultDamage) up1 ∧ e 2 = p1 ∧ PT g.m w (x0 : FaultLoom) p1 ∧ e 5 = v3 ∧ RV g.m w (y4 : List (List Bool)) v3 ∧ e 6 = j0 ∧ RV g.m w (n0 : List Str) j0 ∧ OS 3017 g w 9 (n0 : List Str) j0 ∧ e 7 = .int .i64 (o0) ∧ e 8 = Str.v (j1) ∧ e 9 = .int .i64 (u0) ∧ e 10 = .int .i64 (d2) ∧ e 11 = .bool (m2) ∧ e 12 = .int .i64 (y0)) (fun X3519 eC cH h => ?_) ?_
        ·refine E_seq (E_region (EL_mv c6 rfl ?_))
         refine EL_mv c5 rfl ?_
         refine EL_pur (v := .int .i64 ((x1).length : Int)) (P_len Try.underlying29 rfl d5) .plain rfl ?_
         refine EL_in (.bool ((decide (y0 < ((x1).length : Int))))) rfl rfl rfl rfl ?_
         refine EL_nil (thn_n ?_)
         rcases csome h with ⟨d6, h⟩ | ⟨d6, h⟩
         ·refine E_ct d6 rfl ?_
          exact E_skip (thn_n (cH () _ _ ⟨sC, hfr, c5, d5, s7, t7, u7, v7, x7, y7, z7, a8, b8, c8, pB, b6, c6⟩ h))
         ·refine E_cf d6 rfl ?_
          refine E_exit ?_
          refine thn_e ?_
          refine thn_e ?_
          refine blk_hit ?_
          obtain rfl := sinj h
          exact hQ _ _ ⟨sC, hfr, c5, d5, s7, t7, u7, v7, x7, y7, z7, a8, b8, c8, b6⟩
        ·rintro _ lJ iK ⟨x5, hfr, i4, i2, d8, e8, g8, i8, j8, k8, l8, m8, n8, o8, p4, e6, q3⟩ h
         obtain ⟨o3, hx, h⟩ := bsome h
         refine E_join (fun e w => ∃ (g : Gh) , Fr gI wI g w ∧ e 1 = up1 ∧ RV g.m w (x1 : List FaultDamage) up1 ∧ e 2 = p1 ∧ PT g.m w (x0 : FaultLoom) p1 ∧ e 5 = v3 ∧ RV g.m w (y4 : List (List Bool)) v3 ∧ e 6 = j0 ∧ RV g.m w (n0 : List Str) j0 ∧ OS 3017 g w 9 (n0 : List Str) j0 ∧ e 7 = .int .i64 (o0) ∧ e 8 = Str.v (j1) ∧ e 9 = .int .i64 (u0) ∧ e 10 = .int .i64 (d2) ∧ e 11 = .bool (o3) ∧ e 12 = .int .i64 (y0)) (fun Q' hQ => ?_) (fun mJ jK hR => ?_)
         ·replace h := hx
          clear hx
          refine E_block ?_
          obtain ⟨p2, hx, h⟩ := bsome h
          refine E_join (fun e w => ∃ (g : Gh) , Fr gI wI g w ∧ e 1 = up1 ∧ RV g.m w (x1 : List FaultDamage) up1 ∧ e 2 = p1 ∧ PT g.m w (x0 : FaultLoom) p1 ∧ e 5 = v3 ∧ RV g.m w (y4 : List (List Bool)) v3 ∧ e 6 = j0 ∧ RV g.m w (n0 : List Str) j0 ∧ OS 3017 g w 9 (n0 : List Str) j0 ∧ e 7 = .int .i64 (o0) ∧ e 8 = Str.v (j1) ∧ e 9 = .int .i64 (u0) ∧ e 10 = .int .i64 (d2) ∧ e 11 = .bool (m2) ∧ e 12 = .int .i64 (y0) ∧ e 65 = .bool (p2)) (fun Q' hQ => ?_) (fun nJ kK hR => ?_)
          ·replace h := hx
           clear hx
           refine E_region (EL_mv i4 rfl ?_)
           refine EL_mv q3 rfl ?_
           obtain ⟨u3, kB, h⟩ := bsome h
           refine EL_pur (v := ePtr up1 y0 5) (P_indexAddr (α := FaultDamage) Try.underlying29 Try.sizeOf62 rfl i2 rfl kB) .plain rfl ?_
           have tC := PT_idx i2 kB
           refine EL_pur (v := fPtr (ePtr up1 y0 5) 0) (P_fieldAddr at_62_0 rfl (PT.ptr tC)) .plain rfl ?_
           have zH := PT_field (part_FaultDamage_0).1 tC
           refine EL_do .plain rfl (D_load (g := x5) Try.isAgg60 Try.sizeOf60 rfl zH fun lK aI => ?_)
           obtain rfl := RV_int.1 aI
           refine EL_in (.bool (((u3).Kind == (2 : Int)))) rfl rfl rfl rfl ?_
           refine EL_mw (.bool (((u3).Kind == (2 : Int)))) rfl rfl ?_
           rcases csome h with ⟨m1, h⟩ | ⟨m1, h⟩
           ·refine EL_pur (v := up1) (P_move i4) (.yes2 rfl rfl m1) rfl ?_
            refine EL_pur (v := .int .i64 (y0)) (P_move q3) (.yes2 rfl rfl m1) rfl ?_
            obtain ⟨p5, lB, h⟩ := bsome h
            refine EL_pur (v := ePtr up1 y0 5) (P_indexAddr (α := FaultDamage) Try.underlying29 Try.sizeOf62 rfl i2 rfl lB) (.yes2 rfl rfl m1) rfl ?_
            have uC := PT_idx i2 lB
            refine EL_pur (v := fPtr (ePtr up1 y0 5) 2) (P_fieldAddr at_62_2 rfl (PT.ptr uC)) (.yes2 rfl rfl m1) rfl ?_
            have bI := PT_field (part_FaultDamage_2).1 uC
            refine EL_do (.yes2 rfl rfl m1) rfl (D_load (g := x5) Try.isAgg3 Try.sizeOf3 rfl bI fun mK cI => ?_)
            obtain rfl := RV_int.1 cI
            refine EL_pur (v := .int .i64 (d2)) (P_move p4) (.yes2 rfl rfl m1) rfl ?_
            refine EL_pur (v := .bool (((p5).Hook == d2))) (P_int rfl rfl rfl) (.yes2 rfl rfl m1) rfl ?_
            refine EL_pur (v := .bool (((p5).Hook == d2))) (P_pick (b := ((u3).Kind == (2 : Int))) rfl (pick_t m1 rfl)) .plain rfl ?_
            refine EL_nil ?_
            obtain rfl := sinj h
            exact hQ _ _ ⟨x5, hfr, i4, i2, d8, e8, g8, i8, j8, k8, l8, m8, n8, o8, p4, e6, q3, rfl⟩
           ·refine EL_skip (.no2 rfl rfl m1 rfl) rfl ?_
            refine EL_skip (.no2 rfl rfl m1 rfl) rfl ?_
            refine EL_skip (.no2 rfl rfl m1 rfl) rfl ?_
            refine EL_skip (.no2 rfl rfl m1 rfl) rfl ?_
            refine EL_skip (.no2 rfl rfl m1 rfl) rfl ?_
            refine EL_skip (.no2 rfl rfl m1 rfl) rfl ?_
            refine EL_skip (.no2 rfl rfl m1 rfl) rfl ?_
            refine EL_pur (v := .bool false) (P_pick (b := ((u3).Kind == (2 : Int))) rfl (pick_f m1 rfl)) .plain rfl ?_
            refine EL_nil ?_
            obtain rfl := sinj h
            exact hQ _ _ ⟨x5, hfr, i4, i2, d8, e8, g8, i8, j8, k8, l8, m8, n8, o8, p4, e6, q3, rfl⟩
          ·clear hx
           obtain ⟨dB, hfr, e5, j4, p8, q8, r8, t8, v8, x8, y8, z8, a9, b9, i6, qB, q4, j6⟩ := hR
           rcases csome h with ⟨k6, h⟩ | ⟨k6, h⟩
           ·refine E_cond_true (Eq.trans (show ev _ _ = .bool (p2) from j6) (congrArg Value.bool k6)) ?_
            refine E_region (EL_mv e5 rfl ?_)
            refine EL_mv q4 rfl ?_
            obtain ⟨bB, mB, h⟩ := bsome h
            refine EL_pur (v := ePtr up1 y0 5) (P_indexAddr (α := FaultDamage) Try.underlying29 Try.sizeOf62 rfl j4 rfl mB) .plain rfl ?_
            have vC := PT_idx j4 mB
            refine EL_pur (v := fPtr (ePtr up1 y0 5) 4) (P_fieldAddr at_62_4 rfl (PT.ptr vC)) .plain rfl ?_
            have dI := PT_field (part_FaultDamage_4).1 vC
            refine EL_do .plain rfl (D_load (g := dB) Try.isAgg4 Try.sizeOf4 rfl dI fun nK eI => ?_)
            obtain rfl := RV_bool.1 eI
            refine EL_at (.bool ((bB).Up)) rfl rfl ?_
            refine EL_nil (blk_n ?_)
            obtain rfl := sinj h
            exact hQ _ _ ⟨dB, hfr, e5, j4, p8, q8, r8, t8, v8, x8, y8, z8, a9, b9, i6, rfl, q4⟩
           ·refine E_cond_false (Eq.trans (show ev _ _ = .bool (p2) from j6) (congrArg Value.bool k6)) ?_
            refine E_skip (blk_n ?_)
            obtain rfl := sinj h
            exact hQ _ _ ⟨dB, hfr, e5, j4, p8, q8, r8, t8, v8, x8, y8, z8, a9, b9, i6, qB, q4⟩
         ·clear hx
          obtain ⟨iI, hfr, aE, bE, cE, dE, eE, gE, iE, jE, kE, lE, mE, nE, rB, sB, tB⟩ := hR
          refine E_region (EL_mv tB rfl ?_)
          refine EL_in (.int .i64 ((w64 (y0 + (1 : Int))))) rfl rfl rfl rfl ?_
          refine EL_at (.int .i64 ((w64 (y0 + (1 : Int))))) rfl rfl ?_
          exact EL_nil (thn_n (bH (o3, (w64 (y0 + (1 : Int)))) _ _ ⟨iI, hfr, aE, bE, cE, dE, eE, gE, iE, jE, kE, lE, mE, nE, rB, sB, rfl⟩ h))
       ·clear hx
        obtain ⟨jI, hfr, oE, pE, qE, rE, sE, tE, uE, vE, xE, yE, zE, aF, uB⟩ := hR
        obtain ⟨o4, hx, h⟩ := bsome h
        refine E_join (fun e w => ∃ (g : Gh) , Fr gI wI g w ∧ e 1 = up1 ∧ RV g.m w (x1 : List FaultDamage) up1 ∧ e 2 = p1 ∧ PT g.m w (x0 : FaultLoom) p1 ∧ e 5 = v3 ∧ RV g.m w (y4 : List (List Bool)) v3 ∧ e 6 = j0 ∧ RV g.m w (n0 : List Str) j0 ∧ OS 3017 g w 9 (n0 : List Str) j0 ∧ e 7 = .int .i64 (o0) ∧ e 8 = Str.v (j1) ∧ e 9 = .int .i64 (u0) ∧ e 11 = .bool (o4)) (fun Q' hQ => ?_) (fun oJ oK hR => ?_)
        ·replace h := hx
         clear hx
         refine E_seq (E_region (EL_at (.int .i64 (0)) rfl rfl ?_))
         refine EL_nil (thn_n (E_block ?_))
         refine E_lp h (fun (s : Bool × Int) e w => ∃ (g : Gh) , Fr gI wI g w ∧ e 1 = up1 ∧ RV g.m w (x1 : List FaultDamage) up1 ∧ e 2 = p1 ∧ PT g.m w (x0 : FaultLoom) p1 ∧ e 5 = v3 ∧ RV g.m w (y4 : List (List Bool)) v3 ∧ e 6 = j0 ∧ RV g.m w (n0 : List Str) j0 ∧ OS 3017 g w 9 (n0 : List Str) j0 ∧ e 7 = .int .i64 (o0) ∧ e 8 = Str.v (j1) ∧ e 9 = .int .i64 (u0) ∧ e 11 = .bool (s.1) ∧ e 13 = .int .i64 (s.2)) ⟨jI, hfr, oE, pE, qE, rE, sE, tE, uE, vE, xE, yE, zE, aF, uB, rfl⟩ (fun X3619 iC dH => ?_)
         rintro ⟨q2, i1⟩ pJ pK ⟨xC, hfr, i5, j5, c9, d9, e9, g9, i9, j9, k9, l9, m9, n9, l6, m6⟩ h
         refine E_joinC h (fun (s : Unit) e w => ∃ (g : Gh) , Fr gI wI g w ∧ e 1 = up1 ∧ RV g.m w (x1 : List FaultDamage) up1 ∧ e 2 = p1 ∧ PT g.m w (x0 : FaultLoom) p1 ∧ e 5 = v3 ∧ RV g.m w (y4 : List (List Bool)) v3 ∧ e 6 = j0 ∧ RV g.m w (n0 : List Str) j0 ∧ OS 3017 g w 9 (n0 : List Str) j0 ∧ e 7 = .int .i64 (o0) ∧ e 8 = Str.v (j1) ∧ e 9 = .int .i64 (u0) ∧ e 11 = .bool (q2) ∧ e 13 = .int .i64 (i1)) (fun X3622 jC gH h => ?_) ?_
         ·refine E_seq (E_region (EL_mv m6 rfl ?_))
          refine EL_mv i5 rfl ?_
          refine EL_pur (v := .int .i64 ((x1).length : Int)) (P_len Try.underlying29 rfl j5) .plain rfl ?_
          refine EL_in (.bool ((decide (i1 < ((x1).length : Int))))) rfl rfl rfl rfl ?_
          refine EL_nil (thn_n ?_)
          rcases csome h with ⟨n6, h⟩ | ⟨n6, h⟩
          ·refine E_ct n6 rfl ?_
           exact E_skip (thn_n (gH () _ _ ⟨xC, hfr, i5, j5, c9, d9, e9, g9, i9, j9, k9, l9, m9, n9, l6, m6⟩ h))
          ·refine E_cf n6 rfl ?_
           refine E_exit ?_
           refine thn_e ?_
           refine thn_e ?_
           refine blk_hit ?_
           obtain rfl := sinj h
           exact hQ _ _ ⟨xC, hfr, i5, j5, c9, d9, e9, g9, i9, j9, k9, l9, m9, n9, l6⟩
         ·rintro _ qJ qK ⟨y5, hfr, m4, j2, o9, p9, q9, r9, s9, t9, u9, v9, x9, l5, o6, s3⟩ h
          obtain ⟨p3, hx, h⟩ := bsome h
          refine E_join (fun e w => ∃ (g : Gh) , Fr gI wI g w ∧ e 1 = up1 ∧ RV g.m w (x1 : List FaultDamage) up1 ∧ e 2 = p1 ∧ PT g.m w (x0 : FaultLoom) p1 ∧ e 5 = v3 ∧ RV g.m w (y4 : List (List Bool)) v3 ∧ e 6 = j0 ∧ RV g.m w (n0 : List Str) j0 ∧ OS 3017 g w 9 (n0 : List Str) j0 ∧ e 7 = .int .i64 (o0) ∧ e 8 = Str.v (j1) ∧ e 9 = .int .i64 (u0) ∧ e 11 = .bool (p3) ∧ e 13 = .int .i64 (i1)) (fun Q' hQ => ?_) (fun rJ sK hR => ?_)
          ·replace h := hx
           clear hx
           refine E_block ?_
           obtain ⟨s2, hx, h⟩ := bsome h
           refine E_join (fun e w => ∃ (g : Gh) , Fr gI wI g w ∧ e 1 = up1 ∧ RV g.m w (x1 : List FaultDamage) up1 ∧ e 2 = p1 ∧ PT g.m w (x0 : FaultLoom) p1 ∧ e 5 = v3 ∧ RV g.m w (y4 : List (List Bool)) v3 ∧ e 6 = j0 ∧ RV g.m w (n0 : List Str) j0 ∧ OS 3017 g w 9 (n0 : List Str) j0 ∧ e 7 = .int .i64 (o0) ∧ e 8 = Str.v (j1) ∧ e 9 = .int .i64 (u0) ∧ e 11 = .bool (q2) ∧ e 13 = .int .i64 (i1) ∧ e 91 = .bool (s2)) (fun Q' hQ => ?_) (fun sJ tK hR => ?_)
           ·replace h := hx
            clear hx
            refine E_region (EL_mv m4 rfl ?_)
            refine EL_mv s3 rfl ?_
            obtain ⟨z3, nB, h⟩ := bsome h
            refine EL_pur (v := ePtr up1 i1 5) (P_indexAddr (α := FaultDamage) Try.underlying29 Try.sizeOf62 rfl j2 rfl nB) .plain rfl ?_
            have yC := PT_idx j2 nB
            refine EL_pur (v := fPtr (ePtr up1 i1 5) 0) (P_fieldAddr at_62_0 rfl (PT.ptr yC)) .plain rfl ?_
            have kI := PT_field (part_FaultDamage_0).1 yC
            refine EL_do .plain rfl (D_load (g := y5) Try.isAgg60 Try.sizeOf60 rfl kI fun uK lI => ?_)
            obtain rfl := RV_int.1 lI
            refine EL_in (.bool (((z3).Kind == (5 : Int)))) rfl rfl rfl rfl ?_
            refine EL_mw (.bool (((z3).Kind == (5 : Int)))) rfl rfl ?_
            rcases csome h with ⟨z1, h⟩ | ⟨z1, h⟩
            ·refine EL_pur (v := up1) (P_move m4) (.yes2 rfl rfl z1) rfl ?_
             refine EL_pur (v := .int .i64 (i1)) (P_move s3) (.yes2 rfl rfl z1) rfl ?_
             obtain ⟨q5, oB, h⟩ := bsome h
             refine EL_pur (v := ePtr up1 i1 5) (P_indexAddr (α := FaultDamage) Try.underlying29 Try.sizeOf62 rfl j2 rfl oB) (.yes2 rfl rfl z1) rfl ?_
             have zC := PT_idx j2 oB
             refine EL_pur (v := fPtr (ePtr up1 i1 5) 3) (P_fieldAddr at_62_3 rfl (PT.ptr zC)) (.yes2 rfl rfl z1) rfl ?_
             have mI := PT_field (part_FaultDamage_3).1 zC
             refine EL_do (.yes2 rfl rfl z1) rfl (D_load (g := y5) Try.isAgg3 Try.sizeOf3 rfl mI fun vK nI => ?_)
             obtain rfl := RV_int.1 nI
             refine EL_pur (v := .int .i64 (u0)) (P_move l5) (.yes2 rfl rfl z1) rfl ?_
             refine EL_pur (v := .bool (((q5).Warp == u0))) (P_int rfl rfl rfl) (.yes2 rfl rfl z1) rfl ?_
             refine EL_pur (v := .bool (((q5).Warp == u0))) (P_pick (b := ((z3).Kind == (5 : Int))) rfl (pick_t z1 rfl)) .plain rfl ?_
             refine EL_nil ?_
             obtain rfl := sinj h
             exact hQ _ _ ⟨y5, hfr, m4, j2, o9, p9, q9, r9, s9, t9, u9, v9, x9, l5, o6, s3, rfl⟩
            ·refine EL_skip (.no2 rfl rfl z1 rfl) rfl ?_
             refine EL_skip (.no2 rfl rfl z1 rfl) rfl ?_
             refine EL_skip (.no2 rfl rfl z1 rfl) rfl ?_
             refine EL_skip (.no2 rfl rfl z1 rfl) rfl ?_
             refine EL_skip (.no2 rfl rfl z1 rfl) rfl ?_
             refine EL_skip (.no2 rfl rfl z1 rfl) rfl ?_
             refine EL_skip (.no2 rfl rfl z1 rfl) rfl ?_
             refine EL_pur (v := .bool false) (P_pick (b := ((z3).Kind == (5 : Int))) rfl (pick_f z1 rfl)) .plain rfl ?_
             refine EL_nil ?_
             obtain rfl := sinj h
             exact hQ _ _ ⟨y5, hfr, m4, j2, o9, p9, q9, r9, s9, t9, u9, v9, x9, l5, o6, s3, rfl⟩
           ·clear hx
            obtain ⟨aD, hfr, y9, z9, aA, bA, cA, dA, eA, gA, iA, jA, kA, lA, vB, p6, q6⟩ := hR
            rcases csome h with ⟨r6, h⟩ | ⟨r6, h⟩
            ·refine E_cond_true (Eq.trans (show ev _ _ = .bool (s2) from q6) (congrArg Value.bool r6)) ?_
             refine E_region (EL_at (.bool false) rfl rfl ?_)
             refine EL_nil (blk_n ?_)
             obtain rfl := sinj h
             exact hQ _ _ ⟨aD, hfr, y9, z9, aA, bA, cA, dA, eA, gA, iA, jA, kA, lA, rfl, p6⟩
            ·refine E_cond_false (Eq.trans (show ev _ _ = .bool (s2) from q6) (congrArg Value.bool r6)) ?_
             refine E_skip (blk_n ?_)
             obtain rfl := sinj h
             exact hQ _ _ ⟨aD, hfr, y9, z9, aA, bA, cA, dA, eA, gA, iA, jA, kA, lA, vB, p6⟩
          ·clear hx
           obtain ⟨oI, hfr, bF, cF, dF, eF, gF, iF, jF, kF, lF, mF, nF, oF, xB, yB⟩ := hR
           refine E_region (EL_mv yB rfl ?_)
           refine EL_in (.int .i64 ((w64 (i1 + (1 : Int))))) rfl rfl rfl rfl ?_
           refine EL_at (.int .i64 ((w64 (i1 + (1 : Int))))) rfl rfl ?_
           exact EL_nil (thn_n (dH (p3, (w64 (i1 + (1 : Int)))) _ _ ⟨oI, hfr, bF, cF, dF, eF, gF, iF, jF, kF, lF, mF, nF, oF, xB, rfl⟩ h))
        ·clear hx
         obtain ⟨bD, hfr, mA, nA, oA, pA, qA, rA, sA, tA, uA, vA, xA, yA, zB⟩ := hR
         refine E_seq (E_region (EL_mv zB rfl ?_))
         refine EL_nil (thn_n ?_)
         rcases csome h with ⟨s6, h⟩ | ⟨s6, h⟩
         ·refine E_ct s6 rfl ?_
          refine E_region (EL_mv xA rfl ?_)
          obtain ⟨t5, iH, h⟩ := bsome h
          refine EL_pur (v := Str.v (t5)) (P_str rfl rfl (sadd_sop iH)) .plain rfl ?_
          refine EL_at (Str.v (t5)) rfl rfl ?_
          refine EL_nil (blk_n ?_)
          obtain rfl := sinj h
          exact hQ _ _ ⟨bD, hfr, mA, nA, oA, pA, qA, rA, sA, tA, uA, vA, rfl, yA⟩
         ·refine E_cf s6 rfl ?_
          refine E_region (EL_mv xA rfl ?_)
          obtain ⟨u5, jH, h⟩ := bsome h
          refine EL_pur (v := Str.v (u5)) (P_str rfl rfl (sadd_sop jH)) .plain rfl ?_
          refine EL_at (Str.v (u5)) rfl rfl ?_
          refine EL_nil (blk_n ?_)
          obtain rfl := sinj h
          exact hQ _ _ ⟨bD, hfr, mA, nA, oA, pA, qA, rA, sA, tA, uA, vA, rfl, yA⟩
      ·clear hx
       obtain ⟨pI, hfr, pF, qF, rF, sF, tF, uF, vF, xF, yF, zF, aG, bG⟩ := hR
       refine E_region (EL_mv bG rfl ?_)
       refine EL_in (.int .i64 ((w64 (u0 + (1 : Int))))) rfl rfl rfl rfl ?_
       refine EL_at (.int .i64 ((w64 (u0 + (1 : Int))))) rfl rfl ?_
       exact EL_nil (thn_n (zG (c4, (w64 (u0 + (1 : Int)))) _ _ ⟨pI, hfr, pF, qF, rF, sF, tF, uF, vF, xF, yF, zF, aG, rfl⟩ h))
    ·clear hx
     obtain ⟨qI, hfr, cG, i3, dG, j3, eG, m3, gG, m5, n5, hG, iG⟩ := hR
     refine E_region (EL_mv gG rfl ?_)
     refine EL_mv iG rfl ?_
     refine EL_do .plain rfl (D_buildSlice (g := qI) 3099 (xs := ([z2] : List Str)) (vs := [Str.v (z2)]) Try.underlying36 Try.sizeOf9 Try.zeroValue9 rfl rfl (.cons rfl .nil) (RVs.cons (RV_str.2 rfl) RVs.nil) rfl rfl fun rI xK yK hs o3672 sI hxt hfl => ?_)
     have hfr := hfr.stp hs
     have i3 := i3.stp hs
     have j3 := j3.stp hs
     have m3 := m3.stp hs
     have m5 := m5.stp hs
     have n5 := n5.stp hs rfl
     obtain ⟨lC, kH, h⟩ := bsome h
     refine EL_do .plain rfl (D_append (g := rI) (i := 3017) Try.underlying36 info_9 rfl rfl n5 m5 rfl sI kH fun tI mH cD hs o3673 uI _ => ?_)
     have hfr := hfr.stp hs
     have i3 := i3.stp hs
     have j3 := j3.stp hs
     have m3 := m3.stp hs
     refine EL_at cD rfl rfl ?_
     refine EL_nil (blk_n ?_)
     obtain rfl := sinj h
     exact hQ _ _ ⟨tI, (cD), hfr, cG, i3, dG, j3, eG, m3, rfl, uI, o3673, hG⟩
   ·clear hx
    obtain ⟨vI, jG, hfr, kG, lG, mG, nG, oG, pG, qG, rG, sG, tG⟩ := hR
    refine E_region (EL_mv tG rfl ?_)
    refine EL_in (.int .i64 ((w64 (o0 + (1 : Int))))) rfl rfl rfl rfl ?_
    refine EL_at (.int .i64 ((w64 (o0 + (1 : Int))))) rfl rfl ?_
    exact EL_nil (thn_n (xG (d3, (w64 (o0 + (1 : Int)))) _ _ ⟨vI, (jG), hfr, kG, lG, mG, nG, oG, pG, qG, rG, sG, rfl⟩ h))
 ·clear hx
  obtain ⟨zK, zA, hfr, uG, vG, xI⟩ := hR
  refine E_seq (E_region (EL_mv uG rfl ?_))
  refine EL_at zA rfl rfl ?_
  refine EL_nil (thn_n (E_ret ?_))
  obtain rfl := sinj h
  exact end1 rfl rfl (show _ = zA from rfl) ⟨_, hfr, vG⟩
/-- griffe/grifferef05.One -/
def f36 (x0 : FaultLoom) (x1 : FaultDamage) : Option ((List Str)) :=
 (f26 x0 (([x1] : List FaultDamage))).bind fun y7 =>
 some (y7)
theorem en36 : Enters Try.prog 36 := enters_of Try.func36 (by kernel_rfl) rfl
theorem wk36 {gI : Gh} {wI : World} {x0 : FaultLoom} {x1 : FaultDamage} {up0 : Value} (rp0 : RV gI.m wI x0 up0) {up1 : Value} (rp1 : RV gI.m wI x1 up1) {r : (List Str)} (h : f36 x0 x1 = some r) : Fn Try.prog 36 #[up0, up1] gI wI (fun m w v => RV m w (r) v) := by
 unfold f36 at h
 refine fn_of_E Try.func36 rfl (Nat.le_of_ble_eq_true rfl) fun g0 hm hfr => ?_
 have rp0 : RV g0.m wI x0 up0 := hm ▸ rp0
 have rp1 : RV g0.m wI x1 up1 := hm ▸ rp1
 show E _ 9 none _ _ _ _ _
 refine E_seq (E_region (EL_do .plain rfl (D_box (g := g0) rfl rp0 fun g1 w1 p1 hs q1 => ?_)))
 have hfr := hfr.ext hs
 have rp1 := rp1.ext hs
 refine EL_do .plain rfl (D_box (g := g1) rfl rp1 fun g2 w2 p2 hs q2 => ?_)
 have hfr := hfr.ext hs
 have q1 := q1.ext hs
 refine EL_at (.slice none 0 0) rfl rfl ?_
 refine EL_nil (thn_n (E_seq (E_region (EL_do .plain rfl (D_load (g := g2) Try.isAgg28 Try.sizeOf28 rfl q1 fun v3 r3 => ?_)))))
 refine EL_do .plain rfl (D_load (g := g2) Try.isAgg62 Try.sizeOf62 rfl q2 fun v4 r4 => ?_)
 refine EL_do .plain rfl (D_buildSlice (g := g2) 3007 (xs := ([x1] : List FaultDamage)) (vs := [v4]) Try.underlying29 Try.sizeOf62 Try.zeroValue62 rfl rfl (.cons rfl .nil) (RVs.cons r4 RVs.nil) rfl rfl fun g5 w5 v5 hs o5 r5 hxt hfl => ?_)
 have hfr := hfr.stp hs
 have r3 := r3.stp hs
 obtain ⟨y7, j0, h⟩ := bsome h
 refine EL_do .plain rfl (D_call (g := g5) (vs := [v3, v5]) en26 (.cons rfl (.cons rfl .nil)) (wk26 r3 r5 j0) fun g6 w6_ v6 hs hr => ?_)
 have hfr := hfr.ext hs
 have r6 := hr
 refine EL_at v6 rfl rfl ?_
 refine EL_nil (thn_n (E_ret ?_))
 obtain rfl := sinj h
 exact end1 rfl rfl (show _ = v6 from rfl) ⟨_, hfr, r6⟩
/-- griffe/fault.open -/
def f54 (x0 : FaultLoom) (x1 : List FaultDamage) (x2 : Int) : Option (Int) :=
 jn (σ := Unit) (fun (_ : Unit) =>
  jn (σ := Unit) (fun (_ : Unit) =>
   some ((0 : Int))
   ) fun y0 =>
  (f62 ((1 : Int)) ((120 : Int)) (([x2] : List Int))).bind fun o0 =>
  bif (!o0) then
   some ((3 : Int))
  else
   y0 ()
  ) fun k6 =>
 (f18 x0 x1).bind fun y9 =>
 bif (y9 != (0 : Int)) then
  some (y9)
 else
  k6 ()
theorem en54 : Enters Try.prog 54 := enters_of Try.func54 (by kernel_rfl) rfl
theorem wk54 {gI : Gh} {wI : World} {x0 : FaultLoom} {x1 : List FaultDamage} {x2 : Int} {up0 : Value} (rp0 : RV gI.m wI x0 up0) {up1 : Value} (rp1 : RV gI.m wI x1 up1) {r : Int} (h : f54 x0 x1 x2 = some r) : Fn Try.prog 54 #[up0, up1, .int .i64 (x2)] gI wI (fun _ _ v => v = .int .i64 (r)) := by
 unfold f54 at h
 refine fn_of_E Try.func54 rfl (Nat.le_of_ble_eq_true rfl) fun g0 hm hfr => ?_
 have rp0 : RV g0.m wI x0 up0 := hm ▸ rp0
 have rp1 : RV g0.m wI x1 up1 := hm ▸ rp1
 show E _ 18 none _ _ _ _ _
 refine E_seq (E_region (EL_do .plain rfl (D_box (g := g0) rfl rp0 fun g1 w1 p1 hs q1 => ?_)))
 have hfr := hfr.ext hs
 have rp1 := rp1.ext hs
 refine EL_at (.int .i64 (0)) rfl rfl ?_
 refine EL_nil (thn_n (E_joinC h (fun (s : Unit) e w => ∃ (g : Gh) , Fr gI wI g w ∧ e 2 = .int .i64 (x2)) (fun X6 k6 hk6 h => ?_) ?_))
 ·refine E_seq (E_region (EL_do .plain rfl (D_load (g := g1) Try.isAgg28 Try.sizeOf28 rfl q1 fun v7 r7 => ?_)))
  refine EL_mw up1 rfl rfl ?_
  obtain ⟨y9, m1, h⟩ := bsome h
  refine EL_do .plain rfl (D_call (g := g1) (vs := [v7, up1]) en18 (.cons rfl (.cons rfl .nil)) (wk18 r7 rp1 m1) fun g8 w8_ v8 hs hr => ?_)
  have hfr := hfr.ext hs
  subst hr
  refine EL_at (.int .i64 (y9)) rfl rfl ?_
  refine EL_nil (thn_n (E_seq (E_region (EL_mw (.int .i64 (y9)) rfl rfl ?_))))
  refine EL_in (.bool ((y9 != (0 : Int)))) rfl rfl rfl rfl ?_
  refine EL_nil (thn_n ?_)
  rcases csome h with ⟨j0, h⟩ | ⟨j0, h⟩
  ·refine E_ct j0 rfl ?_
   refine E_seq (E_region (EL_mw (.int .i64 (y9)) rfl rfl ?_))
   refine EL_at (.int .i64 (y9)) rfl rfl ?_
   refine EL_nil (thn_n (E_ret (thn_r ?_)))
   obtain rfl := sinj h
   exact end1 rfl rfl (show _ = .int .i64 (y9) from rfl) ⟨_, hfr, rfl⟩
  ·refine E_cf j0 rfl ?_
   exact E_skip (thn_n (hk6 () _ _ ⟨g8, hfr, rfl⟩ h))
 ·rintro _ p2 z2 ⟨z1, hfr, u0⟩ h
  refine E_joinC h (fun (s : Unit) e w => ∃ (g : Gh) , Fr gI wI g w) (fun X16 y0 i1 h => ?_) ?_
  ·refine E_seq (E_region (EL_mv u0 rfl ?_))
   refine EL_do .plain rfl (D_buildSlice (g := z1) 3015 (xs := ([x2] : List Int)) (vs := [.int .i64 (x2)]) Try.underlying22 Try.sizeOf3 Try.zeroValue3 rfl rfl (.cons rfl .nil) (RVs.cons (RV_int.2 rfl) RVs.nil) rfl rfl fun d2 d3 i2 hs o17 j2 hxt hfl => ?_)
   have hfr := hfr.stp hs
   obtain ⟨o0, j1, h⟩ := bsome h
   refine EL_do .plain rfl (D_call (g := d2) (vs := [.int .i64 (1), .int .i64 (120), i2]) en62 (.cons rfl (.cons rfl (.cons rfl .nil))) (wk62 j2 j1) fun m2 q2 i3 hs hr => ?_)
   have hfr := hfr.ext hs
   subst hr
   refine EL_pur (v := .bool (!o0)) (P_not rfl) .plain rfl ?_
   refine EL_nil (thn_n ?_)
   rcases csome h with ⟨n0, h⟩ | ⟨n0, h⟩
   ·refine E_ct n0 rfl ?_
    refine E_seq (E_region (EL_at (.int .i64 (3)) rfl rfl ?_))
    refine EL_nil (thn_n (E_ret (thn_r ?_)))
    obtain rfl := sinj h
    exact end1 rfl rfl (show _ = .int .i64 (3) from rfl) ⟨_, hfr, rfl⟩
   ·refine E_cf n0 rfl ?_
    exact E_skip (thn_n (i1 () _ _ ⟨m2, hfr⟩ h))
  ·rintro _ s2 j3 ⟨m3, hfr⟩ h
   refine E_seq (E_region (EL_at (.int .i64 (0)) rfl rfl ?_))
   refine EL_nil (thn_n (E_ret ?_))
   obtain rfl := sinj h
   exact end1 rfl rfl (show _ = .int .i64 (0) from rfl) ⟨_, hfr, rfl⟩
theorem v77_0 {iO : Nat} {gI : Gh} {wI : World} {x0 : List FaultDamage} {up0 : Value} (rp0 : RV gI.m wI x0 up0) {r : List FaultDamage} (h : f77 x0 = some r) : FnG Try.prog 77 #[up0] gI wI (fun g w v => OM iO g w 62 r v) := by
 unfold f77 at h
 refine fnG_of_E Try.func77 rfl (Nat.le_of_ble_eq_true rfl) fun g0 hm hfr => ?_
 have rp0 : RV g0.m wI x0 up0 := hm ▸ rp0
 show E _ 8 none _ _ _ _ _
 refine E_seq (E_region (EL_at (.slice none 0 0) rfl rfl (EL_nil (thn_n ?_))))
 refine E_seq (E_seq (E_region (EL_mw up0 rfl rfl ?_)))
 obtain ⟨a, c, hv, hc, hrow⟩ := RV_list rp0
 refine EL_pur (v := .bool a.isNone) (P_slnil Try.underlying29 (show ev _ _ = _ from hv)) .plain rfl (EL_nil (thn_n ?_))
 cases a with
 | none =>
  have hx : x0 = [] := by
   cases x0 with
   | nil => rfl
   | cons y ys => obtain ⟨b, off, hb, _⟩ := hrow (by simp); cases hb
  subst hx
  have hr : r = [] := by unfold apnd at h; split at h <;> simp at h; exact h
  subst hr
  refine E_cond_true rfl (E_seq (E_region ?_))
  refine EL_at (.slice none 0 0) rfl rfl (EL_nil (thn_n ?_))
  obtain ⟨gh, hxh, homh⟩ := OM.handn (i := iO) (t := 62) (α := FaultDamage) hfr; exact E_ret (thn_r (end1 rfl rfl (show _ = .slice none 0 0 from rfl) ⟨gh, hxh, homh⟩))
 | some a =>
  refine E_cond_false rfl (E_skip (thn_n ?_))
  refine E_seq (E_region (EL_do .plain rfl (D_buildSlice (g := g0) 1 (xs := ([] : List FaultDamage)) (vs := []) Try.underlying29 Try.sizeOf62 Try.zeroValue62 rfl rfl .nil RVs.nil rfl rfl fun g1 w1 v1 hs o1 r1 hxt hfl => ?_)))
  have hfr := hfr.stp hs
  have rp0 := rp0.stp hs
  refine EL_mw up0 rfl rfl ?_
  refine EL_do .plain rfl (D_append (g := g1) (i := 1) Try.underlying29 info_62 rfl rfl o1 r1 rfl rp0 h fun g2 w2 v2 hs o2 r2 _ => ?_)
  have hfr := hfr.stp hs
  refine EL_at v2 rfl rfl (EL_nil (thn_n ?_))
  obtain ⟨gh, hxh, homh⟩ := OM.hand (i := iO) plain_FaultDamage hfr o2 r2; exact E_ret (end1 rfl rfl (show _ = v2 from rfl) ⟨gh, hxh, homh⟩)
/-- griffe/grifferef05.All -/
def f34 (x0 : FaultLoom) : Option ((List FaultDamage)) :=
 (f26 x0 ([])).bind fun y5 =>
 Option.bind (α := (List FaultDamage)) (
  lp (σ := (List FaultDamage) × Int) (fun o8 (s2, j0) =>
   jn (σ := Unit) (fun (_ : Unit) =>
    Option.bind (α := (List FaultDamage)) (
     lp (σ := (List FaultDamage) × Int) (fun p8 (z2, n0) =>
      jn (σ := Unit) (fun (_ : Unit) =>
       Option.bind (α := (List FaultDamage)) (
        lp (σ := (List FaultDamage) × Int) (fun q8 (d3, o0) =>
         jn (σ := Unit) (fun (_ : Unit) =>
          Option.bind (α := (List FaultDamage)) (
           lp (σ := (List FaultDamage) × Int) (fun r8 (i3, u0) =>
            jn (σ := Unit) (fun (_ : Unit) =>
             Option.bind (α := (List FaultDamage)) (
              lp (σ := (List FaultDamage) × Int) (fun t8 (i2, y0) =>
               jn (σ := Unit) (fun (_ : Unit) =>
                Option.bind (α := (List FaultDamage)) (
                 Option.bind (α := Bool) (
                  (f59 x0 ((⟨j0, n0, o0, u0, (y0 == (1 : Int))⟩ : FaultDamage))).bind fun p4 =>
                  bif p4 then
                   (f36 x0 ((⟨j0, n0, o0, u0, (y0 == (1 : Int))⟩ : FaultDamage))).bind fun v8 =>
                   (f27 v8 y5).bind fun j5 =>
                   some ((!j5))
                  else
                   some (false)
                  ) fun q2 =>
                 bif q2 then
                  (apnd 40 i2 (([(⟨j0, n0, o0, u0, (y0 == (1 : Int))⟩ : FaultDamage)] : List FaultDamage))).bind fun x8 =>
                  some (x8)
                 else
                  some (i2)
                 ) fun j3 =>
                t8 (j3, (w64 (y0 + (1 : Int))))
                ) fun y8 =>
               bif (decide (y0 < (2 : Int))) then
                y8 ()
               else
                some (i2)
               ) big (i3, (0 : Int))
              ) fun m3 =>
             r8 (m3, (w64 (u0 + (1 : Int))))
             ) fun z8 =>
            bif (decide (u0 < ((((x0).Harness).Warps).length : Int))) then
             z8 ()
            else
             some (i3)
            ) big (d3, (0 : Int))
           ) fun o3 =>
          q8 (o3, (w64 (o0 + (1 : Int))))
          ) fun a9 =>
         bif (decide (o0 < ((x0).Design).Hooks)) then
          a9 ()
         else
          some (d3)
         ) big (z2, (0 : Int))
        ) fun p3 =>
       p8 (p3, (w64 (n0 + (1 : Int))))
       ) fun b9 =>
      bif (decide (n0 < ((((x0).Design).Rows).length : Int))) then
       b9 ()
      else
       some (z2)
      ) big (s2, (0 : Int))
     ) fun q3 =>
    o8 (q3, (w64 (j0 + (1 : Int))))
    ) fun c9 =>
   bif (decide (j0 ≤ (5 : Int))) then
    c9 ()
   else
    some (s2)
   ) big (([] : List FaultDamage), (1 : Int))
  ) fun d4 =>
 some (d4)
theorem en34 : Enters Try.prog 34 := enters_of Try.func34 (by kernel_rfl) rfl
theorem wk34 {gI : Gh} {wI : World} {x0 : FaultLoom} {up0 : Value} (rp0 : RV gI.m wI x0 up0) {r : (List FaultDamage)} (h : f34 x0 = some r) : Fn Try.prog 34 #[up0] gI wI (fun m w v => RV m w (r) v) := by
 unfold f34 at h
 refine fn_of_E Try.func34 rfl (Nat.le_of_ble_eq_true rfl) fun g0 hm hfr => ?_
 have rp0 : RV g0.m wI x0 up0 := hm ▸ rp0
 show E _ 68 none _ _ _ _ _
 refine E_seq (E_region (EL_do .plain rfl (D_box (g := g0) rfl rp0 fun g1 w1 p1 hs q1 => ?_)))
 have hfr := hfr.ext hs
 refine EL_at (.slice none 0 0) rfl rfl ?_
 refine EL_nil (thn_n (E_seq (E_region (EL_do .plain rfl (D_buildSlice (g := g1) 3011 (xs := ([] : List FaultDamage)) (vs := []) Try.underlying29 Try.sizeOf62 Try.zeroValue62 rfl rfl .nil RVs.nil rfl rfl fun g2 w2 v2 hs o2 r2 hxt hfl => ?_)))))
 have hfr := hfr.stp hs
 have q1 := q1.stp hs
 refine EL_do .plain rfl (D_load (g := g2) Try.isAgg28 Try.sizeOf28 rfl q1 fun v3 r3 => ?_)
 obtain ⟨y5, dG, h⟩ := bsome h
 refine EL_do .plain rfl (D_call (g := g2) (vs := [v3, .slice none 0 0]) en26 (.cons rfl (.cons rfl .nil)) (wk26 r3 RV_nil dG) fun g4 w4_ v4 hs hr => ?_)
 have hfr := hfr.ext hs
 have q1 := q1.ext hs
 have r2 := r2.ext hs
 have o2 := o2.ext hs
 have r4 := hr
 refine EL_at v2 rfl rfl ?_
 refine EL_at v4 rfl rfl ?_
 refine EL_nil (thn_n ?_)
 obtain ⟨d4, hx, h⟩ := bsome h
 refine E_join (fun e w => ∃ (g : Gh) (v3 : Value), Fr gI wI g w ∧ e 3 = v3 ∧ RV g.m w (d4 : List FaultDamage) v3 ∧ OS 3011 g w 62 (d4 : List FaultDamage) v3) (fun Q' hQ => ?_) (fun eG aH hR => ?_)
 ·replace h := hx
  clear hx
  refine E_seq (E_region (EL_at (.int .i64 (1)) rfl rfl ?_))
  refine EL_nil (thn_n (E_block ?_))
  refine E_lp h (fun (s : (List FaultDamage) × Int) e w => ∃ (g : Gh) (v3 : Value), Fr gI wI g w ∧ e 1 = p1 ∧ PT g.m w (x0 : FaultLoom) p1 ∧ e 3 = v3 ∧ RV g.m w (s.1 : List FaultDamage) v3 ∧ OS 3011 g w 62 (s.1 : List FaultDamage) v3 ∧ e 4 = v4 ∧ RV g.m w (y5 : List Str) v4 ∧ e 5 = .int .i64 (s.2)) ⟨g4, (v2), hfr, rfl, q1, rfl, r2, o2, rfl, r4, rfl⟩ (fun X1299 o8 yD => ?_)
  rintro ⟨s2, j0⟩ gG bH ⟨d9, s3, hfr, o9, p9, z5, a6, b6, q9, r9, c6⟩ h
  refine E_joinC h (fun (s : Unit) e w => ∃ (g : Gh) , Fr gI wI g w ∧ e 1 = p1 ∧ PT g.m w (x0 : FaultLoom) p1 ∧ e 3 = s3 ∧ RV g.m w (s2 : List FaultDamage) s3 ∧ OS 3011 g w 62 (s2 : List FaultDamage) s3 ∧ e 4 = v4 ∧ RV g.m w (y5 : List Str) v4 ∧ e 5 = .int .i64 (j0)) (fun X1302 c9 zD h => ?_) ?_
  ·refine E_seq (E_region (EL_mv c6 rfl ?_))
   refine EL_in (.bool ((decide (j0 ≤ (5 : Int))))) rfl rfl rfl rfl ?_
   refine EL_nil (thn_n ?_)
   rcases csome h with ⟨n5, h⟩ | ⟨n5, h⟩
   ·refine E_ct n5 rfl ?_
    exact E_skip (thn_n (zD () _ _ ⟨d9, hfr, o9, p9, z5, a6, b6, q9, r9, c6⟩ h))
   ·refine E_cf n5 rfl ?_
    refine E_exit ?_
    refine thn_e ?_
    refine thn_e ?_
    refine blk_hit ?_
    obtain rfl := sinj h
    exact hQ _ _ ⟨d9, (s3), hfr, z5, a6, b6⟩
  ·rintro _ hG cH ⟨pE, hfr, s9, t9, u9, v9, x9, y9, z9, aA⟩ h
   obtain ⟨q3, hx, h⟩ := bsome h
   refine E_join (fun e w => ∃ (g : Gh) (v3 : Value), Fr gI wI g w ∧ e 1 = p1 ∧ PT g.m w (x0 : FaultLoom) p1 ∧ e 3 = v3 ∧ RV g.m w (q3 : List FaultDamage) v3 ∧ OS 3011 g w 62 (q3 : List FaultDamage) v3 ∧ e 4 = v4 ∧ RV g.m w (y5 : List Str) v4 ∧ e 5 = .int .i64 (j0)) (fun Q' hQ => ?_) (fun iG dH hR => ?_)
   ·replace h := hx
    clear hx
    refine E_block ?_
    refine E_seq (E_region (EL_at (.int .i64 (0)) rfl rfl ?_))
    refine EL_nil (thn_n (E_block ?_))
    refine E_lp h (fun (s : (List FaultDamage) × Int) e w => ∃ (g : Gh) (v3 : Value), Fr gI wI g w ∧ e 1 = p1 ∧ PT g.m w (x0 : FaultLoom) p1 ∧ e 3 = v3 ∧ RV g.m w (s.1 : List FaultDamage) v3 ∧ OS 3011 g w 62 (s.1 : List FaultDamage) v3 ∧ e 4 = v4 ∧ RV g.m w (y5 : List Str) v4 ∧ e 5 = .int .i64 (j0) ∧ e 6 = .int .i64 (s.2)) ⟨pE, (s3), hfr, s9, t9, u9, v9, x9, y9, z9, aA, rfl⟩ (fun X1948 p8 aE => ?_)
    rintro ⟨z2, n0⟩ jG gH ⟨g8, u3, hfr, q4, e4, d6, e6, i6, j6, k6, l6, m6⟩ h
    refine E_joinC h (fun (s : Unit) e w => ∃ (g : Gh) , Fr gI wI g w ∧ e 1 = p1 ∧ PT g.m w (x0 : FaultLoom) p1 ∧ e 3 = u3 ∧ RV g.m w (z2 : List FaultDamage) u3 ∧ OS 3011 g w 62 (z2 : List FaultDamage) u3 ∧ e 4 = v4 ∧ RV g.m w (y5 : List Str) v4 ∧ e 5 = .int .i64 (j0) ∧ e 6 = .int .i64 (n0)) (fun X1954 b9 bE h => ?_) ?_
    ·refine E_seq (E_region (EL_mv m6 rfl ?_))
     refine EL_pur (v := fPtr p1 2) (P_fieldAddr at_28_1 q4 (PT.ptr e4)) .plain rfl ?_
     have e9 := PT_field (part_FaultLoom_1).1 e4
     refine EL_pur (v := fPtr (fPtr p1 2) 1) (P_fieldAddr at_26_1 rfl (PT.ptr e9)) .plain rfl ?_
     have qE := PT_field (part_Design_1).1 e9
     refine EL_do .plain rfl (D_load (g := g8) Try.isAgg22 Try.sizeOf22 rfl qE fun iH rE => ?_)
     refine EL_pur (v := .int .i64 ((((x0).Design).Rows).length : Int)) (P_len Try.underlying22 rfl rE) .plain rfl ?_
     refine EL_pur (v := .bool ((decide (n0 < ((((x0).Design).Rows).length : Int))))) (P_int rfl rfl rfl) .plain rfl ?_
     refine EL_nil (thn_n ?_)
     rcases csome h with ⟨o5, h⟩ | ⟨o5, h⟩
     ·refine E_ct o5 rfl ?_
      exact E_skip (thn_n (bE () _ _ ⟨g8, hfr, q4, e4, d6, e6, i6, j6, k6, l6, m6⟩ h))
     ·refine E_cf o5 rfl ?_
      refine E_exit ?_
      refine thn_e ?_
      refine thn_e ?_
      refine blk_hit ?_
      refine blk_n ?_
      obtain rfl := sinj h
      exact hQ _ _ ⟨g8, (u3), hfr, q4, e4, d6, e6, i6, j6, k6, l6⟩
    ·rintro _ kG jH ⟨sE, hfr, bA, cA, dA, eA, gA, iA, jA, kA, lA⟩ h
     obtain ⟨p3, hx, h⟩ := bsome h
     refine E_join (fun e w => ∃ (g : Gh) (v3 : Value), Fr gI wI g w ∧ e 1 = p1 ∧ PT g.m w (x0 : FaultLoom) p1 ∧ e 3 = v3 ∧ RV g.m w (p3 : List FaultDamage) v3 ∧ OS 3011 g w 62 (p3 : List FaultDamage) v3 ∧ e 4 = v4 ∧ RV g.m w (y5 : List Str) v4 ∧ e 5 = .int .i64 (j0) ∧ e 6 = .int .i64 (n0)) (fun Q' hQ => ?_) (fun lG kH hR => ?_)
     ·replace h := hx
      clear hx
      refine E_block ?_
      refine E_seq (E_region (EL_at (.int .i64 (0)) rfl rfl ?_))
      refine EL_nil (thn_n (E_block ?_))
      refine E_lp h (fun (s : (List FaultDamage) × Int) e w => ∃ (g : Gh) (v3 : Value), Fr gI wI g w ∧ e 1 = p1 ∧ PT g.m w (x0 : FaultLoom) p1 ∧ e 3 = v3 ∧ RV g.m w (s.1 : List FaultDamage) v3 ∧ OS 3011 g w 62 (s.1 : List FaultDamage) v3 ∧ e 4 = v4 ∧ RV g.m w (y5 : List Str) v4 ∧ e 5 = .int .i64 (j0) ∧ e 6 = .int .i64 (n0) ∧ e 7 = .int .i64 (s.2)) ⟨sE, (u3), hfr, bA, cA, dA, eA, gA, iA, jA, kA, lA, rfl⟩ (fun X2275 q8 cE => ?_)
      rintro ⟨d3, o0⟩ mG lH ⟨i8, z3, hfr, s4, i4, n6, o6, p6, q6, r6, s6, t6, u6⟩ h
      refine E_joinC h (fun (s : Unit) e w => ∃ (g : Gh) , Fr gI wI g w ∧ e 1 = p1 ∧ PT g.m w (x0 : FaultLoom) p1 ∧ e 3 = z3 ∧ RV g.m w (d3 : List FaultDamage) z3 ∧ OS 3011 g w 62 (d3 : List FaultDamage) z3 ∧ e 4 = v4 ∧ RV g.m w (y5 : List Str) v4 ∧ e 5 = .int .i64 (j0) ∧ e 6 = .int .i64 (n0) ∧ e 7 = .int .i64 (o0)) (fun X2281 a9 dE h => ?_) ?_
      ·refine E_seq (E_region (EL_mv u6 rfl ?_))
       refine EL_pur (v := fPtr p1 2) (P_fieldAddr at_28_1 s4 (PT.ptr i4)) .plain rfl ?_
       have g9 := PT_field (part_FaultLoom_1).1 i4
       refine EL_pur (v := fPtr (fPtr p1 2) 0) (P_fieldAddr at_26_0 rfl (PT.ptr g9)) .plain rfl ?_
       have tE := PT_field (part_Design_0).1 g9
       refine EL_do .plain rfl (D_load (g := i8) Try.isAgg3 Try.sizeOf3 rfl tE fun mH uE => ?_)
       obtain rfl := RV_int.1 uE
       refine EL_in (.bool ((decide (o0 < ((x0).Design).Hooks)))) rfl rfl rfl rfl ?_
       refine EL_nil (thn_n ?_)
       rcases csome h with ⟨p5, h⟩ | ⟨p5, h⟩
       ·refine E_ct p5 rfl ?_
        exact E_skip (thn_n (dE () _ _ ⟨i8, hfr, s4, i4, n6, o6, p6, q6, r6, s6, t6, u6⟩ h))
       ·refine E_cf p5 rfl ?_
        refine E_exit ?_
        refine thn_e ?_
        refine thn_e ?_
        refine blk_hit ?_
        refine blk_n ?_
        obtain rfl := sinj h
        exact hQ _ _ ⟨i8, (z3), hfr, s4, i4, n6, o6, p6, q6, r6, s6, t6⟩
      ·rintro _ nG nH ⟨vE, hfr, mA, nA, oA, pA, qA, rA, sA, tA, uA, vA⟩ h
       obtain ⟨o3, hx, h⟩ := bsome h
       refine E_join (fun e w => ∃ (g : Gh) (v3 : Value), Fr gI wI g w ∧ e 1 = p1 ∧ PT g.m w (x0 : FaultLoom) p1 ∧ e 3 = v3 ∧ RV g.m w (o3 : List FaultDamage) v3 ∧ OS 3011 g w 62 (o3 : List FaultDamage) v3 ∧ e 4 = v4 ∧ RV g.m w (y5 : List Str) v4 ∧ e 5 = .int .i64 (j0) ∧ e 6 = .int .i64 (n0) ∧ e 7 = .int .i64 (o0)) (fun Q' hQ => ?_) (fun oG oH hR => ?_)
       ·replace h := hx
        clear hx
        refine E_block ?_
        refine E_seq (E_region (EL_at (.int .i64 (0)) rfl rfl ?_))
        refine EL_nil (thn_n (E_block ?_))
        refine E_lp h (fun (s : (List FaultDamage) × Int) e w => ∃ (g : Gh) (v3 : Value), Fr gI wI g w ∧ e 1 = p1 ∧ PT g.m w (x0 : FaultLoom) p1 ∧ e 3 = v3 ∧ RV g.m w (s.1 : List FaultDamage) v3 ∧ OS 3011 g w 62 (s.1 : List FaultDamage) v3 ∧ e 4 = v4 ∧ RV g.m w (y5 : List Str) v4 ∧ e 5 = .int .i64 (j0) ∧ e 6 = .int .i64 (n0) ∧ e 7 = .int .i64 (o0) ∧ e 8 = .int .i64 (s.2)) ⟨vE, (z3), hfr, mA, nA, oA, pA, qA, rA, sA, tA, uA, vA, rfl⟩ (fun X2438 r8 eE => ?_)
        rintro ⟨i3, u0⟩ pG pH ⟨j8, c4, hfr, u4, j4, v6, x6, y6, z6, a7, b7, c7, d7, e7⟩ h
        refine E_joinC h (fun (s : Unit) e w => ∃ (g : Gh) , Fr gI wI g w ∧ e 1 = p1 ∧ PT g.m w (x0 : FaultLoom) p1 ∧ e 3 = c4 ∧ RV g.m w (i3 : List FaultDamage) c4 ∧ OS 3011 g w 62 (i3 : List FaultDamage) c4 ∧ e 4 = v4 ∧ RV g.m w (y5 : List Str) v4 ∧ e 5 = .int .i64 (j0) ∧ e 6 = .int .i64 (n0) ∧ e 7 = .int .i64 (o0) ∧ e 8 = .int .i64 (u0)) (fun X2444 z8 gE h => ?_) ?_
        ·refine E_seq (E_region (EL_mv e7 rfl ?_))
         refine EL_pur (v := fPtr p1 0) (P_fieldAddr at_28_0 u4 (PT.ptr j4)) .plain rfl ?_
         have i9 := PT_field (part_FaultLoom_0).1 j4
         refine EL_pur (v := fPtr (fPtr p1 0) 1) (P_fieldAddr at_24_1 rfl (PT.ptr i9)) .plain rfl ?_
         have xE := PT_field (part_TieHarness_1).1 i9
         refine EL_do .plain rfl (D_load (g := j8) Try.isAgg22 Try.sizeOf22 rfl xE fun qH yE => ?_)
         refine EL_pur (v := .int .i64 ((((x0).Harness).Warps).length : Int)) (P_len Try.underlying22 rfl yE) .plain rfl ?_
         refine EL_pur (v := .bool ((decide (u0 < ((((x0).Harness).Warps).length : Int))))) (P_int rfl rfl rfl) .plain rfl ?_
         refine EL_nil (thn_n ?_)
         rcases csome h with ⟨q5, h⟩ | ⟨q5, h⟩
         ·refine E_ct q5 rfl ?_
          exact E_skip (thn_n (gE () _ _ ⟨j8, hfr, u4, j4, v6, x6, y6, z6, a7, b7, c7, d7, e7⟩ h))
         ·refine E_cf q5 rfl ?_
          refine E_exit ?_
          refine thn_e ?_
          refine thn_e ?_
          refine blk_hit ?_
          refine blk_n ?_
          obtain rfl := sinj h
          exact hQ _ _ ⟨j8, (c4), hfr, u4, j4, v6, x6, y6, z6, a7, b7, c7, d7⟩
        ·rintro _ qG sH ⟨zE, hfr, xA, yA, zA, aB, bB, cB, dB, eB, iB, jB, kB⟩ h
         obtain ⟨m3, hx, h⟩ := bsome h
         refine E_join (fun e w => ∃ (g : Gh) (v3 : Value), Fr gI wI g w ∧ e 1 = p1 ∧ PT g.m w (x0 : FaultLoom) p1 ∧ e 3 = v3 ∧ RV g.m w (m3 : List FaultDamage) v3 ∧ OS 3011 g w 62 (m3 : List FaultDamage) v3 ∧ e 4 = v4 ∧ RV g.m w (y5 : List Str) v4 ∧ e 5 = .int .i64 (j0) ∧ e 6 = .int .i64 (n0) ∧ e 7 = .int .i64 (o0) ∧ e 8 = .int .i64 (u0)) (fun Q' hQ => ?_) (fun rG tH hR => ?_)
         ·replace h := hx
          clear hx
          refine E_block ?_
          refine E_seq (E_region (EL_at (.int .i64 (0)) rfl rfl ?_))
          refine EL_nil (thn_n (E_block ?_))
          refine E_lp h (fun (s : (List FaultDamage) × Int) e w => ∃ (g : Gh) (v3 : Value), Fr gI wI g w ∧ e 1 = p1 ∧ PT g.m w (x0 : FaultLoom) p1 ∧ e 3 = v3 ∧ RV g.m w (s.1 : List FaultDamage) v3 ∧ OS 3011 g w 62 (s.1 : List FaultDamage) v3 ∧ e 4 = v4 ∧ RV g.m w (y5 : List Str) v4 ∧ e 5 = .int .i64 (j0) ∧ e 6 = .int .i64 (n0) ∧ e 7 = .int .i64 (o0) ∧ e 8 = .int .i64 (u0) ∧ e 9 = .int .i64 (s.2)) ⟨zE, (c4), hfr, xA, yA, zA, aB, bB, cB, dB, eB, iB, jB, kB, rfl⟩ (fun X2519 t8 iE => ?_)
          rintro ⟨i2, y0⟩ sG uH ⟨j9, j2, hfr, g7, i7, j7, l7, m7, n7, o7, p7, q7, r7, s7, t7⟩ h
          refine E_joinC h (fun (s : Unit) e w => ∃ (g : Gh) , Fr gI wI g w ∧ e 1 = p1 ∧ PT g.m w (x0 : FaultLoom) p1 ∧ e 3 = j2 ∧ RV g.m w (i2 : List FaultDamage) j2 ∧ OS 3011 g w 62 (i2 : List FaultDamage) j2 ∧ e 4 = v4 ∧ RV g.m w (y5 : List Str) v4 ∧ e 5 = .int .i64 (j0) ∧ e 6 = .int .i64 (n0) ∧ e 7 = .int .i64 (o0) ∧ e 8 = .int .i64 (u0) ∧ e 9 = .int .i64 (y0)) (fun X2522 y8 jE h => ?_) ?_
          ·refine E_seq (E_region (EL_mv t7 rfl ?_))
           refine EL_in (.bool ((decide (y0 < (2 : Int))))) rfl rfl rfl rfl ?_
           refine EL_nil (thn_n ?_)
           rcases csome h with ⟨t5, h⟩ | ⟨t5, h⟩
           ·refine E_ct t5 rfl ?_
            exact E_skip (thn_n (jE () _ _ ⟨j9, hfr, g7, i7, j7, l7, m7, n7, o7, p7, q7, r7, s7, t7⟩ h))
           ·refine E_cf t5 rfl ?_
            refine E_exit ?_
            refine thn_e ?_
            refine thn_e ?_
            refine blk_hit ?_
            refine blk_n ?_
            obtain rfl := sinj h
            exact hQ _ _ ⟨j9, (j2), hfr, g7, i7, j7, l7, m7, n7, o7, p7, q7, r7, s7⟩
          ·rintro _ tG aF ⟨k9, hfr, m4, i1, u7, z1, d2, x4, j1, z4, c5, d5, e5, i5⟩ h
           obtain ⟨j3, hx, h⟩ := bsome h
           refine E_join (fun e w => ∃ (g : Gh) (v3 : Value), Fr gI wI g w ∧ e 1 = p1 ∧ PT g.m w (x0 : FaultLoom) p1 ∧ e 3 = v3 ∧ RV g.m w (j3 : List FaultDamage) v3 ∧ OS 3011 g w 62 (j3 : List FaultDamage) v3 ∧ e 4 = v4 ∧ RV g.m w (y5 : List Str) v4 ∧ e 5 = .int .i64 (j0) ∧ e 6 = .int .i64 (n0) ∧ e 7 = .int .i64 (o0) ∧ e 8 = .int .i64 (u0) ∧ e 9 = .int .i64 (y0)) (fun Q' hQ => ?_) (fun uG vH hR => ?_)
           ·replace h := hx
            clear hx
            refine E_block ?_
            refine E_seq (E_region (EL_mv z4 rfl ?_))
            refine EL_mv c5 rfl ?_
            refine EL_mv d5 rfl ?_
            refine EL_mv e5 rfl ?_
            refine EL_mv i5 rfl ?_
            refine EL_in (.bool ((y0 == (1 : Int)))) rfl rfl rfl rfl ?_
            have l5 : RV k9.m aF (⟨j0, n0, o0, u0, (y0 == (1 : Int))⟩ : FaultDamage) (.agg (setCh [[.int .i64 0], [.int .i64 0], [.int .i64 0], [.int .i64 0], [.bool false]] [(0, .int .i64 (j0)), (1, .int .i64 (n0)), (2, .int .i64 (o0)), (3, .int .i64 (u0)), (4, .bool ((y0 == (1 : Int))))]).flatten.toArray) := RV_build rfl (rep_pair (rfl) (rep_pair (rfl) (rep_pair (rfl) (rep_pair (rfl) (rep_last (rfl))))))
            generalize kE : (Value.agg (setCh [[.int .i64 0], [.int .i64 0], [.int .i64 0], [.int .i64 0], [.bool false]] [(0, .int .i64 (j0)), (1, .int .i64 (n0)), (2, .int .i64 (o0)), (3, .int .i64 (u0)), (4, .bool ((y0 == (1 : Int))))]).flatten.toArray) = l9 at l5
            refine EL_pur (v := l9) (kE ▸ P_build (vs := [(0, .int .i64 (j0)), (1, .int .i64 (n0)), (2, .int .i64 (o0)), (3, .int .i64 (u0)), (4, .bool ((y0 == (1 : Int))))]) [[.int .i64 0], [.int .i64 0], [.int .i64 0], [.int .i64 0], [.bool false]] lay_62 rfl rfl (.cons rfl (.cons rfl (.cons rfl (.cons rfl (.cons rfl .nil))))) ⟨⟨_, rfl, rfl⟩, ⟨⟨_, rfl, rfl⟩, ⟨⟨_, rfl, rfl⟩, ⟨⟨_, rfl, rfl⟩, ⟨⟨_, rfl, rfl⟩, trivial⟩⟩⟩⟩⟩) .plain rfl ?_
            refine EL_do .plain rfl (D_allocOc (g := k9) 2010 (⟨0, 0, 0, 0, false⟩ : FaultDamage) Try.zeroValue62 (fun m w => ⟨_, (rep_two rep_int (rep_two rep_int (rep_two rep_int (rep_two rep_int rep_bool)))), rfl⟩) fun bF xH m9 hs b2557 cb => ?_)
            have hfr := hfr.stp hs
            have i1 := i1.stp hs
            have z1 := z1.stp hs
            have d2 := d2.stp hs rfl
            have j1 := j1.stp hs
            have l5 := l5.stp hs
            clear cb
            refine EL_do .plain rfl (D_storeOc (g := bF) (v := l9) Try.sizeOf62 rfl b2557 rfl l5 fun k8 yH hs b2558 cb => ?_)
            clear cb
            have hfr := hfr.stp hs
            have i1 := i1.stp hs
            have z1 := z1.stp hs
            have d2 := d2.stp hs rfl
            have j1 := j1.stp hs
            refine EL_nil (thn_n ?_)
            obtain ⟨q2, hx, h⟩ := bsome h
            refine E_join (fun e w => ∃ (g : Gh) , Fr gI wI g w ∧ e 1 = p1 ∧ PT g.m w (x0 : FaultLoom) p1 ∧ e 3 = j2 ∧ RV g.m w (i2 : List FaultDamage) j2 ∧ OS 3011 g w 62 (i2 : List FaultDamage) j2 ∧ e 4 = v4 ∧ RV g.m w (y5 : List Str) v4 ∧ e 5 = .int .i64 (j0) ∧ e 6 = .int .i64 (n0) ∧ e 7 = .int .i64 (o0) ∧ e 8 = .int .i64 (u0) ∧ e 9 = .int .i64 (y0) ∧ e 10 = m9 ∧ OB 2010 g w 62 ((⟨j0, n0, o0, u0, (y0 == (1 : Int))⟩ : FaultDamage) : FaultDamage) m9 ∧ e 62 = .bool (q2)) (fun Q' hQ => ?_) (fun vG zH hR => ?_)
            ·replace h := hx
             clear hx
             refine E_region (EL_do .plain rfl (D_load (g := k8) Try.isAgg28 Try.sizeOf28 m4 i1 fun cF dF => ?_))
             refine EL_do .plain rfl (D_loadO (g := k8) Try.isAgg62 Try.sizeOf62 rfl b2558 fun eF gF => ?_)
             obtain ⟨p4, lE, h⟩ := bsome h
             refine EL_do .plain rfl (D_call (g := k8) (vs := [cF, eF]) en59 (.cons rfl (.cons rfl .nil)) (wk59 dF gF lE) fun m5 xG aI hs hr => ?_)
             have hfr := hfr.ext hs
             have i1 := i1.ext hs
             have z1 := z1.ext hs
             have d2 := d2.ext hs
             have j1 := j1.ext hs
             have b2558 := b2558.ext hs
             subst hr
             refine EL_mw (.bool (p4)) rfl rfl ?_
             rcases csome h with ⟨m1, h⟩ | ⟨m1, h⟩
             ·refine EL_do (.yes2 rfl rfl m1) rfl (D_load (g := m5) Try.isAgg28 Try.sizeOf28 m4 i1 fun iF jF => ?_)
              refine EL_do (.yes2 rfl rfl m1) rfl (D_loadO (g := m5) Try.isAgg62 Try.sizeOf62 rfl b2558 fun kF lF => ?_)
              obtain ⟨v8, mE, h⟩ := bsome h
              refine EL_do (.yes2 rfl rfl m1) rfl (D_call (g := m5) (vs := [iF, kF]) en36 (.cons rfl (.cons rfl .nil)) (wk36 jF lF mE) fun mF yG nF hs hr => ?_)
              have hfr := hfr.ext hs
              have i1 := i1.ext hs
              have z1 := z1.ext hs
              have d2 := d2.ext hs
              have j1 := j1.ext hs
              have b2558 := b2558.ext hs
              have oF := hr
              refine EL_pur (v := v4) (P_move x4) (.yes2 rfl rfl m1) rfl ?_
              obtain ⟨j5, nE, h⟩ := bsome h
              refine EL_do (.yes2 rfl rfl m1) rfl (D_call (g := mF) (vs := [nF, v4]) en27 (.cons rfl (.cons rfl .nil)) (wk27 oF j1 nE) fun pF zG bI hs hr => ?_)
              have hfr := hfr.ext hs
              have i1 := i1.ext hs
              have z1 := z1.ext hs
              have d2 := d2.ext hs
              have j1 := j1.ext hs
              have b2558 := b2558.ext hs
              subst hr
              refine EL_pur (v := .bool (!j5)) (P_not rfl) (.yes2 rfl rfl m1) rfl ?_
              refine EL_pur (v := .bool (!j5)) (P_pick (b := p4) rfl (pick_t m1 rfl)) .plain rfl ?_
              refine EL_nil ?_
              obtain rfl := sinj h
              exact hQ _ _ ⟨pF, hfr, m4, i1, u7, z1, d2, x4, j1, z4, c5, d5, e5, i5, rfl, b2558, rfl⟩
             ·refine EL_skip (.no2 rfl rfl m1 rfl) rfl ?_
              refine EL_skip (.no2 rfl rfl m1 rfl) rfl ?_
              refine EL_skip (.no2 rfl rfl m1 rfl) rfl ?_
              refine EL_skip (.no2 rfl rfl m1 rfl) rfl ?_
              refine EL_skip (.no2 rfl rfl m1 rfl) rfl ?_
              refine EL_skip (.no2 rfl rfl m1 rfl) rfl ?_
              refine EL_pur (v := .bool false) (P_pick (b := p4) rfl (pick_f m1 rfl)) .plain rfl ?_
              refine EL_nil ?_
              obtain rfl := sinj h
              exact hQ _ _ ⟨m5, hfr, m4, i1, u7, z1, d2, x4, j1, z4, c5, d5, e5, i5, rfl, b2558, rfl⟩
            ·clear hx
             obtain ⟨l8, hfr, v7, m2, x7, n4, o4, y7, p2, z7, a8, b8, c8, d8, m8, n8, u5⟩ := hR
             rcases csome h with ⟨x5, h⟩ | ⟨x5, h⟩
             ·refine E_cond_true (Eq.trans (show ev _ _ = .bool (q2) from u5) (congrArg Value.bool x5)) ?_
              refine E_region (EL_mv x7 rfl ?_)
              refine EL_do .plain rfl (D_loadO (g := l8) Try.isAgg62 Try.sizeOf62 m8 n8 fun qF rF => ?_)
              refine EL_do .plain rfl (D_buildSlice (g := l8) 3065 (xs := ([(⟨j0, n0, o0, u0, (y0 == (1 : Int))⟩ : FaultDamage)] : List FaultDamage)) (vs := [qF]) Try.underlying29 Try.sizeOf62 Try.zeroValue62 rfl rfl (.cons rfl .nil) (RVs.cons rF RVs.nil) rfl rfl fun sF cI dI hs o2584 tF hxt hfl => ?_)
              have hfr := hfr.stp hs
              have m2 := m2.stp hs
              have n4 := n4.stp hs
              have o4 := o4.stp hs rfl
              have p2 := p2.stp hs
              obtain ⟨x8, oE, h⟩ := bsome h
              refine EL_do .plain rfl (D_append (g := sF) (i := 3011) Try.underlying29 info_62 rfl rfl o4 n4 rfl tF oE fun uF eI n9 hs o2585 vF _ => ?_)
              have hfr := hfr.stp hs
              have m2 := m2.stp hs
              have p2 := p2.stp hs
              refine EL_at n9 rfl rfl ?_
              refine EL_nil (blk_n ?_)
              obtain rfl := sinj h
              exact hQ _ _ ⟨uF, (n9), hfr, v7, m2, rfl, vF, o2585, y7, p2, z7, a8, b8, c8, d8⟩
             ·refine E_cond_false (Eq.trans (show ev _ _ = .bool (q2) from u5) (congrArg Value.bool x5)) ?_
              refine E_skip (blk_n ?_)
              obtain rfl := sinj h
              exact hQ _ _ ⟨l8, (j2), hfr, v7, m2, x7, n4, o4, y7, p2, z7, a8, b8, c8, d8⟩
           ·clear hx
            obtain ⟨xF, lB, hfr, mB, nB, oB, pB, qB, rB, sB, tB, uB, vB, xB, yB⟩ := hR
            refine E_region (EL_mv yB rfl ?_)
            refine EL_in (.int .i64 ((w64 (y0 + (1 : Int))))) rfl rfl rfl rfl ?_
            refine EL_at (.int .i64 ((w64 (y0 + (1 : Int))))) rfl rfl ?_
            exact EL_nil (thn_n (iE (j3, (w64 (y0 + (1 : Int)))) _ _ ⟨xF, (lB), hfr, mB, nB, oB, pB, qB, rB, sB, tB, uB, vB, xB, rfl⟩ h))
         ·clear hx
          obtain ⟨yF, zB, hfr, aC, bC, cC, dC, eC, iC, jC, kC, lC, mC, nC⟩ := hR
          refine E_region (EL_mv nC rfl ?_)
          refine EL_in (.int .i64 ((w64 (u0 + (1 : Int))))) rfl rfl rfl rfl ?_
          refine EL_at (.int .i64 ((w64 (u0 + (1 : Int))))) rfl rfl ?_
          exact EL_nil (thn_n (eE (m3, (w64 (u0 + (1 : Int)))) _ _ ⟨yF, (zB), hfr, aC, bC, cC, dC, eC, iC, jC, kC, lC, mC, rfl⟩ h))
       ·clear hx
        obtain ⟨zF, oC, hfr, pC, qC, rC, sC, tC, uC, vC, xC, yC, zC⟩ := hR
        refine E_region (EL_mv zC rfl ?_)
        refine EL_in (.int .i64 ((w64 (o0 + (1 : Int))))) rfl rfl rfl rfl ?_
        refine EL_at (.int .i64 ((w64 (o0 + (1 : Int))))) rfl rfl ?_
        exact EL_nil (thn_n (cE (o3, (w64 (o0 + (1 : Int)))) _ _ ⟨zF, (oC), hfr, pC, qC, rC, sC, tC, uC, vC, xC, yC, rfl⟩ h))
     ·clear hx
      obtain ⟨aG, aD, hfr, bD, cD, dD, eD, gD, iD, jD, kD, lD⟩ := hR
      refine E_region (EL_mv lD rfl ?_)
      refine EL_in (.int .i64 ((w64 (n0 + (1 : Int))))) rfl rfl rfl rfl ?_
      refine EL_at (.int .i64 ((w64 (n0 + (1 : Int))))) rfl rfl ?_
      exact EL_nil (thn_n (aE (p3, (w64 (n0 + (1 : Int)))) _ _ ⟨aG, (aD), hfr, bD, cD, dD, eD, gD, iD, jD, kD, rfl⟩ h))
   ·clear hx
    obtain ⟨bG, mD, hfr, nD, oD, pD, qD, rD, sD, tD, uD⟩ := hR
    refine E_region (EL_mv uD rfl ?_)
    refine EL_in (.int .i64 ((w64 (j0 + (1 : Int))))) rfl rfl rfl rfl ?_
    refine EL_at (.int .i64 ((w64 (j0 + (1 : Int))))) rfl rfl ?_
    exact EL_nil (thn_n (yD (q3, (w64 (j0 + (1 : Int)))) _ _ ⟨bG, (mD), hfr, nD, oD, pD, qD, rD, sD, tD, rfl⟩ h))
 ·clear hx
  obtain ⟨iI, e8, hfr, vD, xD, cG⟩ := hR
  refine E_seq (E_region (EL_mv vD rfl ?_))
  refine EL_at e8 rfl rfl ?_
  refine EL_nil (thn_n (E_ret ?_))
  obtain rfl := sinj h
  exact end1 rfl rfl (show _ = e8 from rfl) ⟨_, hfr, xD⟩
theorem v82_0 {iO : Nat} {gI : Gh} {wI : World} {x0 : TieHarness} {x1 : Design} {up0 : Value} (rp0 : RV gI.m wI x0 up0) {up1 : Value} (rp1 : RV gI.m wI x1 up1) {r : (List Str) × Int} (h : f82 x0 x1 = some r) : FnG Try.prog 82 #[up0, up1] gI wI (fun g w v => ∃ y0 y1, v = .tuple #[y0, y1] ∧ OM iO g w 9 (r.1) y0 ∧ y1 = .int .i64 (r.2)) := by
 unfold f82 at h
 refine fnG_of_E Try.func82 rfl (Nat.le_of_ble_eq_true rfl) fun g0 hm hfr => ?_
 have rp0 : RV g0.m wI x0 up0 := hm ▸ rp0
 have rp1 : RV g0.m wI x1 up1 := hm ▸ rp1
 show E _ 43 none _ _ _ _ _
 refine E_seq (E_region (EL_do .plain rfl (D_box (g := g0) rfl rp0 fun g1 w1 p1 hs q1 => ?_)))
 have hfr := hfr.ext hs
 have rp1 := rp1.ext hs
 refine EL_do .plain rfl (D_box (g := g1) rfl rp1 fun g2 w2 p2 hs q2 => ?_)
 have hfr := hfr.ext hs
 have q1 := q1.ext hs
 refine EL_at (.slice none 0 0) rfl rfl ?_
 refine EL_at (.int .i64 (0)) rfl rfl ?_
 refine EL_nil (thn_n (E_joinC h (fun (s : (List Str)) e w => ∃ (g : Gh) (v4 : Value), Fr gI wI g w ∧ e 2 = p1 ∧ PT g.m w (x0 : TieHarness) p1 ∧ e 3 = p2 ∧ PT g.m w (x1 : Design) p2 ∧ e 4 = v4 ∧ RV g.m w (s : List Str) v4 ∧ OS 1004 g w 9 (s : List Str) v4) (fun X7 k7 u6 h => ?_) ?_))
 ·refine E_seq (E_region (EL_do .plain rfl (D_load (g := g2) Try.isAgg24 Try.sizeOf24 rfl q1 fun v8 r8 => ?_)))
  obtain ⟨i2, n6, h⟩ := bsome h
  refine EL_do .plain rfl (D_call (g := g2) (vs := [v8]) en73 (.cons rfl .nil) (wk73 r8 n6) fun g9 w9_ v9 hs hr => ?_)
  have hfr := hfr.ext hs
  have q1 := q1.ext hs
  have q2 := q2.ext hs
  subst hr
  refine EL_at (.int .i64 (i2)) rfl rfl ?_
  refine EL_nil (thn_n (E_seq (E_region (EL_mw (.int .i64 (i2)) rfl rfl ?_))))
  refine EL_in (.bool ((i2 != (0 : Int)))) rfl rfl rfl rfl ?_
  refine EL_nil (thn_n ?_)
  rcases csome h with ⟨o3, h⟩ | ⟨o3, h⟩
  ·refine E_ct o3 rfl ?_
   refine E_seq (E_region (EL_mw (.int .i64 (i2)) rfl rfl ?_))
   refine EL_at (.slice none 0 0) rfl rfl ?_
   refine EL_at (.int .i64 (i2)) rfl rfl ?_
   refine EL_nil (thn_n (E_ret (thn_r ?_)))
   obtain rfl := sinj h
   obtain ⟨gh, hxh, homh⟩ := OM.handn (i := iO) (t := 9) (α := Str) hfr
   exact end2 rfl rfl (show _ = .slice none 0 0 from rfl) (show _ = .int .i64 (i2) from rfl) ⟨gh, hxh, _, _, rfl, homh, rfl⟩
  ·refine E_cf o3 rfl ?_
   exact E_skip (thn_n (u6 ([]) _ _ ⟨g9, (.slice none 0 0), hfr, rfl, q1, rfl, q2, rfl, RV_nil, OS.nil⟩ h))
 ·rintro x4 q7 y7 ⟨c6, z4, hfr, u3, m1, j2, u0, c5, m2, s2⟩ h
  refine E_joinC h (fun (s : (List Str)) e w => ∃ (g : Gh) (v4 : Value), Fr gI wI g w ∧ e 2 = p1 ∧ PT g.m w (x0 : TieHarness) p1 ∧ e 3 = p2 ∧ PT g.m w (x1 : Design) p2 ∧ e 4 = v4 ∧ RV g.m w (s : List Str) v4 ∧ OS 1004 g w 9 (s : List Str) v4) (fun X22 z7 o6 h => ?_) ?_
  ·refine E_seq (E_region (EL_do .plain rfl (D_load (g := c6) Try.isAgg26 Try.sizeOf26 j2 u0 fun v6 x6 => ?_)))
   obtain ⟨z1, p6, h⟩ := bsome h
   refine EL_do .plain rfl (D_call (g := c6) (vs := [v6]) en74 (.cons rfl .nil) (wk74 x6 p6) fun j4 r7 a8 hs hr => ?_)
   have hfr := hfr.ext hs
   have m1 := m1.ext hs
   have u0 := u0.ext hs
   have m2 := m2.ext hs
   have s2 := s2.ext hs
   subst hr
   refine EL_at (.int .i64 (z1)) rfl rfl ?_
   refine EL_nil (thn_n (E_block ?_))
   refine E_seq (E_region (EL_mw (.int .i64 (z1)) rfl rfl ?_))
   refine EL_in (.bool ((z1 != (0 : Int)))) rfl rfl rfl rfl ?_
   refine EL_at (.bool ((z1 != (0 : Int)))) rfl rfl ?_
   refine EL_nil (thn_n ?_)
   rcases csome h with ⟨p3, h⟩ | ⟨p3, h⟩
   ·refine E_ct p3 rfl ?_
    refine E_seq (E_region (EL_mw (.int .i64 (z1)) rfl rfl ?_))
    refine EL_at (.slice none 0 0) rfl rfl ?_
    refine EL_at (.int .i64 (z1)) rfl rfl ?_
    refine EL_nil (thn_n (E_ret (blk_r ?_)))
    refine thn_r ?_
    obtain rfl := sinj h
    obtain ⟨gh, hxh, homh⟩ := OM.handn (i := iO) (t := 9) (α := Str) hfr
    exact end2 rfl rfl (show _ = .slice none 0 0 from rfl) (show _ = .int .i64 (z1) from rfl) ⟨gh, hxh, _, _, rfl, homh, rfl⟩
   ·refine E_cf p3 rfl ?_
    refine E_seq (E_region (EL_pur (v := fPtr p2 0) (P_fieldAddr at_26_0 j2 (PT.ptr u0)) .plain rfl ?_))
    have y6 := PT_field (part_Design_0).1 u0
    refine EL_do .plain rfl (D_load (g := j4) Try.isAgg3 Try.sizeOf3 rfl y6 fun b8 z6 => ?_)
    obtain rfl := RV_int.1 z6
    refine EL_pur (v := fPtr p1 0) (P_fieldAddr at_24_0 u3 (PT.ptr m1)) .plain rfl ?_
    have a7 := PT_field (part_TieHarness_0).1 m1
    refine EL_do .plain rfl (D_load (g := j4) Try.isAgg3 Try.sizeOf3 rfl a7 fun c8 b7 => ?_)
    obtain rfl := RV_int.1 b7
    refine EL_in (.bool (((x1).Hooks != (x0).Hooks))) rfl rfl rfl rfl ?_
    refine EL_at (.bool (((x1).Hooks != (x0).Hooks))) rfl rfl ?_
    refine EL_nil (thn_n ?_)
    rcases csome h with ⟨q3, h⟩ | ⟨q3, h⟩
    ·refine E_ct q3 rfl ?_
     refine E_seq (E_region (EL_at (.slice none 0 0) rfl rfl ?_))
     refine EL_at (.int .i64 (4)) rfl rfl ?_
     refine EL_nil (thn_n (E_ret (blk_r ?_)))
     refine thn_r ?_
     obtain rfl := sinj h
     obtain ⟨gh, hxh, homh⟩ := OM.handn (i := iO) (t := 9) (α := Str) hfr
     exact end2 rfl rfl (show _ = .slice none 0 0 from rfl) (show _ = .int .i64 (4) from rfl) ⟨gh, hxh, _, _, rfl, homh, rfl⟩
    ·refine E_cf q3 rfl ?_
     exact E_skip (blk_n (thn_n (o6 (x4) _ _ ⟨j4, (z4), hfr, u3, m1, j2, u0, c5, m2, s2⟩ h)))
  ·rintro o7 s7 d8 ⟨d6, d5, hfr, e5, i5, j5, z3, l5, m5, n5⟩ h
   obtain ⟨c4, hx, h⟩ := bsome h
   refine E_join (fun e w => ∃ (g : Gh) (v4 : Value), Fr gI wI g w ∧ e 4 = v4 ∧ RV g.m w (c4 : List Str) v4 ∧ OS 1004 g w 9 (c4 : List Str) v4) (fun Q' hQ => ?_) (fun t7 e8 hR => ?_)
   ·replace h := hx
    clear hx
    refine E_seq (E_region (EL_pur (v := fPtr p2 1) (P_fieldAddr at_26_1 j5 (PT.ptr z3)) .plain rfl ?_))
    have c7 := PT_field (part_Design_1).1 z3
    refine EL_do .plain rfl (D_load (g := d6) Try.isAgg22 Try.sizeOf22 rfl c7 fun d3 e6 => ?_)
    refine EL_pur (v := .int .i64 (((x1).Rows).length : Int)) (P_len Try.underlying22 rfl e6) .plain rfl ?_
    refine EL_mw (.int .i64 (0)) rfl rfl ?_
    refine EL_nil (thn_n (E_block ?_))
    refine E_lp h (fun (s : (List Str) × Int) e w => ∃ (g : Gh) (v4 : Value), Fr gI wI g w ∧ e 2 = p1 ∧ PT g.m w (x0 : TieHarness) p1 ∧ e 4 = v4 ∧ RV g.m w (s.1 : List Str) v4 ∧ OS 1004 g w 9 (s.1 : List Str) v4 ∧ e 28 = d3 ∧ RV g.m w ((x1).Rows : List Int) d3 ∧ e 29 = .int .i64 ((((x1).Rows).length : Int)) ∧ e 30 = .int .i64 (s.2)) ⟨d6, (d5), hfr, e5, i5, l5, m5, n5, rfl, e6, rfl, rfl⟩ (fun X61 g8 q6 => ?_)
    rintro ⟨p7, o0⟩ u7 i8 ⟨i3, o5, hfr, d4, n0, e4, i1, j1, j3, j0, m3, d2⟩ h
    refine E_seq (E_region (EL_pur (v := .bool ((decide (o0 < (((x1).Rows).length : Int))))) (P_int d2 m3 rfl) .plain rfl ?_))
    refine EL_nil (thn_n (E_seq ?_))
    rcases csome h with ⟨s3, h⟩ | ⟨s3, h⟩
    ·refine E_ct s3 rfl ?_
     refine E_skip (thn_n ?_)
     obtain ⟨z2, hx, h⟩ := bsome h
     refine E_join (fun e w => ∃ (g : Gh) (v4 : Value), Fr gI wI g w ∧ e 2 = p1 ∧ PT g.m w (x0 : TieHarness) p1 ∧ e 4 = v4 ∧ RV g.m w (z2 : List Str) v4 ∧ OS 1004 g w 9 (z2 : List Str) v4 ∧ e 28 = d3 ∧ RV g.m w ((x1).Rows : List Int) d3 ∧ e 29 = .int .i64 ((((x1).Rows).length : Int)) ∧ e 30 = .int .i64 (o0)) (fun Q' hQ => ?_) (fun v7 j8 hR => ?_)
     ·replace h := hx
      clear hx
      refine E_block ?_
      refine E_seq (E_region ?_)
      obtain ⟨m4, n4, h⟩ := bsome h
      refine EL_pur (v := ePtr d3 o0 1) (P_indexAddr (α := Int) Try.underlying22 Try.sizeOf3 j3 j0 d2 n4) .plain rfl ?_
      have d7 := PT_idx j0 n4
      refine EL_do .plain rfl (D_load (g := i3) Try.isAgg3 Try.sizeOf3 rfl d7 fun k8 e7 => ?_)
      obtain rfl := RV_int.1 e7
      refine EL_at (.int .i64 (m4)) rfl rfl ?_
      refine EL_nil (thn_n (E_region (EL_mv e4 rfl ?_)))
      refine EL_do .plain rfl (D_load (g := i3) Try.isAgg24 Try.sizeOf24 d4 n0 fun o4 i6 => ?_)
      have j6 : RV i3.m _ (⟨x0⟩ : TieTieHarness) (.agg (setCh [[.int .i64 0, .slice none 0 0]] [(0, o4)]).flatten.toArray) := RV_build rfl (rep_last (RV.cells i6))
      generalize r6 : (Value.agg (setCh [[.int .i64 0, .slice none 0 0]] [(0, o4)]).flatten.toArray) = k6 at j6
      refine EL_pur (v := k6) (r6 ▸ P_build (vs := [(0, o4)]) [[.int .i64 0, .slice none 0 0]] lay_145 rfl rfl (.cons rfl .nil) ⟨⟨_, rfl, cells_size i6⟩, trivial⟩) .plain rfl ?_
      refine EL_mw (.int .i64 (m4)) rfl rfl ?_
      obtain ⟨l6, s6, h⟩ := bsome h
      refine EL_do .plain rfl (D_call (g := i3) (vs := [k6, .int .i64 (m4)]) en102 (.cons rfl (.cons rfl .nil)) (wk102 j6 s6) fun g7 x7 l8 hs hr => ?_)
      have hfr := hfr.ext hs
      have n0 := n0.ext hs
      have i1 := i1.ext hs
      have j1 := j1.ext hs
      have j0 := j0.ext hs
      subst hr
      refine EL_do .plain rfl (D_buildSlice (g := g7) 3039 (xs := ([l6] : List Str)) (vs := [Str.v (l6)]) Try.underlying36 Try.sizeOf9 Try.zeroValue9 rfl rfl (.cons rfl .nil) (RVs.cons (RV_str.2 rfl) RVs.nil) rfl rfl fun i7 m8 n8 hs o81 j7 hxt hfl => ?_)
      have hfr := hfr.stp hs
      have n0 := n0.stp hs
      have i1 := i1.stp hs
      have j1 := j1.stp hs rfl
      have j0 := j0.stp hs
      obtain ⟨o8, t6, h⟩ := bsome h
      refine EL_do .plain rfl (D_append (g := i7) (i := 1004) Try.underlying36 info_9 rfl rfl j1 i1 rfl j7 t6 fun l7 p8 m6 hs o82 m7 _ => ?_)
      have hfr := hfr.stp hs
      have n0 := n0.stp hs
      have j0 := j0.stp hs
      refine EL_at m6 rfl rfl ?_
      refine EL_nil (blk_n ?_)
      obtain rfl := sinj h
      exact hQ _ _ ⟨l7, (m6), hfr, d4, n0, rfl, m7, o82, j3, j0, m3, d2⟩
     ·clear hx
      obtain ⟨n7, p5, hfr, q5, t5, u5, x5, y5, p4, q4, s4, u4⟩ := hR
      refine E_region (EL_in (.int .i64 ((w64 (o0 + (1 : Int))))) u4 rfl rfl rfl ?_)
      refine EL_mw (.int .i64 ((w64 (o0 + (1 : Int))))) rfl rfl ?_
      exact EL_nil (thn_n (q6 (z2, (w64 (o0 + (1 : Int)))) _ _ ⟨n7, (p5), hfr, q5, t5, u5, x5, y5, p4, q4, s4, rfl⟩ h))
    ·refine E_cf s3 rfl ?_
     refine E_exit ?_
     refine thn_e ?_
     refine thn_e ?_
     refine blk_hit ?_
     obtain rfl := sinj h
     exact hQ _ _ ⟨i3, (o5), hfr, e4, i1, j1⟩
   ·clear hx
    obtain ⟨q8, i4, hfr, z5, a6, b6⟩ := hR
    refine E_seq (E_region (EL_mv z5 rfl ?_))
    refine EL_at i4 rfl rfl ?_
    refine EL_at (.int .i64 (0)) rfl rfl ?_
    refine EL_nil (thn_n (E_ret ?_))
    obtain rfl := sinj h
    obtain ⟨gh, hxh, homh⟩ := OM.hand (i := iO) plain_str hfr b6 a6
    exact end2 rfl rfl (show _ = i4 from rfl) (show _ = .int .i64 (0) from rfl) ⟨gh, hxh, _, _, rfl, homh, rfl⟩
/-- (griffe/fault.loom).round -/
def f55 (x0 : FaultFaultLoom) (x1 : List FaultDamage) : Option ((List Str)) :=
 (f76 ((((x0).FaultLoom).Design).Rows)).bind fun y7 =>
 (f77 x1).bind fun y8 =>
 (f78 y8 ((fun a0 a1 => f79 a0 a1))).bind fun p3 =>
 Option.bind (α := (List Int) × (List (Int × Bool))) (
  lp (σ := (List Int) × (List (Int × Bool)) × Int) (fun z8 (j5, l5, o0) =>
   bif (decide (o0 < ((p3).length : Int))) then
    Option.bind (α := (List Int) × (List (Int × Bool))) (
     (idx p3 o0).bind fun b7 =>
     (fchg ((b7).Kind) x0 b7 j5 l5).bind fun c7 =>
     some (c7.1, c7.2)
     ) fun (e4, i4) =>
    z8 (e4, i4, (w64 (o0 + (1 : Int))))
   else
    some (j5, l5)
   ) big (y7, ([] : List (Int × Bool)), (0 : Int))
  ) fun (j4, p2) =>
 (f82 (((x0).FaultLoom).Harness) ((⟨(((x0).FaultLoom).Design).Hooks, j4⟩ : Design))).bind fun s2 =>
 Option.bind (α := (List Str)) (
  lp (σ := (List Str) × Int) (fun d7 (m1, j0) =>
   bif (decide (j0 < ((s2.1).length : Int))) then
    Option.bind (α := (List Str)) (
     (idx m1 j0).bind fun n4 =>
     Option.bind (α := (List UInt8)) (
      lp (σ := (List UInt8) × (List (Int × Bool))) (fun k156 (z1, z3) =>
       bif z3.isEmpty then
        some (z1)
       else pickAll z3 fun z2 rm158 =>
        (idx z1 z2.1).bind fun _j9 =>
        k156 ((List.set z1 (Int.toNat z2.1) ((46 : UInt8))), rm158)
       ) big ((n4).b, p2)
      ) fun d3 =>
     (idx m1 j0).bind fun _k9 =>
     some ((List.set m1 (Int.toNat j0) ((⟨d3⟩ : Str))))
     ) fun s3 =>
    d7 (s3, (w64 (j0 + (1 : Int))))
   else
    some (m1)
   ) big (s2.1, (0 : Int))
  ) fun o4 =>
 some (o4)
theorem en55 : Enters Try.prog 55 := enters_of Try.func55 (by kernel_rfl) rfl
theorem wk55 {gI : Gh} {wI : World} {x0 : FaultFaultLoom} {x1 : List FaultDamage} {up0 : Value} (rp0 : RV gI.m wI x0 up0) {up1 : Value} (rp1 : RV gI.m wI x1 up1) {r : (List Str)} (h : f55 x0 x1 = some r) : Fn Try.prog 55 #[up0, up1] gI wI (fun m w v => RV m w (r) v) := by
 unfold f55 at h
 refine fn_of_E Try.func55 rfl (Nat.le_of_ble_eq_true rfl) fun g0 hm hfr => ?_
 have rp0 : RV g0.m wI x0 up0 := hm ▸ rp0
 have rp1 : RV g0.m wI x1 up1 := hm ▸ rp1
 show E _ 79 none _ _ _ _ _
 refine E_seq (E_region (EL_do .plain rfl (D_box (g := g0) rfl rp0 fun g1 w1 p1 hs q1 => ?_)))
 have hfr := hfr.ext hs
 have rp1 := rp1.ext hs
 refine EL_at (.slice none 0 0) rfl rfl ?_
 refine EL_nil (thn_n (E_seq (E_region (EL_pur (v := fPtr p1 0) (P_fieldAddr at_98_0 rfl (PT.ptr q1)) .plain rfl ?_))))
 have q2 := PT_field (part_FaultFaultLoom_0).1 q1
 refine EL_pur (v := fPtr (fPtr p1 0) 2) (P_fieldAddr at_28_1 rfl (PT.ptr q2)) .plain rfl ?_
 have q3 := PT_field (part_FaultLoom_1).1 q2
 refine EL_pur (v := fPtr (fPtr (fPtr p1 0) 2) 1) (P_fieldAddr at_26_1 rfl (PT.ptr q3)) .plain rfl ?_
 have q4 := PT_field (part_Design_1).1 q3
 refine EL_do .plain rfl (D_load (g := g1) Try.isAgg22 Try.sizeOf22 rfl q4 fun v5 r5 => ?_)
 obtain ⟨y7, eA, h⟩ := bsome h
 refine EL_do .plain rfl (D_callG (g := g1) (vs := [v5]) en76 (.cons rfl .nil) (v76_0 (iO := 9018) r5 eA) fun g6 w6_ v6 hs hr => ?_)
 have hfr := hfr.ext hs
 have rp1 := rp1.ext hs
 have q1 := q1.ext hs
 have hm6 := hr
 refine EL_do .plain rfl (D_makeMap (g := g6) (Value.int .i64) Bool 8019 fun g8 w8 v8 hs m8 => ?_)
 have hfr := hfr.stp hs
 have rp1 := rp1.stp hs
 have q1 := q1.stp hs
 have hm6 := hm6.stp hs rfl
 refine EL_at v6 rfl rfl ?_
 refine EL_at v8 rfl rfl ?_
 refine EL_nil (thn_n (E_seq (E_region (EL_mw up1 rfl rfl ?_))))
 obtain ⟨y8, l9, h⟩ := bsome h
 refine EL_do .plain rfl (D_callG (g := g8) (vs := [up1]) en77 (.cons rfl .nil) (v77_0 (iO := 9021) rp1 l9) fun g9 w9_ v9 hs hr => ?_)
 have hfr := hfr.ext hs
 have q1 := q1.ext hs
 have hm6 := hm6.ext hs
 have m8 := m8.ext hs
 have hm9 := hr
 refine EL_at v9 rfl rfl ?_
 refine EL_nil (thn_n (E_seq (E_region (EL_mw v9 rfl rfl ?_))))
 obtain ⟨p3, m9, h⟩ := bsome h
 refine EL_do .plain rfl (D_callM (g := g9) (i := 9021) (vs := [v9, .func (.func 79) #[] #[]]) en78 (.cons rfl (.cons rfl .nil)) (wk78 hm9 ⟨79, #[], #[], rfl, en79, fun g' w' hch a0 a1 b0 b1 r hu0 hu1 hr => by exact Fn.mono (wk79 hu0 hu1  hr) fun _ _ _ h => RV_int.2 h⟩ m9) fun gA dB xB hs hr => ?_)
 obtain ⟨hrv, b11⟩ := hr
 subst hrv
 have hfr := hfr.stp hs
 have q1 := q1.stp hs
 have hm6 := hm6.stp hs rfl
 have m8 := m8.stp hs rfl
 refine EL_nil (thn_n (E_seq (E_region (EL_do .plain rfl (D_callG (g := gA) (vs := []) en81 .nil (wk81 (i := 8800)) fun iA yB t5 hs m13 => ?_)))))
 have hfr := hfr.ext hs
 have b11 := b11.ext hs
 have q1 := q1.ext hs
 have hm6 := hm6.ext hs
 have m8 := m8.ext hs
 refine EL_at t5 rfl rfl ?_
 refine EL_nil (thn_n ?_)
 obtain ⟨⟨j4, p2⟩, hx, h⟩ := bsome h
 refine E_join (fun e w => ∃ (g : Gh) , Fr gI wI g w ∧ e 2 = p1 ∧ PT g.m w (x0 : FaultFaultLoom) p1 ∧ e 5 = v6 ∧ OM 9018 g w 3 (j4 : List Int) v6 ∧ e 6 = v8 ∧ MP (Value.int .i64) 8019 g w (p2 : List (Int × Bool)) v8) (fun Q' hQ => ?_) (fun eB n9 hR => ?_)
 ·replace h := hx
  clear hx
  refine E_seq (E_region (EL_mw v9 rfl rfl ?_))
  refine EL_pur (v := .int .i64 ((p3).length : Int)) (P_lenM Try.underlying29 rfl b11) .plain rfl ?_
  refine EL_mw (.int .i64 (0)) rfl rfl ?_
  refine EL_nil (thn_n (E_block ?_))
  refine E_lp h (fun (s : (List Int) × (List (Int × Bool)) × Int) e w => ∃ (g : Gh) , Fr gI wI g w ∧ e 1 = v9 ∧ OM 9021 g w 62 (p3 : List FaultDamage) v9 ∧ e 2 = p1 ∧ PT g.m w (x0 : FaultFaultLoom) p1 ∧ e 5 = v6 ∧ OM 9018 g w 3 (s.1 : List Int) v6 ∧ e 6 = v8 ∧ MP (Value.int .i64) 8019 g w (s.2.1 : List (Int × Bool)) v8 ∧ e 7 = t5 ∧ MP (Value.int .i64) 8800 g w chgM t5 ∧ e 25 = v9 ∧ e 26 = .int .i64 (((p3).length : Int)) ∧ e 27 = .int .i64 (s.2.2)) ⟨iA, hfr, rfl, b11, rfl, q1, rfl, hm6, rfl, m8, rfl, m13, rfl, rfl, rfl⟩ (fun X40 z8 o9 => ?_)
  rintro ⟨j5, l5, o0⟩ iB zB ⟨e7, hfr, a8, u0, m5, y0, n5, i3, o5, j3, l6, i1, u5, x5, p4⟩ h
  refine E_seq (E_region (EL_in (.bool ((decide (o0 < ((p3).length : Int))))) p4 x5 rfl rfl ?_))
  refine EL_nil (thn_n (E_seq ?_))
  rcases csome h with ⟨i6, h⟩ | ⟨i6, h⟩
  ·refine E_ct i6 rfl ?_
   refine E_skip (thn_n ?_)
   obtain ⟨⟨e4, i4⟩, hx, h⟩ := bsome h
   refine E_join (fun e w => ∃ (g : Gh) , Fr gI wI g w ∧ e 1 = v9 ∧ OM 9021 g w 62 (p3 : List FaultDamage) v9 ∧ e 2 = p1 ∧ PT g.m w (x0 : FaultFaultLoom) p1 ∧ e 5 = v6 ∧ OM 9018 g w 3 (e4 : List Int) v6 ∧ e 6 = v8 ∧ MP (Value.int .i64) 8019 g w (i4 : List (Int × Bool)) v8 ∧ e 7 = t5 ∧ MP (Value.int .i64) 8800 g w chgM t5 ∧ e 25 = v9 ∧ e 26 = .int .i64 (((p3).length : Int)) ∧ e 27 = .int .i64 (o0)) (fun Q' hQ => ?_) (fun jB aC hR => ?_)
   ·replace h := hx
    clear hx
    refine E_block ?_
    refine E_seq (E_region ?_)
    obtain ⟨b7, g7, h⟩ := bsome h
    refine EL_pur (v := ePtr v9 o0 5) (P_indexAddrM (α := FaultDamage) Try.underlying29 Try.sizeOf62 u5 u0 p4 g7) .plain rfl ?_
    refine EL_do .plain rfl (D_loadM (g := e7) Try.isAgg62 Try.sizeOf62 rfl u0 g7 fun jA i7 => ?_)
    refine EL_do .plain rfl (D_allocOc (g := e7) 2009 (⟨0, 0, 0, 0, false⟩ : FaultDamage) Try.zeroValue62 (fun m w => ⟨_, (rep_two rep_int (rep_two rep_int (rep_two rep_int (rep_two rep_int rep_bool)))), rfl⟩) fun kA bC lA hs b56 cb => ?_)
    have hfr := hfr.stp hs
    have u0 := u0.stp hs rfl
    have y0 := y0.stp hs
    have i3 := i3.stp hs rfl
    have j3 := j3.stp hs rfl
    have i1 := i1.stp hs rfl
    have i7 := i7.stp hs
    clear cb
    refine EL_do .plain rfl (D_storeOc (g := kA) (v := jA) Try.sizeOf62 rfl b56 rfl i7 fun y5 cC hs b57 cb => ?_)
    clear cb
    have hfr := hfr.stp hs
    have u0 := u0.stp hs rfl
    have y0 := y0.stp hs
    have i3 := i3.stp hs rfl
    have j3 := j3.stp hs rfl
    have i1 := i1.stp hs rfl
    refine EL_nil (thn_n (E_region (EL_mv l6 rfl ?_)))
    refine EL_pur (v := fPtr lA 0) (P_fieldAddr at_62_0 rfl (OB.ptr b57)) .plain rfl ?_
    refine EL_do .plain rfl (D_loadF (g := y5) part_FaultDamage_0.1 Try.isAgg60 Try.sizeOf60 rfl b57 fun dC mA => ?_)
    obtain rfl := RV_int.1 mA
    refine EL_do .plain rfl (D_lookup (g := y5) (z0 := fv0) Try.underlying130 key_60 Try.zeroValue133 (fun _ _ => RV_fv.2 rfl) rfl i1 rfl fun eC nA => ?_)
    have p9 := RV_fv.1 nA
    refine EL_do .plain rfl (D_load (g := y5) Try.isAgg98 Try.sizeOf98 m5 y0 fun iC oA => ?_)
    refine EL_do .plain rfl (D_loadO (g := y5) Try.isAgg62 Try.sizeOf62 rfl b57 fun jC pA => ?_)
    refine EL_mv n5 rfl ?_
    refine EL_mv o5 rfl ?_
    obtain ⟨c7, q9, h⟩ := bsome h
    refine EL_do .plain rfl (D_chg (g := y5) (i := 9018) (j := 8019) q9 (show _ = _ from p9) rfl rfl rfl rfl oA pA i3 j3 rfl rfl fun kC lC r9 kB mC hs hs2 mr63 mb63 => ?_)
    have hfr := hfr.stp hs
    have u0 := u0.stp hs rfl
    have y0 := y0.stp hs
    have i1 := i1.stp hs rfl
    have hfr := hfr.stp hs2
    have u0 := u0.stp hs2 rfl
    have y0 := y0.stp hs2
    have i1 := i1.stp hs2 rfl
    refine EL_nil (blk_n ?_)
    obtain ⟨rfl, rfl⟩ := pairs2 h
    exact hQ _ _ ⟨r9, hfr, a8, u0, m5, y0, n5, mr63, o5, mb63, l6, i1, u5, x5, p4⟩
   ·clear hx
    obtain ⟨qA, hfr, b8, c8, d8, e8, i8, j8, k8, l8, n8, o8, j7, l7, m7⟩ := hR
    refine E_region (EL_in (.int .i64 ((w64 (o0 + (1 : Int))))) m7 rfl rfl rfl ?_)
    refine EL_mw (.int .i64 ((w64 (o0 + (1 : Int))))) rfl rfl ?_
    exact EL_nil (thn_n (o9 (e4, i4, (w64 (o0 + (1 : Int)))) _ _ ⟨qA, hfr, b8, c8, d8, e8, i8, j8, k8, l8, n8, o8, j7, l7, rfl⟩ h))
  ·refine E_cf i6 rfl ?_
   refine E_exit ?_
   refine thn_e ?_
   refine thn_e ?_
   refine blk_hit ?_
   obtain ⟨rfl, rfl⟩ := pairs2 h
   exact hQ _ _ ⟨e7, hfr, m5, y0, n5, i3, o5, j3⟩
 ·clear hx
  obtain ⟨a9, hfr, m6, m4, p8, q8, r8, u3⟩ := hR
  refine E_seq (E_region (EL_pur (v := fPtr p1 0) (P_fieldAddr at_98_0 m6 (PT.ptr m4)) .plain rfl ?_))
  have b9 := PT_field (part_FaultFaultLoom_0).1 m4
  refine EL_pur (v := fPtr (fPtr p1 0) 0) (P_fieldAddr at_28_0 rfl (PT.ptr b9)) .plain rfl ?_
  have rA := PT_field (part_FaultLoom_0).1 b9
  refine EL_do .plain rfl (D_load (g := a9) Try.isAgg24 Try.sizeOf24 rfl rA fun sA n7 => ?_)
  refine EL_pur (v := fPtr p1 0) (P_fieldAddr at_98_0 m6 (PT.ptr m4)) .plain rfl ?_
  have c9 := PT_field (part_FaultFaultLoom_0).1 m4
  refine EL_pur (v := fPtr (fPtr p1 0) 2) (P_fieldAddr at_28_1 rfl (PT.ptr c9)) .plain rfl ?_
  have d9 := PT_field (part_FaultLoom_1).1 c9
  refine EL_pur (v := fPtr (fPtr (fPtr p1 0) 2) 0) (P_fieldAddr at_26_0 rfl (PT.ptr d9)) .plain rfl ?_
  have tA := PT_field (part_Design_0).1 d9
  refine EL_do .plain rfl (D_load (g := a9) Try.isAgg3 Try.sizeOf3 rfl tA fun nC uA => ?_)
  obtain rfl := RV_int.1 uA
  refine EL_mv p8 rfl ?_
  obtain ⟨gp75, hs, rp75⟩ := OM.pub q8
  have hfr := hfr.stp hs
  have u3 := u3.stp hs rfl
  have n7 := n7.stp hs
  have e9 : RV gp75.m _ (⟨(((x0).FaultLoom).Design).Hooks, j4⟩ : Design) (.agg (setCh [[.int .i64 0], [.slice none 0 0]] [(0, .int .i64 ((((x0).FaultLoom).Design).Hooks)), (1, v6)]).flatten.toArray) := RV_build rfl (rep_pair (rfl) (rep_last (RV.cells rp75)))
  generalize s9 : (Value.agg (setCh [[.int .i64 0], [.slice none 0 0]] [(0, .int .i64 ((((x0).FaultLoom).Design).Hooks)), (1, v6)]).flatten.toArray) = i9 at e9
  refine EL_pur (v := i9) (s9 ▸ P_build (vs := [(0, .int .i64 ((((x0).FaultLoom).Design).Hooks)), (1, v6)]) [[.int .i64 0], [.slice none 0 0]] lay_26 rfl rfl (.cons rfl (.cons rfl .nil)) ⟨⟨_, rfl, rfl⟩, ⟨⟨_, rfl, cells_size rp75⟩, trivial⟩⟩) .plain rfl ?_
  obtain ⟨s2, t9, h⟩ := bsome h
  refine EL_do .plain rfl (D_callG (g := gp75) (vs := [sA, i9]) en82 (.cons rfl (.cons rfl .nil)) (v82_0 (iO := 9051) n7 e9 t9) fun vA n9 oC hs hr => ?_)
  have hfr := hfr.ext hs
  have u3 := u3.ext hs
  obtain ⟨n0, xA, rfl, hm76, rfl⟩ := hr
  refine EL_mw (.tuple #[n0, .int .i64 (s2.2)]) rfl rfl ?_
  refine EL_pur (v := n0) (P_extract rfl rfl) .plain rfl ?_
  refine EL_pur (v := .int .i64 (s2.2)) (P_extract rfl rfl) .plain rfl ?_
  refine EL_at n0 rfl rfl ?_
  refine EL_nil (thn_n ?_)
  obtain ⟨o4, hx, h⟩ := bsome h
  refine E_join (fun e w => ∃ (g : Gh) , Fr gI wI g w ∧ e 4 = n0 ∧ OM 9051 g w 9 (o4 : List Str) n0) (fun Q' hQ => ?_) (fun yA lB hR => ?_)
  ·replace h := hx
   clear hx
   refine E_seq (E_region (EL_mw n0 rfl rfl ?_))
   refine EL_pur (v := .int .i64 ((s2.1).length : Int)) (P_lenM Try.underlying36 rfl hm76) .plain rfl ?_
   refine EL_mw (.int .i64 (0)) rfl rfl ?_
   refine EL_nil (thn_n (E_block ?_))
   refine E_lp h (fun (s : (List Str) × Int) e w => ∃ (g : Gh) , Fr gI wI g w ∧ e 4 = n0 ∧ OM 9051 g w 9 (s.1 : List Str) n0 ∧ e 6 = v8 ∧ MP (Value.int .i64) 8019 g w (p2 : List (Int × Bool)) v8 ∧ e 54 = n0 ∧ e 55 = .int .i64 (((s2.1).length : Int)) ∧ e 56 = .int .i64 (s.2)) ⟨vA, hfr, rfl, hm76, r8, u3, rfl, rfl, rfl⟩ (fun X122 d7 t8 => ?_)
   rintro ⟨m1, j0⟩ zA mB ⟨j6, hfr, z5, j1, a6, d2, u4, x4, m3⟩ h
   refine E_seq (E_region (EL_in (.bool ((decide (j0 < ((s2.1).length : Int))))) m3 x4 rfl rfl ?_))
   refine EL_nil (thn_n (E_seq ?_))
   rcases csome h with ⟨p5, h⟩ | ⟨p5, h⟩
   ·refine E_ct p5 rfl ?_
    refine E_skip (thn_n ?_)
    obtain ⟨s3, hx, h⟩ := bsome h
    refine E_join (fun e w => ∃ (g : Gh) , Fr gI wI g w ∧ e 4 = n0 ∧ OM 9051 g w 9 (s3 : List Str) n0 ∧ e 6 = v8 ∧ MP (Value.int .i64) 8019 g w (p2 : List (Int × Bool)) v8 ∧ e 54 = n0 ∧ e 55 = .int .i64 (((s2.1).length : Int)) ∧ e 56 = .int .i64 (j0)) (fun Q' hQ => ?_) (fun aB nB hR => ?_)
    ·replace h := hx
     clear hx
     refine E_block ?_
     refine E_seq (E_region (EL_mv m3 rfl ?_))
     obtain ⟨n4, n6, h⟩ := bsome h
     refine EL_pur (v := ePtr n0 j0 1) (P_indexAddrM (α := Str) Try.underlying36 Try.sizeOf9 u4 j1 m3 n6) .plain rfl ?_
     refine EL_do .plain rfl (D_loadM (g := j6) Try.isAgg9 Try.sizeOf9 rfl j1 n6 fun oB u9 => ?_)
     obtain rfl := RV_str.1 u9
     refine EL_at (.int .i64 (j0)) rfl rfl ?_
     refine EL_at (Str.v (n4)) rfl rfl ?_
     refine EL_nil (thn_n (E_seq (E_region (EL_mw (Str.v (n4)) rfl rfl ?_))))
     refine EL_do .plain rfl (D_convSB (g := j6) (s := n4) 9062 Try.underlying9 Try.underlying80 Try.underlying5 rfl fun x9 pB c4 hs m147 => ?_)
     have hfr := hfr.stp hs
     have j1 := j1.stp hs rfl
     have d2 := d2.stp hs rfl
     refine EL_at c4 rfl rfl ?_
     refine EL_nil (thn_n ?_)
     obtain ⟨d3, hx, h⟩ := bsome h
     refine E_join (fun e w => ∃ (g : Gh) , Fr gI wI g w ∧ e 4 = n0 ∧ OM 9051 g w 9 (m1 : List Str) n0 ∧ e 6 = v8 ∧ MP (Value.int .i64) 8019 g w (p2 : List (Int × Bool)) v8 ∧ e 10 = .int .i64 (j0) ∧ e 12 = c4 ∧ OM 9062 g w 5 (d3 : List UInt8) c4 ∧ e 54 = n0 ∧ e 55 = .int .i64 (((s2.1).length : Int)) ∧ e 56 = .int .i64 (j0)) (fun Q' hQ => ?_) (fun bB y9 hR => ?_)
     ·replace h := hx
      clear hx
      refine E_seq (E_region (EL_mv a6 rfl ?_))
      refine EL_do .plain rfl (D_rangeM (g := x9) 7564 Try.underlying126 rfl d2 fun z9 qB o7 hs b155 => ?_)
      have hfr := hfr.stp hs
      have j1 := j1.stp hs rfl
      have d2 := d2.stp hs rfl
      have m147 := m147.stp hs rfl
      refine EL_nil (thn_n (E_block ?_))
      refine E_lp h (fun (s : (List UInt8) × (List (Int × Bool))) e w => ∃ (g : Gh) , Fr gI wI g w ∧ e 4 = n0 ∧ OM 9051 g w 9 (m1 : List Str) n0 ∧ e 6 = v8 ∧ MP (Value.int .i64) 8019 g w (p2 : List (Int × Bool)) v8 ∧ e 10 = .int .i64 (j0) ∧ e 12 = c4 ∧ OM 9062 g w 5 (s.1 : List UInt8) c4 ∧ e 54 = n0 ∧ e 55 = .int .i64 (((s2.1).length : Int)) ∧ e 56 = .int .i64 (j0) ∧ e 64 = o7 ∧ MI (Value.int .i64) 7564 8019 g w (s.2 : List (Int × Bool)) none o7) ⟨z9, hfr, z5, j1, a6, d2, rfl, rfl, m147, u4, x4, m3, rfl, b155.dropc⟩ (fun X156 k156 x8 => ?_)
      rintro ⟨z1, z3⟩ cB rB ⟨k6, hfr, b6, i2, c6, j2, z4, d4, m2, c5, d5, e5, o3, i5⟩ h
      refine E_seq (E_region ?_)
      rcases csome h with ⟨q5, h⟩ | ⟨q5, h⟩
      ·refine EL_do .plain rfl (D_nextM_f (g := k6) o3 i5 q5 ?_)
       refine EL_pur (v := .bool false) (P_extract rfl rfl) .plain rfl ?_
       refine EL_nil (thn_n (E_seq (E_cond_false (by rw [show ev _ _ = _ from rfl]; exact congrArg Value.bool rfl) ?_)))
       refine E_exit ?_
       refine thn_e ?_
       refine thn_e ?_
       refine blk_hit ?_
       obtain rfl := sinj h
       exact hQ _ _ ⟨k6, hfr, b6, i2, c6, j2, z4, d4, m2, c5, d5, e5⟩
      ·refine EL_do .plain rfl (D_nextM_t (g := k6) o3 i5 rfl q5 fun z2 rm158 u158 p7 sB hmem hs b158 ru158 => ?_)
       replace h := pickAll_h h _ hmem
       clear hmem
       obtain rfl := RV_bool.1 ru158
       have hfr := hfr.stp hs
       have i2 := i2.stp hs rfl
       have j2 := j2.stp hs rfl
       have m2 := m2.stp hs rfl
       refine EL_pur (v := .bool true) (P_extract rfl rfl) .plain rfl ?_
       refine EL_nil (thn_n (E_seq (E_cond_true (by rw [show ev _ _ = _ from rfl]; exact congrArg Value.bool rfl) ?_)))
       refine E_skip (thn_n (E_block ?_))
       refine E_seq (E_region (EL_do .plain rfl (D_entry (g := p7) o3 b158 fun tB aA => ?_)))
       obtain rfl := RV_bool.1 aA
       refine EL_pur (v := .int .i64 (z2.1)) (P_extract rfl rfl) .plain rfl ?_
       refine EL_at (.int .i64 (z2.1)) rfl rfl ?_
       refine EL_nil (thn_n (E_region (EL_mv d4 rfl ?_)))
       refine EL_mw (.int .i64 (z2.1)) rfl rfl ?_
       obtain ⟨j9, o6, h⟩ := bsome h
       refine EL_pur (v := ePtr c4 z2.1 1) (P_indexAddrM (α := UInt8) Try.underlying80 Try.sizeOf5 rfl m2 rfl o6) .plain rfl ?_
       refine EL_do .plain rfl (D_storeM (g := p7) (α := UInt8) (a' := ((46 : UInt8))) Try.sizeOf5 rfl m2 o6 rfl (RV_u8.2 rfl) fun bA uB hs b161 => ?_)
       have hfr := hfr.stp hs
       have i2 := i2.stp hs rfl
       have j2 := j2.stp hs rfl
       have b158 := b158.stp hs rfl
       exact EL_nil (blk_n (thn_n (x8 ((List.set z1 (Int.toNat z2.1) ((46 : UInt8))), rm158) _ _ ⟨bA, hfr, b6, i2, c6, j2, z4, d4, b161, c5, d5, e5, o3, b158.dropc⟩ h)))
     ·clear hx
      obtain ⟨q7, hfr, d6, e6, r7, s4, q6, r6, s6, t6, u6, x6⟩ := hR
      refine E_region (EL_mv d6 rfl ?_)
      refine EL_mv q6 rfl ?_
      refine EL_mv r6 rfl ?_
      refine EL_do .plain rfl (D_convBS (g := q7) Try.underlying80 Try.underlying9 Try.underlying5 rfl s6 ?_)
      obtain ⟨k9, p6, h⟩ := bsome h
      refine EL_pur (v := ePtr n0 j0 1) (P_indexAddrM (α := Str) Try.underlying36 Try.sizeOf9 rfl e6 rfl p6) .plain rfl ?_
      refine EL_do .plain rfl (D_storeM (g := q7) (α := Str) (a' := ((⟨d3⟩ : Str))) Try.sizeOf9 rfl e6 p6 rfl (RV_str.2 rfl) fun cA y9 hs b164 => ?_)
      have hfr := hfr.stp hs
      have s4 := s4.stp hs rfl
      refine EL_nil (blk_n ?_)
      obtain rfl := sinj h
      exact hQ _ _ ⟨cA, hfr, d6, b164, r7, s4, t6, u6, x6⟩
    ·clear hx
     obtain ⟨dA, hfr, s7, t7, u7, v7, y6, z6, a7⟩ := hR
     refine E_region (EL_in (.int .i64 ((w64 (j0 + (1 : Int))))) a7 rfl rfl rfl ?_)
     refine EL_mw (.int .i64 ((w64 (j0 + (1 : Int))))) rfl rfl ?_
     exact EL_nil (thn_n (t8 (s3, (w64 (j0 + (1 : Int)))) _ _ ⟨dA, hfr, s7, t7, u7, v7, y6, z6, rfl⟩ h))
   ·refine E_cf p5 rfl ?_
    refine E_exit ?_
    refine thn_e ?_
    refine thn_e ?_
    refine blk_hit ?_
    obtain rfl := sinj h
    exact hQ _ _ ⟨j6, hfr, z5, j1⟩
  ·clear hx
   obtain ⟨vB, hfr, x7, z7⟩ := hR
   refine E_seq (E_region (EL_mv x7 rfl ?_))
   refine EL_at n0 rfl rfl ?_
   refine EL_nil (thn_n (E_ret ?_))
   obtain ⟨gp167, hs, rp167⟩ := OM.pub z7
   have hfr := hfr.stp hs
   obtain rfl := sinj h
   exact end1 rfl rfl (show _ = n0 from rfl) ⟨_, hfr, rp167⟩
/-- (griffe/fault.loom).showing -/
def f64 (x0 : FaultFaultLoom) (σ : Type) (cons : Cons σ (FaultDamage × (List Str))) (s0 : σ) : Option σ :=
 (f55 x0 ([])).bind fun y5 =>
 ((fun σ cons s => f90 x0 σ cons s) (Nat × σ) (guardC fun z1 i1 =>
  (f55 x0 (([i1] : List FaultDamage))).bind fun y44 =>
  Option.bind (α := σ × Bool) (
   (f71 y44 y5).bind fun y55 =>
   bif (!y55) then
    (cons z1 (i1, y44)).bind fun (yb59, ys59) =>
    some (ys59, (!yb59))
   else
    some (z1, false)
   ) fun (cs_61, s26_61) =>
  bif s26_61 then
   some (false, ((1 : Nat), (cs_61)))
  else
   some (true, ((0 : Nat), (cs_61)))
  ) (0, (s0))).bind fun (j1, d2) =>
 bif Nat.beq j1 0 then
  some d2
 else
  some d2
theorem en64 : Enters Try.prog 64 := enters_of Try.func64 (by kernel_rfl) rfl
theorem wk64 {σ : Type} {cons : Cons σ (FaultDamage × (List Str))} {s0 r : σ} {gI : Gh} {wI : World} {x0 : FaultFaultLoom} {up0 : Value} (rp0 : RV gI.m wI x0 up0) (h : f64 x0 σ cons s0 = some r) : IterC Try.prog (RA2 (α := FaultDamage) (β := (List Str))) 64 #[up0] #[] gI wI cons s0 r := by
 unfold f64 at h
 refine iterD_of_E Try.func64 rfl (Nat.le_of_ble_eq_true rfl) fun l B J g0 hm hAb hRo hfr => ?_
 have hmk : MkF g0 wI [] := MkF.start
 have rp0 : RV g0.m wI x0 up0 := hm ▸ rp0
 show E _ 27 none _ _ (envAt #[up0, .func (.yield l) #[] #[]]) _ _
 refine E_seq (E_region (EL_do .plain rfl (D_box (g := g0) rfl rp0 fun g1 w1 p1 hs q1 => ?_)))
 have hfr := hfr.ext_ hAb hs
 have hmk := hmk.ext hs
 refine EL_do .plain rfl (D_box (g := g1) (a := (⟨(.func (.yield l) #[] #[]), rfl⟩ : Fv)) rfl (RV_fv.2 rfl) fun g2 w2 p2 hs q2 => ?_)
 have hfr := hfr.ext_ hAb hs
 have hmk := hmk.ext hs
 have q1 := q1.ext hs
 refine EL_nil (thn_n (E_seq (E_region (EL_do .plain rfl (D_load (g := g2) Try.isAgg98 Try.sizeOf98 rfl q1 fun v3 r3 => ?_)))))
 obtain ⟨y5, p4, h⟩ := bsome h
 refine EL_do .plain rfl (D_call (g := g2) (vs := [v3, .slice none 0 0]) en55 (.cons rfl (.cons rfl .nil)) (wk55 r3 RV_nil p4) fun g4 w4_ v4 hs hr => ?_)
 have hfr := hfr.ext_ hAb hs
 have hmk := hmk.ext hs
 have q1 := q1.ext hs
 have q2 := q2.ext hs
 have r4 := hr
 refine EL_do .plain rfl (D_allocOc (g := g4) 2004 ([] : List Str) Try.zeroValue36 (fun m w => ⟨_, rep_nil, rfl⟩) fun g6 w6 p6 hs b6 cb => ?_)
 have hfr := hfr.stp_ hAb hs rfl
 have hmk := hmk.stp hs
 have q1 := q1.stp hs
 have q2 := q2.stp hs
 have r4 := r4.stp hs
 have e6 : OSF 2004 60400 0 g6 w6 9 36 ([] : List Str) p6 := cb.osf (by rfl)
 clear cb
 refine EL_do .plain rfl (D_storeOc (g := g6) (v := v4) Try.sizeOf36 rfl b6 rfl r4 fun g7 w7 hs b7 cb => ?_)
 clear cb
 have hfr := hfr.stp_ hAb hs rfl
 have hmk := hmk.stp hs
 have q1 := q1.stp hs
 have q2 := q2.stp hs
 refine EL_nil (thn_n (E_seq (E_region (EL_do .plain rfl (D_load (g := g7) Try.isAgg98 Try.sizeOf98 rfl q1 fun v8 r8 => ?_)))))
 refine EL_pur (v := (.func (.func 90) #[v8] #[])) (P_makeFunc (capf_1_0 (show ev _ _ = v8 from rfl))) .plain rfl ?_
 refine EL_nil (thn_n (E_block ?_))
 have hB0 := hfr.hB
 have hmk0 := hmk
 obtain ⟨⟨j1, d2⟩, hφ, h⟩ := bsome h
 refine E_rangeFunc (σ := (Nat × σ)) (s0 := (0, (s0))) 10 rfl (fun s => s.1) [.ret] (fun (s : Nat × σ) (g : Gh) (w : World) => FrY gI wI B J (s.2) g w ∧ MkF g w [] ∧ PT g.m w (x0 : FaultFaultLoom) p1 ∧ PT g.m w (⟨(.func (.yield l) #[] #[]), rfl⟩ : Fv) p2 ∧ OB 2004 g w 36 (y5 : List Str) p6) rfl (show ItV Try.prog (RA1 (α := FaultDamage)) (fun σ cons s => f90 x0 σ cons s) ((.func (.func 90) #[v8] #[])) g7.m w7 from ⟨90, #[v8], #[], rfl, en90, fun g' w' hch σ cons s s' h => wk90 (r8.ch hch)  h⟩) hφ (fun _ _ _ h => (guardC_h h).1) rfl ra1_size rfl (fun _ _ _ _ _ hx hR => by obtain ⟨hfr, hmk, z2, z3, z4⟩ := hR; exact ⟨hfr.ist_ hAb hx hB0, hmk.ist hx, z2.ist hx, z3.ist hx, z4.ist hx⟩) (fun _ _ _ _ _ hx hR => by obtain ⟨hfr, hmk, z2, z3, z4⟩ := hR; exact ⟨hfr.stp_ hAb hx rfl, hmk.stp hx, z2.stp hx, z3.stp hx, z4.stp hx rfl⟩) ⟨hfr, hmk, q1, q2, b7⟩ (fun _ h => by cases h) ?_ ?_
 ·intro j4 c4 s x b s2 p3 e4 vs hsz h hR hrec_0 q3 hrd
  obtain ⟨hs0, h⟩ := guardC_h h
  obtain ⟨st, z1⟩ := s
  obtain ⟨hfr, hmk, n0, o0, u0⟩ := hR
  obtain ⟨i1, hxe⟩ : ∃ y, y = x := ⟨x, rfl⟩
  subst hxe
  obtain ⟨d4, rfl, m1⟩ := ra1_get hrd
  have j0 := RFr.refl p3 e4
  refine E_region (EL_do .plain rfl (D_allocOc (g := p3) 2005 (⟨0, 0, 0, 0, false⟩ : FaultDamage) Try.zeroValue62 (fun m w => ⟨_, (rep_two rep_int (rep_two rep_int (rep_two rep_int (rep_two rep_int rep_bool)))), rfl⟩) fun q4 l6 m6 hs b37 cb => ?_))
  have hfr := hfr.stp_ hAb hs rfl
  have hmk := hmk.stp hs
  have j0 := j0.stp hs
  have hrec_0 := hrec_0.stp hs rfl
  have n0 := n0.stp hs
  have o0 := o0.stp hs
  have u0 := u0.stp hs rfl
  have m1 := m1.stp hs
  clear cb
  refine EL_do .plain rfl (D_storeOc (g := q4) (v := d4) Try.sizeOf62 rfl b37 rfl m1 fun s3 n6 hs b38 cb => ?_)
  clear cb
  have hfr := hfr.stp_ hAb hs rfl
  have hmk := hmk.stp hs
  have j0 := j0.stp hs
  have hrec_0 := hrec_0.stp hs rfl
  have n0 := n0.stp hs
  have o0 := o0.stp hs
  have u0 := u0.stp hs rfl
  refine EL_nil (thn_n ?_)
  obtain ⟨s4, hbr, hs, hrN⟩ := begin_round hrec_0 q3
  refine ⟨s4, hbr, ?_⟩
  have hfr := hfr.stp_ hAb hs rfl
  have hmk := hmk.stp hs
  have j0 := j0.stp hs
  have n0 := n0.stp hs
  have o0 := o0.stp hs
  have u0 := u0.stp hs rfl
  have b38 := b38.stp hs rfl
  have hrec_0 := hrN
  clear hbr hs hrN
  refine E_block ?_
  refine E_seq (E_region (EL_do .plain rfl (D_load (g := s3) Try.isAgg98 Try.sizeOf98 rfl n0 fun u4 u3 => ?_)))
  refine EL_do .plain rfl (D_loadO (g := s3) Try.isAgg62 Try.sizeOf62 rfl b38 fun x4 c5 => ?_)
  refine EL_do .plain rfl (D_buildSlice (g := s3) 3014 (xs := ([i1] : List FaultDamage)) (vs := [x4]) Try.underlying29 Try.sizeOf62 Try.zeroValue62 rfl rfl (.cons rfl .nil) (RVs.cons c5 RVs.nil) rfl rfl fun d5 o6 e5 hs o42 i5 hxt hfl => ?_)
  have hfr := hfr.stp_ hAb hs rfl
  have hmk := hmk.stp hs
  have j0 := j0.stp hs
  have hrec_0 := hrec_0.stp hs rfl
  have n0 := n0.stp hs
  have o0 := o0.stp hs
  have u0 := u0.stp hs rfl
  have b38 := b38.stp hs rfl
  have u3 := u3.stp hs
  obtain ⟨y44, m4, h⟩ := bsome h
  refine EL_do .plain rfl (D_call (g := d5) (vs := [u4, e5]) en55 (.cons rfl (.cons rfl .nil)) (wk55 u3 i5 m4) fun i4 i6 m2 hs hr => ?_)
  have hfr := hfr.ext_ hAb hs
  have hmk := hmk.ext hs
  have j0 := j0.ext hs
  have hrec_0 := hrec_0.ext hs
  have n0 := n0.ext hs
  have o0 := o0.ext hs
  have u0 := u0.ext hs
  have b38 := b38.ext hs
  have d3 := hr
  refine EL_at m2 rfl rfl ?_
  refine EL_nil (thn_n ?_)
  obtain ⟨⟨cs_61, s26_61⟩, hx, h⟩ := bsome h
  refine E_join (fun e w => ∃ (g : Gh) , FrY gI wI B J (cs_61) g w ∧ MkF g w [] ∧ RFr p3 e4 g w ∧ HB 10 g w j4 (.loop { c4 with state := .busy }) ∧ e 2 = p1 ∧ PT g.m w (x0 : FaultFaultLoom) p1 ∧ e 3 = p2 ∧ PT g.m w (⟨(.func (.yield l) #[] #[]), rfl⟩ : Fv) p2 ∧ e 4 = p6 ∧ OB 2004 g w 36 (y5 : List Str) p6 ∧ e 10 = (.func (.func 90) #[v8] #[]) ∧ e 26 = .bool (s26_61)) (fun Q' hQ => ?_) (fun j6 q6 hR => ?_)
  ·replace h := hx
   clear hx
   refine E_region (EL_mw m2 rfl rfl ?_)
   refine EL_do .plain rfl (D_loadO (g := i4) Try.isAgg36 Try.sizeOf36 rfl u0 fun j5 l5 => ?_)
   obtain ⟨y55, n4, h⟩ := bsome h
   refine EL_do .plain rfl (D_call (g := i4) (vs := [m2, j5]) en71 (.cons rfl (.cons rfl .nil)) (wk71 d3 l5 n4) fun i3 k6 r6 hs hr => ?_)
   have hfr := hfr.ext_ hAb hs
   have hmk := hmk.ext hs
   have j0 := j0.ext hs
   have hrec_0 := hrec_0.ext hs
   have n0 := n0.ext hs
   have o0 := o0.ext hs
   have u0 := u0.ext hs
   have b38 := b38.ext hs
   have d3 := d3.ext hs
   subst hr
   refine EL_pur (v := .bool (!y55)) (P_not rfl) .plain rfl ?_
   refine EL_mw (.bool (!y55)) rfl rfl ?_
   rcases csome h with ⟨y0, h⟩ | ⟨y0, h⟩
   ·refine EL_do (.yes2 rfl rfl y0) rfl (D_load (α := Fv) (g := i3) Try.isAgg141 Try.sizeOf141 rfl o0 fun s6 m5 => ?_)
    obtain rfl := RV_fv.1 m5
    refine EL_do (.yes2 rfl rfl y0) rfl (D_loadO (g := i3) Try.isAgg62 Try.sizeOf62 rfl b38 fun t6 n5 => ?_)
    refine EL_pur (v := m2) (P_move rfl) (.yes2 rfl rfl y0) rfl ?_
    obtain ⟨o5, o4, h⟩ := bsome h
    obtain ⟨yb59, ys59⟩ := o5
    refine EL_do (.yes2 rfl rfl y0) rfl (D_yield (g := i3) (x := (i1, y44)) rfl (.cons rfl (.cons rfl .nil)) hRo hfr o4 ⟨_, _, rfl, n5, d3⟩ fun p5 u6 hs hfrY => ?_)
    have hmk := hmk.stp hs
    have j0 := j0.stp hs
    have hrec_0 := hrec_0.stp hs rfl
    have n0 := n0.stp hs
    have o0 := o0.stp hs
    have u0 := u0.stp hs rfl
    have hfr := hfrY
    clear hfrY
    refine EL_pur (v := .bool (!yb59)) (P_not rfl) (.yes2 rfl rfl y0) rfl ?_
    refine EL_pur (v := .bool (!yb59)) (P_pick (b := (!y55)) rfl (pick_t y0 rfl)) .plain rfl ?_
    refine EL_nil ?_
    obtain ⟨rfl, rfl⟩ := pairs2 h
    exact hQ _ _ ⟨p5, hfr, hmk, j0, hrec_0, rfl, n0, rfl, o0, rfl, u0, rfl, rfl⟩
   ·refine EL_skip (.no2 rfl rfl y0 rfl) rfl ?_
    refine EL_skip (.no2 rfl rfl y0 rfl) rfl ?_
    refine EL_skip (.no2 rfl rfl y0 rfl) rfl ?_
    refine EL_skip (.no2 rfl rfl y0 rfl) rfl ?_
    refine EL_skip (.no2 rfl rfl y0 rfl) rfl ?_
    refine EL_pur (v := .bool false) (P_pick (b := (!y55)) rfl (pick_f y0 rfl)) .plain rfl ?_
    refine EL_nil ?_
    obtain ⟨rfl, rfl⟩ := pairs2 h
    exact hQ _ _ ⟨i3, hfr, hmk, j0, hrec_0, rfl, n0, rfl, o0, rfl, u0, rfl, rfl⟩
  ·clear hx
   obtain ⟨v6, hfr, hmk, j0, hrec_0, t5, j3, u5, m3, x5, o3, q5, i2⟩ := hR
   rcases csome h with ⟨j2, h⟩ | ⟨j2, h⟩
   ·refine E_cond_true (Eq.trans (show ev _ _ = .bool (s26_61) from i2) (congrArg Value.bool j2)) ?_
    refine E_ret (blk_r ?_)
    obtain ⟨rfl, rfl⟩ := pairs2 h
    exact ⟨_, j0, ⟨hfr, hmk, j3, m3, o3⟩, hrec_0, rfl, 0, rfl, rfl⟩
   ·refine E_cond_false (Eq.trans (show ev _ _ = .bool (s26_61) from i2) (congrArg Value.bool j2)) ?_
    refine E_skip (blk_n ?_)
    obtain ⟨rfl, rfl⟩ := pairs2 h
    exact ⟨_, j0, ⟨hfr, hmk, j3, m3, o3⟩, hrec_0, rfl, rfl⟩
 ·intro x6 w64 ds64 hsz hR hds
  obtain ⟨hfr, hmk, z5, a6, c6⟩ := hR
  obtain ⟨D, hdse, hD, hDb⟩ := hds.1 rfl
  subst hdse
  replace hmk := MkF.push hmk0 hmk hD hDb
  clear hD hDb hds
  revert hmk
  generalize ({ target := .collected D, args := #[] } :: [] : List Deferred) = d6
  intro hmk
  refine ⟨fun hs => ?_, fun k c hs hc => ?_⟩
  ·have hs : j1 = 0 := hs
   subst hs
   replace h := cond_t h rfl
   refine blk_n (endM (.inl rfl) hmk fun y6 z6 hs => ?_)
   have hfr := hfr.stp_ hAb hs rfl
   obtain rfl := sinj h
   exact end0n rfl rfl (FrY.done hfr)
  ·have hs : j1 = k + 1 := hs
   match k, hs, hc with
   | 0, hs, hc =>
    subst hs
    obtain rfl := sinj hc
    replace h := cond_f h rfl
    refine E_ret (blk_r ?_)
    refine endM (.inr rfl) hmk fun a7 c7 hs => ?_
    have hfr := hfr.stp_ hAb hs rfl
    obtain rfl := sinj h
    exact end0 rfl rfl (FrY.done hfr)
   | n + 1, _, hc => exact absurd hc (by simp)
/-- (griffe/fault.loom).rounds -/
def f68 (x0 : FaultFaultLoom) (x1 : List FaultDamage) : Option ((List (List Str))) :=
 Option.bind (α := (List (List Str))) (
  lp (σ := (List (List Str)) × Int) (fun p4 (m1, y0) =>
   bif (decide (y0 < ((x1).length : Int))) then
    Option.bind (α := (List (List Str))) (
     (idx x1 y0).bind fun s2 =>
     (f55 x0 (([s2] : List FaultDamage))).bind fun z2 =>
     (apnd 24 m1 (([z2] : List (List Str)))).bind fun q4 =>
     some (q4)
     ) fun i1 =>
    p4 (i1, (w64 (y0 + (1 : Int))))
   else
    some (m1)
   ) big ([], (0 : Int))
  ) fun j1 =>
 some (j1)
theorem en68 : Enters Try.prog 68 := enters_of Try.func68 (by kernel_rfl) rfl
theorem wk68 {gI : Gh} {wI : World} {x0 : FaultFaultLoom} {x1 : List FaultDamage} {up0 : Value} (rp0 : RV gI.m wI x0 up0) {up1 : Value} (rp1 : RV gI.m wI x1 up1) {r : (List (List Str))} (h : f68 x0 x1 = some r) : Fn Try.prog 68 #[up0, up1] gI wI (fun m w v => RV m w (r) v) := by
 unfold f68 at h
 refine fn_of_E Try.func68 rfl (Nat.le_of_ble_eq_true rfl) fun g0 hm hfr => ?_
 have rp0 : RV g0.m wI x0 up0 := hm ▸ rp0
 have rp1 : RV g0.m wI x1 up1 := hm ▸ rp1
 show E _ 22 none _ _ _ _ _
 refine E_seq (E_region (EL_do .plain rfl (D_box (g := g0) rfl rp0 fun g1 w1 p1 hs q1 => ?_)))
 have hfr := hfr.ext hs
 have rp1 := rp1.ext hs
 refine EL_at (.slice none 0 0) rfl rfl ?_
 refine EL_nil (thn_n ?_)
 obtain ⟨j1, hx, h⟩ := bsome h
 refine E_join (fun e w => ∃ (g : Gh) (v4 : Value), Fr gI wI g w ∧ e 4 = v4 ∧ RV g.m w (j1 : List (List Str)) v4 ∧ OS 1004 g w 36 (j1 : List (List Str)) v4) (fun Q' hQ => ?_) (fun c6 j6 hR => ?_)
 ·replace h := hx
  clear hx
  refine E_seq (E_region (EL_mw up1 rfl rfl ?_))
  refine EL_pur (v := .int .i64 ((x1).length : Int)) (P_len Try.underlying29 rfl rp1) .plain rfl ?_
  refine EL_mw (.int .i64 (0)) rfl rfl ?_
  refine EL_nil (thn_n (E_block ?_))
  refine E_lp h (fun (s : (List (List Str)) × Int) e w => ∃ (g : Gh) (v4 : Value), Fr gI wI g w ∧ e 2 = p1 ∧ PT g.m w (x0 : FaultFaultLoom) p1 ∧ e 4 = v4 ∧ RV g.m w (s.1 : List (List Str)) v4 ∧ OS 1004 g w 36 (s.1 : List (List Str)) v4 ∧ e 7 = up1 ∧ RV g.m w (x1 : List FaultDamage) up1 ∧ e 8 = .int .i64 (((x1).length : Int)) ∧ e 9 = .int .i64 (s.2)) ⟨g1, (.slice none 0 0), hfr, rfl, q1, rfl, RV_nil, OS.nil, rfl, rp1, rfl, rfl⟩ (fun X32 p4 u4 => ?_)
  rintro ⟨m1, y0⟩ d6 k6 ⟨d3, p3, hfr, i2, n0, j2, o0, u0, m2, j0, p2, z1⟩ h
  refine E_seq (E_region (EL_in (.bool ((decide (y0 < ((x1).length : Int))))) z1 p2 rfl rfl ?_))
  refine EL_nil (thn_n (E_seq ?_))
  rcases csome h with ⟨d2, h⟩ | ⟨d2, h⟩
  ·refine E_ct d2 rfl ?_
   refine E_skip (thn_n ?_)
   obtain ⟨i1, hx, h⟩ := bsome h
   refine E_join (fun e w => ∃ (g : Gh) (v4 : Value), Fr gI wI g w ∧ e 2 = p1 ∧ PT g.m w (x0 : FaultFaultLoom) p1 ∧ e 4 = v4 ∧ RV g.m w (i1 : List (List Str)) v4 ∧ OS 1004 g w 36 (i1 : List (List Str)) v4 ∧ e 7 = up1 ∧ RV g.m w (x1 : List FaultDamage) up1 ∧ e 8 = .int .i64 (((x1).length : Int)) ∧ e 9 = .int .i64 (y0)) (fun Q' hQ => ?_) (fun e6 l6 hR => ?_)
   ·replace h := hx
    clear hx
    refine E_block ?_
    refine E_seq (E_region ?_)
    obtain ⟨s2, i3, h⟩ := bsome h
    refine EL_pur (v := ePtr up1 y0 5) (P_indexAddr (α := FaultDamage) Try.underlying29 Try.sizeOf62 m2 j0 z1 i3) .plain rfl ?_
    have c5 := PT_idx j0 i3
    refine EL_do .plain rfl (D_load (g := d3) Try.isAgg62 Try.sizeOf62 rfl c5 fun d5 j3 => ?_)
    refine EL_do .plain rfl (D_allocOc (g := d3) 2006 (⟨0, 0, 0, 0, false⟩ : FaultDamage) Try.zeroValue62 (fun m w => ⟨_, (rep_two rep_int (rep_two rep_int (rep_two rep_int (rep_two rep_int rep_bool)))), rfl⟩) fun e5 m6 n6 hs b51 cb => ?_)
    have hfr := hfr.stp hs
    have n0 := n0.stp hs
    have o0 := o0.stp hs
    have u0 := u0.stp hs rfl
    have j0 := j0.stp hs
    have j3 := j3.stp hs
    clear cb
    refine EL_do .plain rfl (D_storeOc (g := e5) (v := d5) Try.sizeOf62 rfl b51 rfl j3 fun m3 o6 hs b52 cb => ?_)
    clear cb
    have hfr := hfr.stp hs
    have n0 := n0.stp hs
    have o0 := o0.stp hs
    have u0 := u0.stp hs rfl
    have j0 := j0.stp hs
    refine EL_nil (thn_n (E_region (EL_mv j2 rfl ?_)))
    refine EL_do .plain rfl (D_load (g := m3) Try.isAgg98 Try.sizeOf98 i2 n0 fun i5 o3 => ?_)
    refine EL_do .plain rfl (D_loadO (g := m3) Try.isAgg62 Try.sizeOf62 rfl b52 fun j5 l5 => ?_)
    refine EL_do .plain rfl (D_buildSlice (g := m3) 3016 (xs := ([s2] : List FaultDamage)) (vs := [j5]) Try.underlying29 Try.sizeOf62 Try.zeroValue62 rfl rfl (.cons rfl .nil) (RVs.cons l5 RVs.nil) rfl rfl fun m5 p6 n5 hs o55 o5 hxt hfl => ?_)
    have hfr := hfr.stp hs
    have n0 := n0.stp hs
    have o0 := o0.stp hs
    have u0 := u0.stp hs rfl
    have j0 := j0.stp hs
    have o3 := o3.stp hs
    obtain ⟨z2, x4, h⟩ := bsome h
    refine EL_do .plain rfl (D_call (g := m5) (vs := [i5, n5]) en55 (.cons rfl (.cons rfl .nil)) (wk55 o3 o5 x4) fun p5 i6 q5 hs hr => ?_)
    have hfr := hfr.ext hs
    have n0 := n0.ext hs
    have o0 := o0.ext hs
    have u0 := u0.ext hs
    have j0 := j0.ext hs
    have t5 := hr
    refine EL_do .plain rfl (D_buildSlice (g := p5) 3018 (xs := ([z2] : List (List Str))) (vs := [q5]) Try.underlying78 Try.sizeOf36 Try.zeroValue36 rfl rfl (.cons rfl .nil) (RVs.cons t5 RVs.nil) rfl rfl fun u5 q6 r6 hs o58 x5 hxt hfl => ?_)
    have hfr := hfr.stp hs
    have n0 := n0.stp hs
    have o0 := o0.stp hs
    have u0 := u0.stp hs rfl
    have j0 := j0.stp hs
    obtain ⟨q4, z4, h⟩ := bsome h
    refine EL_do .plain rfl (D_append (g := u5) (i := 1004) Try.underlying78 info_36 rfl rfl u0 o0 rfl x5 z4 fun y5 s6 s4 hs o59 z5 _ => ?_)
    have hfr := hfr.stp hs
    have n0 := n0.stp hs
    have j0 := j0.stp hs
    refine EL_at s4 rfl rfl ?_
    refine EL_nil (blk_n ?_)
    obtain rfl := sinj h
    exact hQ _ _ ⟨y5, (s4), hfr, i2, n0, rfl, z5, o59, m2, j0, p2, z1⟩
   ·clear hx
    obtain ⟨a6, q3, hfr, s3, u3, z3, c4, d4, e4, i4, j4, m4⟩ := hR
    refine E_region (EL_in (.int .i64 ((w64 (y0 + (1 : Int))))) m4 rfl rfl rfl ?_)
    refine EL_mw (.int .i64 ((w64 (y0 + (1 : Int))))) rfl rfl ?_
    exact EL_nil (thn_n (u4 (i1, (w64 (y0 + (1 : Int)))) _ _ ⟨a6, (q3), hfr, s3, u3, z3, c4, d4, e4, i4, j4, rfl⟩ h))
  ·refine E_cf d2 rfl ?_
   refine E_exit ?_
   refine thn_e ?_
   refine thn_e ?_
   refine blk_hit ?_
   obtain rfl := sinj h
   exact hQ _ _ ⟨d3, (p3), hfr, j2, o0, u0⟩
 ·clear hx
  obtain ⟨t6, q2, hfr, n4, o4, b6⟩ := hR
  refine E_seq (E_region (EL_mv n4 rfl ?_))
  refine EL_at q2 rfl rfl ?_
  refine EL_nil (thn_n (E_ret ?_))
  obtain rfl := sinj h
  exact end1 rfl rfl (show _ = q2 from rfl) ⟨_, hfr, o4⟩
/-- griffe/fault.Weave -/
def f19 (x0 : FaultLoom) (x1 : List FaultDamage) (x2 : Int) : Option ((List Str) × Int) :=
 jn (σ := (List Str)) (fun d3 =>
  (f55 ((⟨x0⟩ : FaultFaultLoom)) x1).bind fun z1 =>
  Option.bind (α := (List Str)) (
   lp (σ := (List Str) × Int) (fun e5 (i2, j0) =>
    bif (decide (j0 < x2)) then
     Option.bind (α := (List Str)) (
      (rem64 j0 ((z1).length : Int)).bind fun y44 =>
      (idx z1 y44).bind fun i3 =>
      (apnd 16 i2 (([i3] : List Str))).bind fun i5 =>
      some (i5)
      ) fun o0 =>
     e5 (o0, (w64 (j0 + (1 : Int))))
    else
     some (i2)
    ) big (d3, (0 : Int))
   ) fun u0 =>
  some (u0, (0 : Int))
  ) fun k6 =>
 (f54 x0 x1 x2).bind fun y9 =>
 bif (y9 != (0 : Int)) then
  some ([], y9)
 else
  k6 ([])
theorem en19 : Enters Try.prog 19 := enters_of Try.func19 (by kernel_rfl) rfl
theorem wk19 {gI : Gh} {wI : World} {x0 : FaultLoom} {x1 : List FaultDamage} {x2 : Int} {up0 : Value} (rp0 : RV gI.m wI x0 up0) {up1 : Value} (rp1 : RV gI.m wI x1 up1) {r : (List Str) × Int} (h : f19 x0 x1 x2 = some r) : Fn Try.prog 19 #[up0, up1, .int .i64 (x2)] gI wI (fun m w v => ∃ y0 y1, v = .tuple #[y0, y1] ∧ RV m w (r.1) y0 ∧ y1 = .int .i64 (r.2)) := by
 unfold f19 at h
 refine fn_of_E Try.func19 rfl (Nat.le_of_ble_eq_true rfl) fun g0 hm hfr => ?_
 have rp0 : RV g0.m wI x0 up0 := hm ▸ rp0
 have rp1 : RV g0.m wI x1 up1 := hm ▸ rp1
 show E _ 38 none _ _ _ _ _
 refine E_seq (E_region (EL_do .plain rfl (D_box (g := g0) rfl rp0 fun g1 w1 p1 hs q1 => ?_)))
 have hfr := hfr.ext hs
 have rp1 := rp1.ext hs
 refine EL_at (.slice none 0 0) rfl rfl ?_
 refine EL_at (.int .i64 (0)) rfl rfl ?_
 refine EL_nil (thn_n (E_joinC h (fun (s : (List Str)) e w => ∃ (g : Gh) (v6 : Value), Fr gI wI g w ∧ e 1 = up1 ∧ RV g.m w (x1 : List FaultDamage) up1 ∧ e 2 = .int .i64 (x2) ∧ e 3 = p1 ∧ PT g.m w (x0 : FaultLoom) p1 ∧ e 6 = v6 ∧ RV g.m w (s : List Str) v6 ∧ OS 1006 g w 9 (s : List Str) v6) (fun X6 k6 hk6 h => ?_) ?_))
 ·refine E_seq (E_region (EL_do .plain rfl (D_load (g := g1) Try.isAgg28 Try.sizeOf28 rfl q1 fun v7 r7 => ?_)))
  refine EL_mw up1 rfl rfl ?_
  refine EL_mw (.int .i64 (x2)) rfl rfl ?_
  obtain ⟨y9, x5, h⟩ := bsome h
  refine EL_do .plain rfl (D_call (g := g1) (vs := [v7, up1, .int .i64 (x2)]) en54 (.cons rfl (.cons rfl (.cons rfl .nil))) (wk54 r7 rp1 x5) fun g8 w8_ v8 hs hr => ?_)
  have hfr := hfr.ext hs
  have rp1 := rp1.ext hs
  have q1 := q1.ext hs
  subst hr
  refine EL_at (.int .i64 (y9)) rfl rfl ?_
  refine EL_nil (thn_n (E_seq (E_region (EL_mw (.int .i64 (y9)) rfl rfl ?_))))
  refine EL_in (.bool ((y9 != (0 : Int)))) rfl rfl rfl rfl ?_
  refine EL_nil (thn_n ?_)
  rcases csome h with ⟨s2, h⟩ | ⟨s2, h⟩
  ·refine E_ct s2 rfl ?_
   refine E_seq (E_region (EL_mw (.int .i64 (y9)) rfl rfl ?_))
   refine EL_at (.slice none 0 0) rfl rfl ?_
   refine EL_at (.int .i64 (y9)) rfl rfl ?_
   refine EL_nil (thn_n (E_ret (thn_r ?_)))
   obtain rfl := sinj h
   exact end2 rfl rfl (show _ = .slice none 0 0 from rfl) (show _ = .int .i64 (y9) from rfl) ⟨_, hfr, _, _, rfl, RV_nil, rfl⟩
  ·refine E_cf s2 rfl ?_
   exact E_skip (thn_n (hk6 ([]) _ _ ⟨g8, (.slice none 0 0), hfr, rfl, rp1, rfl, rfl, q1, rfl, RV_nil, OS.nil⟩ h))
 ·rintro d3 m6 r6 ⟨o3, c4, hfr, d4, e4, i4, j4, m4, n4, j2, m2⟩ h
  refine E_seq (E_region (EL_do .plain rfl (D_load (g := o3) Try.isAgg28 Try.sizeOf28 j4 m4 fun p3 j5 => ?_)))
  have l5 : RV o3.m _ (⟨x0⟩ : FaultFaultLoom) (.agg (setCh [[.int .i64 0, .slice none 0 0, .int .i64 0, .slice none 0 0]] [(0, p3)]).flatten.toArray) := RV_build rfl (rep_last (RV.cells j5))
  generalize o5 : (Value.agg (setCh [[.int .i64 0, .slice none 0 0, .int .i64 0, .slice none 0 0]] [(0, p3)]).flatten.toArray) = m5 at l5
  refine EL_pur (v := m5) (o5 ▸ P_build (vs := [(0, p3)]) [[.int .i64 0, .slice none 0 0, .int .i64 0, .slice none 0 0]] lay_98 rfl rfl (.cons rfl .nil) ⟨⟨_, rfl, cells_size j5⟩, trivial⟩) .plain rfl ?_
  refine EL_mv d4 rfl ?_
  obtain ⟨z1, p5, h⟩ := bsome h
  refine EL_do .plain rfl (D_call (g := o3) (vs := [m5, up1]) en55 (.cons rfl (.cons rfl .nil)) (wk55 l5 e4 p5) fun y5 n6 d2 hs hr => ?_)
  have hfr := hfr.ext hs
  have j2 := j2.ext hs
  have m2 := m2.ext hs
  have z5 := hr
  refine EL_at d2 rfl rfl ?_
  refine EL_nil (thn_n ?_)
  obtain ⟨u0, hx, h⟩ := bsome h
  refine E_join (fun e w => ∃ (g : Gh) (v6 : Value), Fr gI wI g w ∧ e 6 = v6 ∧ RV g.m w (u0 : List Str) v6 ∧ OS 1006 g w 9 (u0 : List Str) v6) (fun Q' hQ => ?_) (fun o6 s6 hR => ?_)
  ·replace h := hx
   clear hx
   refine E_seq (E_region (EL_mv i4 rfl ?_))
   refine EL_mw (.int .i64 (0)) rfl rfl ?_
   refine EL_nil (thn_n (E_block ?_))
   refine E_lp h (fun (s : (List Str) × Int) e w => ∃ (g : Gh) (v6 : Value), Fr gI wI g w ∧ e 6 = v6 ∧ RV g.m w (s.1 : List Str) v6 ∧ OS 1006 g w 9 (s.1 : List Str) v6 ∧ e 9 = d2 ∧ RV g.m w (z1 : List Str) d2 ∧ e 22 = .int .i64 (x2) ∧ e 23 = .int .i64 (s.2)) ⟨y5, (c4), hfr, n4, j2, m2, rfl, z5, rfl, rfl⟩ (fun X34 e5 q5 => ?_)
   rintro ⟨i2, j0⟩ p6 t6 ⟨q3, o4, hfr, j3, i1, j1, p2, n0, q2, m1⟩ h
   refine E_seq (E_region (EL_in (.bool ((decide (j0 < x2)))) m1 q2 rfl rfl ?_))
   refine EL_nil (thn_n (E_seq ?_))
   rcases csome h with ⟨z2, h⟩ | ⟨z2, h⟩
   ·refine E_ct z2 rfl ?_
    refine E_skip (thn_n ?_)
    obtain ⟨o0, hx, h⟩ := bsome h
    refine E_join (fun e w => ∃ (g : Gh) (v6 : Value), Fr gI wI g w ∧ e 6 = v6 ∧ RV g.m w (o0 : List Str) v6 ∧ OS 1006 g w 9 (o0 : List Str) v6 ∧ e 9 = d2 ∧ RV g.m w (z1 : List Str) d2 ∧ e 22 = .int .i64 (x2) ∧ e 23 = .int .i64 (j0)) (fun Q' hQ => ?_) (fun q6 u6 hR => ?_)
    ·replace h := hx
     clear hx
     refine E_block ?_
     refine E_seq (E_region (EL_mv m1 rfl ?_))
     refine EL_at (.int .i64 (j0)) rfl rfl ?_
     refine EL_nil (thn_n (E_region (EL_mv j3 rfl ?_)))
     refine EL_mv p2 rfl ?_
     refine EL_mw (.int .i64 (j0)) rfl rfl ?_
     refine EL_mv p2 rfl ?_
     refine EL_pur (v := .int .i64 ((z1).length : Int)) (P_len Try.underlying36 rfl n0) .plain rfl ?_
     obtain ⟨y44, t5, h⟩ := bsome h
     refine EL_pur (v := .int .i64 (y44)) (P_int rfl rfl (congrArg (Option.map (Value.int .i64)) t5)) .plain rfl ?_
     obtain ⟨i3, s3, h⟩ := bsome h
     refine EL_pur (v := ePtr d2 y44 1) (P_indexAddr (α := Str) Try.underlying36 Try.sizeOf9 rfl n0 rfl s3) .plain rfl ?_
     have a6 := PT_idx n0 s3
     refine EL_do .plain rfl (D_load (g := q3) Try.isAgg9 Try.sizeOf9 rfl a6 fun x6 b6 => ?_)
     obtain rfl := RV_str.1 b6
     refine EL_do .plain rfl (D_buildSlice (g := q3) 3034 (xs := ([i3] : List Str)) (vs := [Str.v (i3)]) Try.underlying36 Try.sizeOf9 Try.zeroValue9 rfl rfl (.cons rfl .nil) (RVs.cons (RV_str.2 rfl) RVs.nil) rfl rfl fun c6 y6 z6 hs o48 d6 hxt hfl => ?_)
     have hfr := hfr.stp hs
     have i1 := i1.stp hs
     have j1 := j1.stp hs rfl
     have n0 := n0.stp hs
     obtain ⟨i5, u5, h⟩ := bsome h
     refine EL_do .plain rfl (D_append (g := c6) (i := 1006) Try.underlying36 info_9 rfl rfl j1 i1 rfl d6 u5 fun e6 a7 n5 hs o49 i6 _ => ?_)
     have hfr := hfr.stp hs
     have n0 := n0.stp hs
     refine EL_at n5 rfl rfl ?_
     refine EL_nil (blk_n ?_)
     obtain rfl := sinj h
     exact hQ _ _ ⟨e6, (n5), hfr, rfl, i6, o49, p2, n0, q2, m1⟩
    ·clear hx
     obtain ⟨j6, p4, hfr, q4, s4, u4, x4, z4, u3, z3⟩ := hR
     refine E_region (EL_in (.int .i64 ((w64 (j0 + (1 : Int))))) z3 rfl rfl rfl ?_)
     refine EL_mw (.int .i64 ((w64 (j0 + (1 : Int))))) rfl rfl ?_
     exact EL_nil (thn_n (q5 (o0, (w64 (j0 + (1 : Int)))) _ _ ⟨j6, (p4), hfr, q4, s4, u4, x4, z4, u3, rfl⟩ h))
   ·refine E_cf z2 rfl ?_
    refine E_exit ?_
    refine thn_e ?_
    refine thn_e ?_
    refine blk_hit ?_
    obtain rfl := sinj h
    exact hQ _ _ ⟨q3, (o4), hfr, j3, i1, j1⟩
  ·clear hx
   obtain ⟨b7, m3, hfr, c5, d5, l6⟩ := hR
   refine E_seq (E_region (EL_mv c5 rfl ?_))
   refine EL_at m3 rfl rfl ?_
   refine EL_at (.int .i64 (0)) rfl rfl ?_
   refine EL_nil (thn_n (E_ret ?_))
   obtain rfl := sinj h
   exact end2 rfl rfl (show _ = m3 from rfl) (show _ = .int .i64 (0) from rfl) ⟨_, hfr, _, _, rfl, d5, rfl⟩
/-- griffe/fault.Wrong -/
def f20 (x0 : FaultLoom) (x1 : List FaultDamage) (x2 : Int) : Option ((List FaultSight) × Int) :=
 (f19 x0 x1 x2).bind fun y5 =>
 jn (σ := (List FaultSight)) (fun i3 =>
  (f19 x0 ([]) x2).bind fun m3 =>
  Option.bind (α := (List FaultSight)) (
   (f56 (y5.1) (m3.1)).bind fun u4 =>
   (u4 ((List FaultSight)) (fun o3 (j0, n0) =>
    (idx (y5.1) j0).bind fun s3 =>
    (idx (s3).b n0).bind fun o0 =>
    (apnd 24 o3 (([(⟨j0, n0, (o0 == (120 : UInt8))⟩ : FaultSight)] : List FaultSight))).bind fun u3 =>
    some (true, (u3))
    ) (i3)).bind fun p3 =>
   some (p3)
   ) fun z1 =>
  some (z1, (0 : Int))
  ) fun m6 =>
 bif (y5.2 != (0 : Int)) then
  some ([], y5.2)
 else
  m6 (([] : List FaultSight))
theorem en20 : Enters Try.prog 20 := enters_of Try.func20 (by kernel_rfl) rfl
theorem wk20 {gI : Gh} {wI : World} {x0 : FaultLoom} {x1 : List FaultDamage} {x2 : Int} {up0 : Value} (rp0 : RV gI.m wI x0 up0) {up1 : Value} (rp1 : RV gI.m wI x1 up1) {r : (List FaultSight) × Int} (h : f20 x0 x1 x2 = some r) : Fn Try.prog 20 #[up0, up1, .int .i64 (x2)] gI wI (fun m w v => ∃ y0 y1, v = .tuple #[y0, y1] ∧ RV m w (r.1) y0 ∧ y1 = .int .i64 (r.2)) := by
 unfold f20 at h
 refine fnD_of_E Try.func20 rfl (Nat.le_of_ble_eq_true rfl) fun g0 hm hfr => ?_
 have hmk : MkF g0 wI [] := MkF.start
 have rp0 : RV g0.m wI x0 up0 := hm ▸ rp0
 have rp1 : RV g0.m wI x1 up1 := hm ▸ rp1
 show E _ 48 none _ _ _ _ _
 refine E_seq (E_region (EL_do .plain rfl (D_box (g := g0) rfl rp0 fun g1 w1 p1 hs q1 => ?_)))
 have hfr := hfr.ext hs
 have hmk := hmk.ext hs
 have rp1 := rp1.ext hs
 refine EL_do .plain rfl (D_allocOc (g := g1) 2006 ([] : List FaultSight) Try.zeroValue39 (fun m w => ⟨_, rep_nil, rfl⟩) fun g2 w2 p2 hs b2 cb => ?_)
 have hfr := hfr.stp hs
 have hmk := hmk.stp hs
 have rp1 := rp1.stp hs
 have q1 := q1.stp hs
 have i2 : OSF 2006 60600 0 g2 w2 56 39 ([] : List FaultSight) p2 := cb.osf (by rfl)
 clear cb
 refine EL_at (.int .i64 (0)) rfl rfl ?_
 refine EL_nil (thn_n (E_seq (E_region (EL_do .plain rfl (D_load (g := g2) Try.isAgg28 Try.sizeOf28 rfl q1 fun v3 r3 => ?_)))))
 refine EL_mw up1 rfl rfl ?_
 refine EL_mw (.int .i64 (x2)) rfl rfl ?_
 obtain ⟨y5, r7, h⟩ := bsome h
 refine EL_do .plain rfl (D_call (g := g2) (vs := [v3, up1, .int .i64 (x2)]) en19 (.cons rfl (.cons rfl (.cons rfl .nil))) (wk19 r3 rp1 r7) fun g4 w4_ v4 hs hr => ?_)
 have hfr := hfr.ext hs
 have hmk := hmk.ext hs
 have q1 := q1.ext hs
 have i2 := i2.ext hs
 have b2 := b2.ext hs
 obtain ⟨c4, l8, rfl, d4, rfl⟩ := hr
 refine EL_mw (.tuple #[c4, .int .i64 (y5.2)]) rfl rfl ?_
 refine EL_pur (v := c4) (P_extract rfl rfl) .plain rfl ?_
 refine EL_pur (v := .int .i64 (y5.2)) (P_extract rfl rfl) .plain rfl ?_
 refine EL_do .plain rfl (D_allocOc (g := g4) 2008 ([] : List Str) Try.zeroValue36 (fun m w => ⟨_, rep_nil, rfl⟩) fun g6 w6 p6 hs b6 cb => ?_)
 have hfr := hfr.stp hs
 have hmk := hmk.stp hs
 have q1 := q1.stp hs
 have i2 := i2.stp hs rfl
 have b2 := b2.stp hs rfl
 have d4 := d4.stp hs
 have m8 : OSF 2008 60800 0 g6 w6 9 36 ([] : List Str) p6 := cb.osf (by rfl)
 clear cb
 refine EL_do .plain rfl (D_storeOc (g := g6) (v := c4) Try.sizeOf36 rfl b6 rfl d4 fun g7 w7 hs b7 cb => ?_)
 clear cb
 have hfr := hfr.stp hs
 have hmk := hmk.stp hs
 have q1 := q1.stp hs
 have i2 := i2.stp hs rfl
 have b2 := b2.stp hs rfl
 refine EL_at (.int .i64 (y5.2)) rfl rfl ?_
 refine EL_nil (thn_n (E_joinCD h (fun (s : (List FaultSight)) e ds w => ∃ (g : Gh) , Fr gI wI g w ∧ MkF g w ds ∧ e 2 = .int .i64 (x2) ∧ e 3 = p1 ∧ PT g.m w (x0 : FaultLoom) p1 ∧ e 6 = p2 ∧ OB 2006 g w 39 (s : List FaultSight) p2 ∧ OSF 2006 60600 0 g w 56 39 (s) p2 ∧ e 8 = p6 ∧ OB 2008 g w 36 (y5.1 : List Str) p6) (fun X12 m6 r6 h => ?_) ?_))
 ·refine E_seq (E_region (EL_mw (.int .i64 (y5.2)) rfl rfl ?_))
  refine EL_in (.bool ((y5.2 != (0 : Int)))) rfl rfl rfl rfl ?_
  refine EL_nil (thn_n ?_)
  rcases csome h with ⟨e4, h⟩ | ⟨e4, h⟩
  ·refine E_ct e4 rfl ?_
   refine E_seq (E_region (EL_mw (.int .i64 (y5.2)) rfl rfl ?_))
   refine EL_do .plain rfl (D_storeOc (g := g7) (v := .slice none 0 0) Try.sizeOf39 rfl b2 rfl RV_nil fun s7 t7 hs b14 cb => ?_)
   have g8 : OSF 2006 60600 0 s7 t7 56 39 ([] : List FaultSight) p2 := cb.osfr (rfl) OS.nil
   clear cb
   have hfr := hfr.stp hs
   have hmk := hmk.stp hs
   refine EL_at (.int .i64 (y5.2)) rfl rfl ?_
   refine EL_nil (thn_n (E_ret (thn_r ?_)))
   refine endM (.inr rfl) hmk fun y8 z8 hs => ?_
   have hfr := hfr.stp hs
   have b14 := b14.stp hs rfl
   obtain rfl := sinj h
   obtain ⟨ad16, cv16, hp16, s6, cr16⟩ := ob_read Try.isAgg39 Try.sizeOf39 b14
   exact endm_ct rfl rfl ((show _ = p2 from rfl).trans hp16) s6 (show _ = .int .i64 (y5.2) from rfl) ⟨_, hfr, _, _, rfl, cr16, rfl⟩
  ·refine E_cf e4 rfl ?_
   exact E_skip (thn_n (r6 (([] : List FaultSight)) _ _ _ ⟨g7, hfr, hmk, rfl, rfl, q1, rfl, b2, i2, rfl, b7⟩ h))
 ·rintro i3 n8 m4 a9 ⟨n6, hfr, hmk, t5, u5, x5, j3, j2, u6_0_17, n4, d2⟩ h
  refine E_seq (E_region (EL_do .plain rfl (D_load (g := n6) Try.isAgg28 Try.sizeOf28 u5 x5 fun u7 v7 => ?_)))
  refine EL_mv t5 rfl ?_
  obtain ⟨m3, t6, h⟩ := bsome h
  refine EL_do .plain rfl (D_call (g := n6) (vs := [u7, .slice none 0 0, .int .i64 (x2)]) en19 (.cons rfl (.cons rfl (.cons rfl .nil))) (wk19 v7 RV_nil t6) fun o6 o8 b9 hs hr => ?_)
  have hfr := hfr.ext hs
  have hmk := hmk.ext hs
  have u6_0_17 := u6_0_17.ext hs
  have j2 := j2.ext hs
  have d2 := d2.ext hs
  obtain ⟨m2, i8, rfl, a6, rfl⟩ := hr
  refine EL_mw (.tuple #[m2, .int .i64 (m3.2)]) rfl rfl ?_
  refine EL_pur (v := m2) (P_extract rfl rfl) .plain rfl ?_
  refine EL_pur (v := .int .i64 (m3.2)) (P_extract rfl rfl) .plain rfl ?_
  refine EL_at m2 rfl rfl ?_
  refine EL_at (.int .i64 (m3.2)) rfl rfl ?_
  refine EL_nil (thn_n ?_)
  obtain ⟨z1, hx, h⟩ := bsome h
  refine E_joinD (fun e ds w => ∃ (g : Gh) , Fr gI wI g w ∧ MkF g w ds ∧ e 6 = p2 ∧ OB 2006 g w 39 (z1 : List FaultSight) p2 ∧ OSF 2006 60600 0 g w 56 39 (z1) p2) (fun Q' hQ => ?_) (fun j8 x7 u6 hR => ?_)
  ·replace h := hx
   clear hx
   refine E_seq (E_region (EL_do .plain rfl (D_loadO (g := o6) Try.isAgg36 Try.sizeOf36 n4 d2 fun y7 z7 => ?_)))
   refine EL_mw m2 rfl rfl ?_
   obtain ⟨u4, v6, h⟩ := bsome h
   refine EL_do .plain rfl (D_call (g := o6) (vs := [y7, m2]) en56 (.cons rfl (.cons rfl .nil)) (wk56 z7 a6 v6) fun c9 p8 a8 hs hr => ?_)
   have hfr := hfr.ext hs
   have hmk := hmk.ext hs
   have u6_0_17 := u6_0_17.ext hs
   have j2 := j2.ext hs
   have d2 := d2.ext hs
   have q6 := hr
   refine EL_nil (thn_n (E_block ?_))
   have hB0 := hfr.size
   have hmk0 := hmk
   obtain ⟨p3, hφ, h⟩ := bsome h
   refine E_rangeFunc (σ := ((List FaultSight))) (s0 := (i3)) 10 rfl (fun _ => 0) [] (fun (s : (List FaultSight)) (g : Gh) (w : World) => Fr gI wI g w ∧ MkF g w m4 ∧ OB 2006 g w 39 (s : List FaultSight) p2 ∧ OSF 2006 60600 0 g w 56 39 (s) p2 ∧ OB 2008 g w 36 (y5.1 : List Str) p6 ∧ ItV Try.prog (RA2 (α := Int) (β := Int)) u4 a8 g.m w) rfl q6 hφ (fun _ _ _ _ => rfl) rfl ra2_size rfl (fun _ _ _ _ _ hx hR => by obtain ⟨hfr, hmk, z2, z3, z4, z5⟩ := hR; exact ⟨hfr.ist hx hB0, hmk.ist hx, z2.ist hx, z3.ist hx, z4.ist hx, z5.ist hx⟩) (fun _ _ _ _ _ hx hR => by obtain ⟨hfr, hmk, z2, z3, z4, z5⟩ := hR; exact ⟨hfr.stp hx, hmk.stp hx, z2.stp hx rfl, z3.stp hx rfl, z4.stp hx rfl, z5.stp hx⟩) ⟨hfr, hmk, j2, u6_0_17, d2, q6⟩ (fun _ h => by cases h) ?_ ?_
   ·intro k8 b8 s x b s2 i4 x6 vs hsz h hR hrec_0 p4 hrd
    obtain ⟨o3, hse⟩ : ∃ y, y = s := ⟨s, rfl⟩
    subst hse
    obtain ⟨hfr, hmk, j1, u6_0_128, i1, u0⟩ := hR
    obtain ⟨j0, n0⟩ := x
    obtain ⟨x4, c5, rfl, q4, s4⟩ := ra2_get hrd
    obtain rfl : x4 = .int .i64 (j0) := RV_int.1 q4
    obtain rfl : c5 = .int .i64 (n0) := RV_int.1 s4
    have m1 := RFr.refl i4 x6
    refine E_seq (E_region (EL_at (.int .i64 (j0)) rfl rfl ?_))
    refine EL_nil (thn_n (E_region (EL_at (.int .i64 (n0)) rfl rfl ?_)))
    refine EL_nil (thn_n ?_)
    obtain ⟨d5, hbr, hs, hrN⟩ := begin_round hrec_0 p4
    refine ⟨d5, hbr, ?_⟩
    have hfr := hfr.stp hs
    have hmk := hmk.stp hs
    have m1 := m1.stp hs
    have u6_0_128 := u6_0_128.stp hs rfl
    have j1 := j1.stp hs rfl
    have i1 := i1.stp hs rfl
    have u0 := u0.stp hs
    have hrec_0 := hrN
    clear hbr hs hrN
    refine E_block ?_
    refine L_loadOS (x := .tmp 6) Try.isAgg39 Try.sizeOf39 j1 u6_0_128 fun y6 j4 o130 c6 => ?_
    refine L_loadO0 (x := .tmp 8) Try.isAgg36 Try.sizeOf36 i1 fun e5 i5 d6 => ?_
    obtain ⟨s3, o4, h⟩ := bsome h
    have z6 := PT_idx i5 o4
    refine L_load (x := .tmp 39) Try.isAgg9 Try.sizeOf9 z6 fun q8 a7 e6 => ?_
    obtain rfl := RV_str.1 a7
    obtain ⟨o0, i6, h⟩ := bsome h
    have j5 : RV i4.m d5 (⟨j0, n0, (o0 == (120 : UInt8))⟩ : FaultSight) (.agg (setCh [[.int .i64 0], [.int .i64 0], [.bool false]] [(0, .int .i64 (j0)), (1, .int .i64 (n0)), (2, .bool ((o0 == (120 : UInt8))))]).flatten.toArray) := RV_build rfl (rep_pair (rfl) (rep_pair (rfl) (rep_last (rfl))))
    generalize j6 : (Value.agg (setCh [[.int .i64 0], [.int .i64 0], [.bool false]] [(0, .int .i64 (j0)), (1, .int .i64 (n0)), (2, .bool ((o0 == (120 : UInt8))))]).flatten.toArray) = l5 at j5
    refine E_drawL (g := i4) (n := 12) [(11, (fun v g w => RV g.m w ([(⟨j0, n0, (o0 == (120 : UInt8))⟩ : FaultSight)] : List FaultSight) v ∧ OS 3045 g w 56 ([(⟨j0, n0, (o0 == (120 : UInt8))⟩ : FaultSight)] : List FaultSight) v ∧ FullV v))] [0, 1, 2, 3, 4, 5, 6, 7, 8, 9, 10, 11] rfl mixed (by kernel_rfl) (⟨fun _ => up_and up_rv (up_and up_os (up_eq _)), trivial⟩) ?_
    refine L_ld (c := y6) rfl rfl .plain (fun _ _ h => ⟨h.ch, fun b hb _ => h.below.block b hb⟩) c6 j3 ?_
    refine L_pur (c := .int .i64 (j0)) rfl rfl .plain (fun _ _ hd => P_move rfl) ?_
    refine L_pur (c := .int .i64 (n0)) rfl rfl .plain (fun _ _ hd => P_move rfl) ?_
    refine L_ld (c := e5) rfl rfl .plain (fun _ _ h => ⟨h.ch, fun b hb _ => h.below.block b hb⟩) d6 n4 ?_
    refine L_pur (c := .int .i64 (j0)) rfl rfl .plain (fun _ _ hd => P_move rfl) ?_
    refine L_pur (c := ePtr e5 j0 1) rfl rfl .plain (fun _ _ hd => P_indexAddr (α := Str) Try.underlying36 Try.sizeOf9 rfl i5 rfl o4) ?_
    refine L_ld (c := Str.v (s3)) rfl rfl .plain (fun _ _ h => h.ch) e6 rfl ?_
    refine L_pur (c := .int .i64 (n0)) rfl rfl .plain (fun _ _ hd => P_move rfl) ?_
    refine L_pur (c := .int .u8 (UInt8.toNat (o0))) rfl rfl .plain (fun _ _ hd => P_indexS Try.underlying9 rfl rfl i6) ?_
    refine L_pur (c := .bool ((o0 == (120 : UInt8)))) rfl rfl .plain (fun _ _ hd => P_u8 rfl rfl rfl) ?_
    refine L_pur (c := l5) rfl rfl .plain (fun _ _ hd => j6 ▸ P_build (vs := [(0, .int .i64 (j0)), (1, .int .i64 (n0)), (2, .bool ((o0 == (120 : UInt8))))]) [[.int .i64 0], [.int .i64 0], [.bool false]] lay_56 rfl rfl (.cons rfl (.cons rfl (.cons rfl .nil))) ⟨⟨_, rfl, rfl⟩, ⟨⟨_, rfl, rfl⟩, ⟨⟨_, rfl, rfl⟩, trivial⟩⟩⟩) ?_
    refine L_do (φ := fun v g w => RV g.m w ([(⟨j0, n0, (o0 == (120 : UInt8))⟩ : FaultSight)] : List FaultSight) v ∧ OS 3045 g w 56 ([(⟨j0, n0, (o0 == (120 : UInt8))⟩ : FaultSight)] : List FaultSight) v ∧ FullV v) rfl rfl .plain (fun g w hd => D_buildSlice (g := g) 3045 (xs := ([(⟨j0, n0, (o0 == (120 : UInt8))⟩ : FaultSight)] : List FaultSight)) (vs := [l5]) Try.underlying39 Try.sizeOf56 Try.zeroValue56 rfl rfl (.cons rfl .nil) (RVs.cons (j5.ext hd.1) RVs.nil) rfl rfl fun g' w' v hs o r hxt hfl => ⟨g', hxt, r, o, hfl⟩) (fun q2 hv => ?_)
    clear hv
    refine L_nil fun c7 r8 hall => ?_
    have hs := hall.1
    have hfr := hfr.ext hs
    have hmk := hmk.ext hs
    have m1 := m1.ext hs
    have hrec_0 := hrec_0.ext hs
    have j1 := j1.ext hs
    have i1 := i1.ext hs
    have u0 := u0.ext hs
    have j4 := j4.ext hs
    have o130 := o130.ext hs
    have d7 := (word_all (A := fun g w => RV g.m w ([(⟨j0, n0, (o0 == (120 : UInt8))⟩ : FaultSight)] : List FaultSight) q2 ∧ OS 3045 g w 56 ([(⟨j0, n0, (o0 == (120 : UInt8))⟩ : FaultSight)] : List FaultSight) q2 ∧ FullV q2) 11 rfl hall).1
    have o157 := (word_all (A := fun g w => RV g.m w ([(⟨j0, n0, (o0 == (120 : UInt8))⟩ : FaultSight)] : List FaultSight) q2 ∧ OS 3045 g w 56 ([(⟨j0, n0, (o0 == (120 : UInt8))⟩ : FaultSight)] : List FaultSight) q2 ∧ FullV q2) 11 rfl hall).2.1
    clear hs hall
    obtain ⟨u3, k6, h⟩ := bsome h
    refine EL_do .plain rfl (D_append (g := c7) (i := 60600) Try.underlying39 info_56 rfl rfl o130 j4 rfl d7 k6 fun e7 t8 i7 hs o158 m5 _ => ?_)
    have hfr := hfr.stp hs
    have hmk := hmk.stp hs
    have m1 := m1.stp hs
    have hrec_0 := hrec_0.stp hs rfl
    have j1 := j1.stp hs rfl
    have i1 := i1.stp hs rfl
    have u0 := u0.stp hs
    refine EL_do .plain rfl (D_storeOc (g := e7) (v := i7) Try.sizeOf39 j3 j1 rfl m5 fun j7 l7 hs b160 cb => ?_)
    have n5 : OSF 2006 60600 0 j7 l7 56 39 (u3 : List FaultSight) p2 := cb.osfr (rv_cells1 m5) (o158.stp hs rfl)
    clear cb
    have hfr := hfr.stp hs
    have hmk := hmk.stp hs
    have m1 := m1.stp hs
    have hrec_0 := hrec_0.stp hs rfl
    have i1 := i1.stp hs rfl
    have u0 := u0.stp hs
    refine EL_nil (blk_n ?_)
    obtain ⟨rfl, rfl⟩ := pairs2 h
    exact ⟨_, m1, ⟨hfr, hmk, b160, n5, i1, u0⟩, hrec_0, rfl, rfl⟩
   ·intro m7 v8 ds162 hsz hR hds
    obtain ⟨hfr, hmk, o5, u6_0_162, c8, q7⟩ := hR
    obtain ⟨D, hdse, hD, hDb⟩ := hds.1 rfl
    subst hdse
    replace hmk := MkF.push hmk0 hmk hD hDb
    clear hD hDb hds
    revert hmk
    generalize ({ target := .collected D, args := #[] } :: m4 : List Deferred) = d8
    intro hmk
    refine ⟨fun _ => ?_, fun k c hs _ => absurd hs (Nat.succ_ne_zero k).symm⟩
    refine blk_n ?_
    obtain rfl := sinj h
    exact hQ _ _ _ ⟨m7, hfr, hmk, j3, o5, u6_0_162⟩
  ·clear hx
   obtain ⟨p5, hfr, hmk, d3, q3, u6_0_163⟩ := hR
   refine E_seq (E_region (EL_do .plain rfl (D_loadOS (g := p5) Try.isAgg39 Try.sizeOf39 d3 q3 u6_0_163 fun n7 q5 o164 => ?_)))
   refine EL_do .plain rfl (D_storeOc (g := p5) (v := n7) Try.sizeOf39 d3 q3 rfl q5 fun o7 p7 hs b165 cb => ?_)
   have e8 : OSF 2006 60600 0 o7 p7 56 39 (z1 : List FaultSight) p2 := cb.osfr (rv_cells1 q5) (o164.stp hs rfl)
   clear cb
   have hfr := hfr.stp hs
   have hmk := hmk.stp hs
   refine EL_at (.int .i64 (0)) rfl rfl ?_
   refine EL_nil (thn_n (E_ret (endM (.inr rfl) hmk fun x8 u6 hs => ?_)))
   have hfr := hfr.stp hs
   have b165 := b165.stp hs rfl
   obtain rfl := sinj h
   obtain ⟨ad167, cv167, hp167, l6, cr167⟩ := ob_read Try.isAgg39 Try.sizeOf39 b165
   exact endm_ct rfl rfl ((show _ = p2 from d3).trans hp167) l6 (show _ = .int .i64 (0) from rfl) ⟨_, hfr, _, _, rfl, cr167, rfl⟩
end Go.Proofs.Ytpiaipiehjcflaa
