import Derived.Test.YtcjpochjapnoaaaGreatCode3
set_option maxRecDepth 8000
set_option maxHeartbeats 4000000
namespace Go.Proofs.YtcjpochjapnoaaaGreat
open Go.RowKit
def f145 : Nat → (List FaultDamage) → (Int) → (Int) → (Int) → (FaultDamage → FaultDamage → Option Int) → Option ((List FaultDamage))
 | 0, _, _, _, _, _ => none
 | n + 1, x0, x1, x2, x3, x4 =>
  jn (σ := (List FaultDamage)) (fun x5 =>
   jn (σ := (List FaultDamage)) (fun q5 =>
    (shr64 (wu64 (w64 (x1 + x3))) (1 : Int)).bind fun u0 =>
    Option.bind (α := Int × Int) (
     bif (decide (x2 > (w64 u0))) then
      some ((w64 ((w64 ((w64 u0) + x2)) - x3)), (w64 u0))
     else
      some (x1, x2)
     ) fun (a9, d9) =>
    Option.bind (α := Int) (
     lp (σ := Int × Int) (fun yF (i3, u3) =>
      jn (σ := Unit) (fun _ =>
       (shr64 (wu64 (w64 (i3 + u3))) (1 : Int)).bind fun d3 =>
       (idx q5 (w64 ((w64 ((w64 ((w64 u0) + x2)) - (1 : Int))) - (w64 d3)))).bind fun sH =>
       (idx q5 (w64 d3)).bind fun tH =>
       (x4 sH tH).bind fun e9 =>
       bif (!(decide (e9 < (0 : Int)))) then
        yF ((w64 ((w64 d3) + (1 : Int))), u3)
       else
        yF (i3, (w64 d3))
       ) fun uH =>
      bif (decide (i3 < u3)) then
       uH ()
      else
       some (i3)
      ) big (a9, d9)
     ) fun o0 =>
    Option.bind (α := (List FaultDamage)) (
     Option.bind (α := Bool) (
      bif (decide (o0 < x2)) then
       some ((decide (x2 < (w64 ((w64 ((w64 u0) + x2)) - o0)))))
      else
       some (false)
      ) fun i7 =>
     bif i7 then
      (f160 q5 o0 x2 ((w64 ((w64 ((w64 u0) + x2)) - o0))) x4).bind fun vH =>
      some (vH)
     else
      some (q5)
     ) fun u7 =>
    Option.bind (α := (List FaultDamage)) (
     Option.bind (α := Bool) (
      bif (decide (x1 < o0)) then
       some ((decide (o0 < (w64 u0))))
      else
       some (false)
      ) fun j7 =>
     bif j7 then
      (f145 n u7 x1 o0 ((w64 u0)) x4).bind fun xH =>
      some (xH)
     else
      some (u7)
     ) fun v7 =>
    Option.bind (α := Bool) (
     bif (decide ((w64 u0) < (w64 ((w64 ((w64 u0) + x2)) - o0)))) then
      some ((decide ((w64 ((w64 ((w64 u0) + x2)) - o0)) < x3)))
     else
      some (false)
     ) fun m7 =>
    bif m7 then
     (f145 n v7 ((w64 u0)) ((w64 ((w64 ((w64 u0) + x2)) - o0))) x3 x4).bind fun yH =>
     some (yH)
    else
     some (v7)
    ) fun zH =>
   bif ((w64 (x3 - x2)) == (1 : Int)) then
    Option.bind (α := Int) (
     lp (σ := Int × Int) (fun zF (j3, z3) =>
      jn (σ := Unit) (fun _ =>
       (shr64 (wu64 (w64 (j3 + z3))) (1 : Int)).bind fun i5 =>
       (idx x5 x2).bind fun aI =>
       (idx x5 (w64 i5)).bind fun bI =>
       (x4 aI bI).bind fun i9 =>
       bif (!(decide (i9 < (0 : Int)))) then
        zF ((w64 ((w64 i5) + (1 : Int))), z3)
       else
        zF (j3, (w64 i5))
       ) fun cI =>
      bif (decide (j3 < z3)) then
       cI ()
      else
       some (j3)
      ) big (x1, x2)
     ) fun i6 =>
    Option.bind (α := (List FaultDamage)) (
     lp (σ := (List FaultDamage) × Int) (fun dI (j6, j1) =>
      jn (σ := Unit) (fun _ =>
       Option.bind (α := (List FaultDamage)) (
        (idx j6 (w64 (j1 - (1 : Int)))).bind fun qC =>
        (idx j6 j1).bind fun aG =>
        (idx j6 j1).bind fun jM =>
        (idx ((List.set j6 (Int.toNat j1) qC)) (w64 (j1 - (1 : Int)))).bind fun kM =>
        some ((List.set ((List.set j6 (Int.toNat j1) qC)) (Int.toNat (w64 (j1 - (1 : Int)))) aG))
        ) fun m8 =>
       dI (m8, (w64 (j1 - (1 : Int))))
       ) fun jI =>
      bif (decide (j1 > i6)) then
       jI ()
      else
       some (j6)
      ) big (x5, x2)
     ) fun iA =>
    some (iA)
   else
    zH (x5)
   ) fun kI =>
  bif ((w64 (x2 - x1)) == (1 : Int)) then
   Option.bind (α := Int) (
    lp (σ := Int × Int) (fun bG (o3, z4) =>
     jn (σ := Unit) (fun _ =>
      (shr64 (wu64 (w64 (o3 + z4))) (1 : Int)).bind fun l5 =>
      (idx x0 (w64 l5)).bind fun lI =>
      (idx x0 x1).bind fun mI =>
      (x4 lI mI).bind fun jA =>
      bif (decide (jA < (0 : Int))) then
       bG ((w64 ((w64 l5) + (1 : Int))), z4)
      else
       bG (o3, (w64 l5))
      ) fun nI =>
     bif (decide (o3 < z4)) then
      nI ()
     else
      some (o3)
     ) big (x2, x3)
    ) fun t5 =>
   Option.bind (α := (List FaultDamage)) (
    lp (σ := (List FaultDamage) × Int) (fun oI (v6, z2) =>
     jn (σ := Unit) (fun _ =>
      Option.bind (α := (List FaultDamage)) (
       (idx v6 (w64 (z2 + (1 : Int)))).bind fun rC =>
       (idx v6 z2).bind fun cG =>
       (idx v6 z2).bind fun mM =>
       (idx ((List.set v6 (Int.toNat z2) rC)) (w64 (z2 + (1 : Int)))).bind fun nM =>
       some ((List.set ((List.set v6 (Int.toNat z2) rC)) (Int.toNat (w64 (z2 + (1 : Int)))) cG))
       ) fun n8 =>
      oI (n8, (w64 (z2 + (1 : Int))))
      ) fun pI =>
     bif (decide (z2 < (w64 (t5 - (1 : Int))))) then
      pI ()
     else
      some (v6)
     ) big (x0, x1)
    ) fun kA =>
   some (kA)
  else
   kI (x0)
theorem en145 : Enters Tryz.prog 145 := enters_of Tryz.func145 (by kernel_rfl) rfl
theorem wk145 (n : Nat) : ∀ {iI : Nat} {gI : Gh} {wI : World} {x0 : List FaultDamage} {x1 : Int} {x2 : Int} {x3 : Int} {x4 : FaultDamage → FaultDamage → Option Int} {up0 : Value} (mp0 : OM iI gI wI 39 x0 up0) {up4 : Value} (rp4 : FnV2 Tryz.prog x4 up4 gI wI) {r : (List FaultDamage)} (h : f145 n x0 x1 x2 x3 x4 = some r), FnM Tryz.prog 145 #[up0, .int .i64 (x1), .int .i64 (x2), .int .i64 (x3), up4] iI gI wI (fun g w v => v = .tuple #[] ∧ OM iI g w 39 r up0) := by
 induction n with
 | zero => intros; rename_i h; cases h
 | succ n ih =>
 intro iI gI wI x0 x1 x2 x3 x4 up0 mp0 up4 rp4 r h
 simp only [f145] at h
 refine fnM_of_E Tryz.func145 rfl (Nat.le_of_ble_eq_true rfl) fun g0 hm hfr => ?_
 have gA := mp0
 replace mp0 := mp0.enter
 rw [← hm] at mp0
 replace hm : g0.m = gI.m := by rw [hm]
 obtain ⟨ff4, fa4, fc4, rfl, fen4, fcl4⟩ := rp4
 show E _ 220 none _ _ _ _ _
 refine E_joinC h (fun (s : (List FaultDamage)) e w => ∃ (g : Gh) , FrM iI gI wI g w ∧ e 0 = up0 ∧ OM 1 g w 39 (s : List FaultDamage) up0 ∧ e 1 = .int .i64 (x1) ∧ e 2 = .int .i64 (x2) ∧ e 3 = .int .i64 (x3) ∧ e 4 = (.func (.func ff4) fa4 fc4)) (fun X203 kI aL h => ?_) ?_
 ·refine E_seq (E_region (EL_mw (.int .i64 (x2)) rfl rfl ?_))
  refine EL_mw (.int .i64 (x1)) rfl rfl ?_
  refine EL_in (.int .i64 ((w64 (x2 - x1)))) rfl rfl rfl rfl ?_
  refine EL_in (.bool (((w64 (x2 - x1)) == (1 : Int)))) rfl rfl rfl rfl ?_
  refine EL_nil (thn_n ?_)
  rcases csome h with ⟨tC, h⟩ | ⟨tC, h⟩
  ·refine E_ct tC rfl ?_
   refine E_seq (E_region (EL_mw (.int .i64 (x2)) rfl rfl ?_))
   refine EL_at (.int .i64 (x2)) rfl rfl ?_
   refine EL_nil (thn_n (E_seq (E_region (EL_mw (.int .i64 (x3)) rfl rfl ?_))))
   refine EL_at (.int .i64 (x3)) rfl rfl ?_
   refine EL_nil (thn_n ?_)
   obtain ⟨t5, hx, h⟩ := bsome h
   refine E_join (fun e w => ∃ (g : Gh) , FrM iI gI wI g w ∧ e 0 = up0 ∧ OM 1 g w 39 (x0 : List FaultDamage) up0 ∧ e 1 = .int .i64 (x1) ∧ e 10 = .int .i64 (t5)) (fun Q' hQ => ?_) (fun yN dP hR => ?_)
   ·replace h := hx
    clear hx
    refine E_block ?_
    refine E_lp h (fun (s : Int × Int) e w => ∃ (g : Gh) , FrM iI gI wI g w ∧ e 0 = up0 ∧ OM 1 g w 39 (x0 : List FaultDamage) up0 ∧ e 1 = .int .i64 (x1) ∧ e 4 = (.func (.func ff4) fa4 fc4) ∧ e 10 = .int .i64 (s.1) ∧ e 11 = .int .i64 (s.2)) ⟨g0, hfr, rfl, mp0, rfl, rfl, rfl, rfl⟩ (fun X243 bG gG => ?_)
    rintro ⟨o3, z4⟩ zN eP ⟨qI, hfr, mD, nD, oD, rI, k9, eB⟩ h
    refine E_joinC h (fun (s : Unit) e w => ∃ (g : Gh) , FrM iI gI wI g w ∧ e 0 = up0 ∧ OM 1 g w 39 (x0 : List FaultDamage) up0 ∧ e 1 = .int .i64 (x1) ∧ e 4 = (.func (.func ff4) fa4 fc4) ∧ e 10 = .int .i64 (o3) ∧ e 11 = .int .i64 (z4)) (fun X246 nI bL h => ?_) ?_
    ·refine E_seq (E_region (EL_mv k9 rfl ?_))
     refine EL_mv eB rfl ?_
     refine EL_in (.bool ((decide (o3 < z4)))) rfl rfl rfl rfl ?_
     refine EL_nil (thn_n ?_)
     rcases csome h with ⟨uC, h⟩ | ⟨uC, h⟩
     ·refine E_ct uC rfl ?_
      exact E_skip (thn_n (bL () _ _ ⟨qI, hfr, mD, nD, oD, rI, k9, eB⟩ h))
     ·refine E_cf uC rfl ?_
      refine E_exit ?_
      refine thn_e ?_
      refine thn_e ?_
      refine blk_hit ?_
      obtain rfl := sinj h
      exact hQ _ _ ⟨qI, hfr, mD, nD, oD, k9⟩
    ·rintro _ aO gP ⟨oM, hfr, o8, x6, lA, mA, iB, jB⟩ h
     refine E_block ?_
     refine E_seq (E_region (EL_mv iB rfl ?_))
     refine EL_mv jB rfl ?_
     refine EL_in (.int .i64 ((w64 (o3 + z4)))) rfl rfl rfl rfl ?_
     refine EL_p (.int .u64 (wu64 (w64 (o3 + z4)))) (P_intu64 Tryz.underlying3 Tryz.underlying134 rfl) rfl ?_
     obtain ⟨l5, cL, h⟩ := bsome h
     refine EL_p (.int .u64 (l5)) (P_shrU rfl rfl cL) rfl ?_
     refine EL_p (.int .i64 ((w64 l5))) (P_u64int Tryz.underlying134 Tryz.underlying3 rfl) rfl ?_
     refine EL_at (.int .i64 ((w64 l5))) rfl rfl ?_
     refine EL_nil (thn_n (E_seq ?_))
     obtain ⟨lI, hG, h⟩ := bsome h
     refine L_loadM (x := .tmp 43) Tryz.isAgg39 Tryz.sizeOf39 x6 hG fun sI pM dL => ?_
     obtain ⟨mI, iG, h⟩ := bsome h
     refine L_loadM (x := .tmp 47) Tryz.isAgg39 Tryz.sizeOf39 x6 iG fun tI qM eL => ?_
     obtain ⟨jA, gL, h⟩ := bsome h
     refine E_drawL (g := oM) (n := 11) [(9, (fun v g w => v = .int .i64 (jA)))] [0, 1, 2, 3, 4, 5, 6, 7, 8, 9, 10] rfl mixed (by kernel_rfl) (⟨fun _ => up_eq _, trivial⟩) ?_
     refine L_p ((.func (.func ff4) fa4 fc4)) rfl rfl (P_move mA) ?_
     refine L_p up0 rfl rfl (P_move o8) ?_
     refine L_p (.int .i64 ((w64 l5))) rfl rfl (P_move rfl) ?_
     refine L_p (ePtr up0 (w64 l5) 5) rfl rfl (P_indexAddrM (α := FaultDamage) Tryz.underlying41 Tryz.sizeOf39 rfl x6 rfl hG) ?_
     refine L_ld (c := sI) rfl rfl .plain (fun _ _ h => ⟨h.ch, fun b hb _ => h.below.block b hb⟩) dL rfl ?_
     refine L_p up0 rfl rfl (P_move o8) ?_
     refine L_p (.int .i64 (x1)) rfl rfl (P_move lA) ?_
     refine L_p (ePtr up0 x1 5) rfl rfl (P_indexAddrM (α := FaultDamage) Tryz.underlying41 Tryz.sizeOf39 rfl x6 rfl iG) ?_
     refine L_ld (c := tI) rfl rfl .plain (fun _ _ h => ⟨h.ch, fun b hb _ => h.below.block b hb⟩) eL rfl ?_
     refine L_do (φ := fun v g w => v = .int .i64 (jA)) rfl rfl .plain (fun g w hd => D_callv (g := g) (vs := [sI, tI]) rfl fen4 (.cons rfl (.cons rfl .nil)) (fcl4 _ _ (hfr.ext hd.1).ch _ _ _ _ _  (pM.ext hd.1) (qM.ext hd.1) gL) fun g' w' v hs hr => ⟨g', hs, RV_int.1 hr⟩) (fun iP hv => ?_)
     obtain ⟨_, _, _, rfl⟩ := hv
     refine L_p (.bool ((decide (jA < (0 : Int))))) rfl rfl (P_int rfl rfl rfl) ?_
     refine L_nl fun uI jP hs => ?_
     have hfr := hfr.ext hs
     have x6 := x6.ext hs
     clear hs
     refine EL_nil (thn_n ?_)
     rcases csome h with ⟨vC, h⟩ | ⟨vC, h⟩
     ·refine E_ct vC rfl ?_
      refine E_region (EL_mw (.int .i64 ((w64 l5))) rfl rfl ?_)
      refine EL_in (.int .i64 ((w64 ((w64 l5) + (1 : Int))))) rfl rfl rfl rfl ?_
      refine EL_at (.int .i64 ((w64 ((w64 l5) + (1 : Int))))) rfl rfl ?_
      exact EL_nil (blk_n (thn_n (gG ((w64 ((w64 l5) + (1 : Int))), z4) _ _ ⟨uI, hfr, o8, x6, lA, mA, rfl, jB⟩ h)))
     ·refine E_cf vC rfl ?_
      refine E_region (EL_mw (.int .i64 ((w64 l5))) rfl rfl ?_)
      refine EL_at (.int .i64 ((w64 l5))) rfl rfl ?_
      exact EL_nil (blk_n (thn_n (gG (o3, (w64 l5)) _ _ ⟨uI, hfr, o8, x6, lA, mA, iB, rfl⟩ h)))
   ·clear hx
    obtain ⟨rM, hfr, vI, xI, yI, yG⟩ := hR
    obtain ⟨kA, hx, h⟩ := bsome h
    refine E_join (fun e w => ∃ (g : Gh) , FrM iI gI wI g w ∧ e 0 = up0 ∧ OM 1 g w 39 (kA : List FaultDamage) up0) (fun Q' hQ => ?_) (fun bO kP hR => ?_)
    ·replace h := hx
     clear hx
     refine E_seq (E_region (EL_mv yI rfl ?_))
     refine EL_at (.int .i64 (x1)) rfl rfl ?_
     refine EL_nil (thn_n (E_block ?_))
     refine E_lp h (fun (s : (List FaultDamage) × Int) e w => ∃ (g : Gh) , FrM iI gI wI g w ∧ e 0 = up0 ∧ OM 1 g w 39 (s.1 : List FaultDamage) up0 ∧ e 10 = .int .i64 (t5) ∧ e 13 = .int .i64 (s.2)) ⟨rM, hfr, vI, xI, yG, rfl⟩ (fun X343 oI iL => ?_)
     rintro ⟨v6, z2⟩ cO lP ⟨zI, hfr, sD, tD, kB, lB⟩ h
     refine E_joinC h (fun (s : Unit) e w => ∃ (g : Gh) , FrM iI gI wI g w ∧ e 0 = up0 ∧ OM 1 g w 39 (v6 : List FaultDamage) up0 ∧ e 10 = .int .i64 (t5) ∧ e 13 = .int .i64 (z2)) (fun X346 pI jL h => ?_) ?_
     ·refine E_seq (E_region (EL_mv lB rfl ?_))
      refine EL_mv kB rfl ?_
      refine EL_in (.int .i64 ((w64 (t5 - (1 : Int))))) rfl rfl rfl rfl ?_
      refine EL_p (.bool ((decide (z2 < (w64 (t5 - (1 : Int))))))) (P_int rfl rfl rfl) rfl ?_
      refine EL_nil (thn_n ?_)
      rcases csome h with ⟨xC, h⟩ | ⟨xC, h⟩
      ·refine E_ct xC rfl ?_
       exact E_skip (thn_n (jL () _ _ ⟨zI, hfr, sD, tD, kB, lB⟩ h))
      ·refine E_cf xC rfl ?_
       refine E_exit ?_
       refine thn_e ?_
       refine thn_e ?_
       refine blk_hit ?_
       obtain rfl := sinj h
       exact hQ _ _ ⟨zI, hfr, sD, tD⟩
     ·rintro _ dO sM ⟨aJ, hfr, c8, y6, zG, n7⟩ h
      obtain ⟨n8, hx, h⟩ := bsome h
      refine E_join (fun e w => ∃ (g : Gh) , FrM iI gI wI g w ∧ e 0 = up0 ∧ OM 1 g w 39 (n8 : List FaultDamage) up0 ∧ e 10 = .int .i64 (t5) ∧ e 13 = .int .i64 (z2)) (fun Q' hQ => ?_) (fun eO mP hR => ?_)
      ·replace h := hx
       clear hx
       refine E_block ?_
       obtain ⟨rC, jG, h⟩ := bsome h
       refine L_loadM (x := .tmp 69) Tryz.isAgg39 Tryz.sizeOf39 y6 jG fun tM dG kL => ?_
       obtain ⟨cG, kG, h⟩ := bsome h
       refine L_loadM (x := .tmp 73) Tryz.isAgg39 Tryz.sizeOf39 y6 kG fun uM nA lL => ?_
       obtain ⟨mM, lG, h⟩ := bsome h
       refine E_drawTL (g := aJ) (n := 15) [2, 3, 4] [] [0, 1, 2, 3, 4, 5, 6, 7, 8, 9, 10, 11, 12, 13, 14] rfl mixed (by kernel_rfl) trivial rfl ?_
       refine L_p up0 rfl rfl (P_move c8) ?_
       refine L_p (.int .i64 (z2)) rfl rfl (P_move n7) ?_
       refine L_purL (c := up0) rfl rfl .plain (P_move c8) ?_
       refine L_purL (c := .int .i64 (z2)) rfl rfl .plain (P_move n7) ?_
       refine L_purL (c := .int .i64 ((w64 (z2 + (1 : Int))))) rfl rfl .plain (P_int rfl rfl rfl) ?_
       refine L_p up0 rfl rfl (P_move c8) ?_
       refine L_p (.int .i64 (z2)) rfl rfl (P_move n7) ?_
       refine L_p (.int .i64 ((w64 (z2 + (1 : Int))))) rfl rfl (P_int rfl rfl rfl) ?_
       refine L_p (ePtr up0 (w64 (z2 + (1 : Int))) 5) rfl rfl (P_indexAddrM (α := FaultDamage) Tryz.underlying41 Tryz.sizeOf39 rfl y6 rfl jG) ?_
       refine L_ld (c := tM) rfl rfl .plain (fun _ _ h => ⟨h.ch, fun b hb _ => h.below.block b hb⟩) kL rfl ?_
       refine L_p up0 rfl rfl (P_move c8) ?_
       refine L_p (.int .i64 (z2)) rfl rfl (P_move n7) ?_
       refine L_p (ePtr up0 z2 5) rfl rfl (P_indexAddrM (α := FaultDamage) Tryz.underlying41 Tryz.sizeOf39 rfl y6 rfl kG) ?_
       refine L_ld (c := uM) rfl rfl .plain (fun _ _ h => ⟨h.ch, fun b hb _ => h.below.block b hb⟩) lL rfl ?_
       refine L_p (ePtr up0 z2 5) rfl rfl (P_indexAddrM (α := FaultDamage) Tryz.underlying41 Tryz.sizeOf39 rfl y6 rfl lG) ?_
       refine L_nl fun bJ vM hs => ?_
       have hlt : Lt aJ.m sM bJ vM := hs.ch
       have hfr := hfr.ext hs
       have y6 := y6.ext hs
       have dG := dG.ext hs
       have nA := nA.ext hs
       clear hs
       refine TL_do hlt.w .plain rfl (D_storeM (g := bJ) (α := FaultDamage) (a' := rC) Tryz.sizeOf39 rfl y6 lG rfl dG fun xM nP hs b400 => ?_)
       have hfr := hfr.stp hs
       have hlt := hlt.stp hs
       have nA := nA.stp hs
       obtain ⟨nM, mG, h⟩ := bsome h
       refine TL_pur hlt.w (v := ePtr up0 (w64 (z2 + (1 : Int))) 5) (P_indexAddrM (α := FaultDamage) Tryz.underlying41 Tryz.sizeOf39 rfl b400 rfl mG) .plain rfl ?_
       refine TL_do hlt.w .plain rfl (D_storeM (g := xM) (α := FaultDamage) (a' := cG) Tryz.sizeOf39 rfl b400 mG rfl nA fun yM oP hs b402 => ?_)
       have hfr := hfr.stp hs
       have hlt := hlt.stp hs
       refine TL_nil hlt.w ?_
       clear hlt
       refine blk_n ?_
       obtain rfl := sinj h
       exact hQ _ _ ⟨yM, hfr, c8, b402, zG, n7⟩
      ·clear hx
       obtain ⟨zM, hfr, cJ, dJ, aH, bH⟩ := hR
       refine E_region (EL_mv bH rfl ?_)
       refine EL_in (.int .i64 ((w64 (z2 + (1 : Int))))) rfl rfl rfl rfl ?_
       refine EL_at (.int .i64 ((w64 (z2 + (1 : Int))))) rfl rfl ?_
       exact EL_nil (thn_n (iL (n8, (w64 (z2 + (1 : Int)))) _ _ ⟨zM, hfr, cJ, dJ, aH, rfl⟩ h))
    ·clear hx
     obtain ⟨pP, hfr, vN, eJ⟩ := hR
     refine E_ret (thn_r ?_)
     obtain rfl := sinj h
     exact end0 rfl rfl ⟨_, hfr, rfl, gA.back eJ⟩
  ·refine E_cf tC rfl ?_
   exact E_skip (thn_n (aL (x0) _ _ ⟨g0, hfr, rfl, mp0, rfl, rfl, rfl, rfl⟩ h))
 ·rintro x5 gO sP ⟨gJ, hfr, uD, vD, xD, q8, yD, zD⟩ h
  refine E_joinC h (fun (s : (List FaultDamage)) e w => ∃ (g : Gh) , FrM iI gI wI g w ∧ e 0 = up0 ∧ OM 1 g w 39 (s : List FaultDamage) up0 ∧ e 1 = .int .i64 (x1) ∧ e 2 = .int .i64 (x2) ∧ e 3 = .int .i64 (x3) ∧ e 4 = (.func (.func ff4) fa4 fc4)) (fun X609 zH mL h => ?_) ?_
  ·refine E_seq (E_region (EL_mv yD rfl ?_))
   refine EL_mv q8 rfl ?_
   refine EL_in (.int .i64 ((w64 (x3 - x2)))) rfl rfl rfl rfl ?_
   refine EL_in (.bool (((w64 (x3 - x2)) == (1 : Int)))) rfl rfl rfl rfl ?_
   refine EL_nil (thn_n ?_)
   rcases csome h with ⟨yC, h⟩ | ⟨yC, h⟩
   ·refine E_ct yC rfl ?_
    refine E_seq (E_region (EL_mv xD rfl ?_))
    refine EL_at (.int .i64 (x1)) rfl rfl ?_
    refine EL_nil (thn_n (E_seq (E_region (EL_mv q8 rfl ?_))))
    refine EL_at (.int .i64 (x2)) rfl rfl ?_
    refine EL_nil (thn_n ?_)
    obtain ⟨i6, hx, h⟩ := bsome h
    refine E_join (fun e w => ∃ (g : Gh) , FrM iI gI wI g w ∧ e 0 = up0 ∧ OM 1 g w 39 (x5 : List FaultDamage) up0 ∧ e 2 = .int .i64 (x2) ∧ e 14 = .int .i64 (i6)) (fun Q' hQ => ?_) (fun iO tP hR => ?_)
    ·replace h := hx
     clear hx
     refine E_block ?_
     refine E_lp h (fun (s : Int × Int) e w => ∃ (g : Gh) , FrM iI gI wI g w ∧ e 0 = up0 ∧ OM 1 g w 39 (x5 : List FaultDamage) up0 ∧ e 2 = .int .i64 (x2) ∧ e 4 = (.func (.func ff4) fa4 fc4) ∧ e 14 = .int .i64 (s.1) ∧ e 15 = .int .i64 (s.2)) ⟨gJ, hfr, uD, vD, q8, zD, rfl, rfl⟩ (fun X650 zF nG => ?_)
     rintro ⟨j3, z3⟩ jO uP ⟨iJ, hfr, aE, bE, cE, jJ, l9, mB⟩ h
     refine E_joinC h (fun (s : Unit) e w => ∃ (g : Gh) , FrM iI gI wI g w ∧ e 0 = up0 ∧ OM 1 g w 39 (x5 : List FaultDamage) up0 ∧ e 2 = .int .i64 (x2) ∧ e 4 = (.func (.func ff4) fa4 fc4) ∧ e 14 = .int .i64 (j3) ∧ e 15 = .int .i64 (z3)) (fun X653 cI nL h => ?_) ?_
     ·refine E_seq (E_region (EL_mv l9 rfl ?_))
      refine EL_mv mB rfl ?_
      refine EL_in (.bool ((decide (j3 < z3)))) rfl rfl rfl rfl ?_
      refine EL_nil (thn_n ?_)
      rcases csome h with ⟨aD, h⟩ | ⟨aD, h⟩
      ·refine E_ct aD rfl ?_
       exact E_skip (thn_n (nL () _ _ ⟨iJ, hfr, aE, bE, cE, jJ, l9, mB⟩ h))
      ·refine E_cf aD rfl ?_
       refine E_exit ?_
       refine thn_e ?_
       refine thn_e ?_
       refine blk_hit ?_
       obtain rfl := sinj h
       exact hQ _ _ ⟨iJ, hfr, aE, bE, cE, l9⟩
     ·rintro _ kO vP ⟨bN, hfr, r8, a7, oA, pA, nB, oB⟩ h
      refine E_block ?_
      refine E_seq (E_region (EL_mv nB rfl ?_))
      refine EL_mv oB rfl ?_
      refine EL_in (.int .i64 ((w64 (j3 + z3)))) rfl rfl rfl rfl ?_
      refine EL_p (.int .u64 (wu64 (w64 (j3 + z3)))) (P_intu64 Tryz.underlying3 Tryz.underlying134 rfl) rfl ?_
      obtain ⟨i5, oL, h⟩ := bsome h
      refine EL_p (.int .u64 (i5)) (P_shrU rfl rfl oL) rfl ?_
      refine EL_p (.int .i64 ((w64 i5))) (P_u64int Tryz.underlying134 Tryz.underlying3 rfl) rfl ?_
      refine EL_at (.int .i64 ((w64 i5))) rfl rfl ?_
      refine EL_nil (thn_n (E_seq ?_))
      obtain ⟨aI, oG, h⟩ := bsome h
      refine L_loadM (x := .tmp 95) Tryz.isAgg39 Tryz.sizeOf39 a7 oG fun kJ cN pL => ?_
      obtain ⟨bI, pG, h⟩ := bsome h
      refine L_loadM (x := .tmp 99) Tryz.isAgg39 Tryz.sizeOf39 a7 pG fun lJ dN qL => ?_
      obtain ⟨i9, rL, h⟩ := bsome h
      refine E_drawL (g := bN) (n := 12) [(9, (fun v g w => v = .int .i64 (i9)))] [0, 1, 2, 3, 4, 5, 6, 7, 8, 9, 10, 11] rfl mixed (by kernel_rfl) (⟨fun _ => up_eq _, trivial⟩) ?_
      refine L_p ((.func (.func ff4) fa4 fc4)) rfl rfl (P_move pA) ?_
      refine L_p up0 rfl rfl (P_move r8) ?_
      refine L_p (.int .i64 (x2)) rfl rfl (P_move oA) ?_
      refine L_p (ePtr up0 x2 5) rfl rfl (P_indexAddrM (α := FaultDamage) Tryz.underlying41 Tryz.sizeOf39 rfl a7 rfl oG) ?_
      refine L_ld (c := kJ) rfl rfl .plain (fun _ _ h => ⟨h.ch, fun b hb _ => h.below.block b hb⟩) pL rfl ?_
      refine L_p up0 rfl rfl (P_move r8) ?_
      refine L_p (.int .i64 ((w64 i5))) rfl rfl (P_move rfl) ?_
      refine L_p (ePtr up0 (w64 i5) 5) rfl rfl (P_indexAddrM (α := FaultDamage) Tryz.underlying41 Tryz.sizeOf39 rfl a7 rfl pG) ?_
      refine L_ld (c := lJ) rfl rfl .plain (fun _ _ h => ⟨h.ch, fun b hb _ => h.below.block b hb⟩) qL rfl ?_
      refine L_do (φ := fun v g w => v = .int .i64 (i9)) rfl rfl .plain (fun g w hd => D_callv (g := g) (vs := [kJ, lJ]) rfl fen4 (.cons rfl (.cons rfl .nil)) (fcl4 _ _ (hfr.ext hd.1).ch _ _ _ _ _  (cN.ext hd.1) (dN.ext hd.1) rL) fun g' w' v hs hr => ⟨g', hs, RV_int.1 hr⟩) (fun xP hv => ?_)
      obtain ⟨_, _, _, rfl⟩ := hv
      refine L_p (.bool ((decide (i9 < (0 : Int))))) rfl rfl (P_int rfl rfl rfl) ?_
      refine L_p (.bool (!(decide (i9 < (0 : Int))))) rfl rfl (P_not rfl) ?_
      refine L_nl fun mJ yP hs => ?_
      have hfr := hfr.ext hs
      have a7 := a7.ext hs
      clear hs
      refine EL_nil (thn_n ?_)
      rcases csome h with ⟨bD, h⟩ | ⟨bD, h⟩
      ·refine E_ct bD rfl ?_
       refine E_region (EL_mw (.int .i64 ((w64 i5))) rfl rfl ?_)
       refine EL_in (.int .i64 ((w64 ((w64 i5) + (1 : Int))))) rfl rfl rfl rfl ?_
       refine EL_at (.int .i64 ((w64 ((w64 i5) + (1 : Int))))) rfl rfl ?_
       exact EL_nil (blk_n (thn_n (nG ((w64 ((w64 i5) + (1 : Int))), z3) _ _ ⟨mJ, hfr, r8, a7, oA, pA, rfl, oB⟩ h)))
      ·refine E_cf bD rfl ?_
       refine E_region (EL_mw (.int .i64 ((w64 i5))) rfl rfl ?_)
       refine EL_at (.int .i64 ((w64 i5))) rfl rfl ?_
       exact EL_nil (blk_n (thn_n (nG (j3, (w64 i5)) _ _ ⟨mJ, hfr, r8, a7, oA, pA, nB, rfl⟩ h)))
    ·clear hx
     obtain ⟨eN, hfr, nJ, oJ, pJ, cH⟩ := hR
     obtain ⟨iA, hx, h⟩ := bsome h
     refine E_join (fun e w => ∃ (g : Gh) , FrM iI gI wI g w ∧ e 0 = up0 ∧ OM 1 g w 39 (iA : List FaultDamage) up0) (fun Q' hQ => ?_) (fun lO zP hR => ?_)
     ·replace h := hx
      clear hx
      refine E_seq (E_region (EL_mv pJ rfl ?_))
      refine EL_at (.int .i64 (x2)) rfl rfl ?_
      refine EL_nil (thn_n (E_block ?_))
      refine E_lp h (fun (s : (List FaultDamage) × Int) e w => ∃ (g : Gh) , FrM iI gI wI g w ∧ e 0 = up0 ∧ OM 1 g w 39 (s.1 : List FaultDamage) up0 ∧ e 14 = .int .i64 (i6) ∧ e 17 = .int .i64 (s.2)) ⟨eN, hfr, nJ, oJ, cH, rfl⟩ (fun X751 dI tL => ?_)
      rintro ⟨j6, j1⟩ mO bQ ⟨qJ, hfr, dE, eE, tB, vB⟩ h
      refine E_joinC h (fun (s : Unit) e w => ∃ (g : Gh) , FrM iI gI wI g w ∧ e 0 = up0 ∧ OM 1 g w 39 (j6 : List FaultDamage) up0 ∧ e 14 = .int .i64 (i6) ∧ e 17 = .int .i64 (j1)) (fun X754 jI uL h => ?_) ?_
      ·refine E_seq (E_region (EL_mv vB rfl ?_))
       refine EL_mv tB rfl ?_
       refine EL_in (.bool ((decide (j1 > i6)))) rfl rfl rfl rfl ?_
       refine EL_nil (thn_n ?_)
       rcases csome h with ⟨cD, h⟩ | ⟨cD, h⟩
       ·refine E_ct cD rfl ?_
        exact E_skip (thn_n (uL () _ _ ⟨qJ, hfr, dE, eE, tB, vB⟩ h))
       ·refine E_cf cD rfl ?_
        refine E_exit ?_
        refine thn_e ?_
        refine thn_e ?_
        refine blk_hit ?_
        obtain rfl := sinj h
        exact hQ _ _ ⟨qJ, hfr, dE, eE⟩
      ·rintro _ nO gN ⟨rJ, hfr, e8, b7, dH, o7⟩ h
       obtain ⟨m8, hx, h⟩ := bsome h
       refine E_join (fun e w => ∃ (g : Gh) , FrM iI gI wI g w ∧ e 0 = up0 ∧ OM 1 g w 39 (m8 : List FaultDamage) up0 ∧ e 14 = .int .i64 (i6) ∧ e 17 = .int .i64 (j1)) (fun Q' hQ => ?_) (fun oO cQ hR => ?_)
       ·replace h := hx
        clear hx
        refine E_block ?_
        obtain ⟨qC, qG, h⟩ := bsome h
        refine L_loadM (x := .tmp 121) Tryz.isAgg39 Tryz.sizeOf39 b7 qG fun iN eG vL => ?_
        obtain ⟨aG, rG, h⟩ := bsome h
        refine L_loadM (x := .tmp 125) Tryz.isAgg39 Tryz.sizeOf39 b7 rG fun jN qA xL => ?_
        obtain ⟨jM, sG, h⟩ := bsome h
        refine E_drawTL (g := rJ) (n := 15) [2, 3, 4] [] [0, 1, 2, 3, 4, 5, 6, 7, 8, 9, 10, 11, 12, 13, 14] rfl mixed (by kernel_rfl) trivial rfl ?_
        refine L_p up0 rfl rfl (P_move e8) ?_
        refine L_p (.int .i64 (j1)) rfl rfl (P_move o7) ?_
        refine L_purL (c := up0) rfl rfl .plain (P_move e8) ?_
        refine L_purL (c := .int .i64 (j1)) rfl rfl .plain (P_move o7) ?_
        refine L_purL (c := .int .i64 ((w64 (j1 - (1 : Int))))) rfl rfl .plain (P_int rfl rfl rfl) ?_
        refine L_p up0 rfl rfl (P_move e8) ?_
        refine L_p (.int .i64 (j1)) rfl rfl (P_move o7) ?_
        refine L_p (.int .i64 ((w64 (j1 - (1 : Int))))) rfl rfl (P_int rfl rfl rfl) ?_
        refine L_p (ePtr up0 (w64 (j1 - (1 : Int))) 5) rfl rfl (P_indexAddrM (α := FaultDamage) Tryz.underlying41 Tryz.sizeOf39 rfl b7 rfl qG) ?_
        refine L_ld (c := iN) rfl rfl .plain (fun _ _ h => ⟨h.ch, fun b hb _ => h.below.block b hb⟩) vL rfl ?_
        refine L_p up0 rfl rfl (P_move e8) ?_
        refine L_p (.int .i64 (j1)) rfl rfl (P_move o7) ?_
        refine L_p (ePtr up0 j1 5) rfl rfl (P_indexAddrM (α := FaultDamage) Tryz.underlying41 Tryz.sizeOf39 rfl b7 rfl rG) ?_
        refine L_ld (c := jN) rfl rfl .plain (fun _ _ h => ⟨h.ch, fun b hb _ => h.below.block b hb⟩) xL rfl ?_
        refine L_p (ePtr up0 j1 5) rfl rfl (P_indexAddrM (α := FaultDamage) Tryz.underlying41 Tryz.sizeOf39 rfl b7 rfl sG) ?_
        refine L_nl fun sJ kN hs => ?_
        have hlt : Lt rJ.m gN sJ kN := hs.ch
        have hfr := hfr.ext hs
        have b7 := b7.ext hs
        have eG := eG.ext hs
        have qA := qA.ext hs
        clear hs
        refine TL_do hlt.w .plain rfl (D_storeM (g := sJ) (α := FaultDamage) (a' := qC) Tryz.sizeOf39 rfl b7 sG rfl eG fun lN dQ hs b808 => ?_)
        have hfr := hfr.stp hs
        have hlt := hlt.stp hs
        have qA := qA.stp hs
        obtain ⟨kM, tG, h⟩ := bsome h
        refine TL_pur hlt.w (v := ePtr up0 (w64 (j1 - (1 : Int))) 5) (P_indexAddrM (α := FaultDamage) Tryz.underlying41 Tryz.sizeOf39 rfl b808 rfl tG) .plain rfl ?_
        refine TL_do hlt.w .plain rfl (D_storeM (g := lN) (α := FaultDamage) (a' := aG) Tryz.sizeOf39 rfl b808 tG rfl qA fun mN eQ hs b810 => ?_)
        have hfr := hfr.stp hs
        have hlt := hlt.stp hs
        refine TL_nil hlt.w ?_
        clear hlt
        refine blk_n ?_
        obtain rfl := sinj h
        exact hQ _ _ ⟨mN, hfr, e8, b810, dH, o7⟩
       ·clear hx
        obtain ⟨nN, hfr, tJ, uJ, gH, iH⟩ := hR
        refine E_region (EL_mv iH rfl ?_)
        refine EL_in (.int .i64 ((w64 (j1 - (1 : Int))))) rfl rfl rfl rfl ?_
        refine EL_at (.int .i64 ((w64 (j1 - (1 : Int))))) rfl rfl ?_
        exact EL_nil (thn_n (tL (m8, (w64 (j1 - (1 : Int)))) _ _ ⟨nN, hfr, tJ, uJ, gH, rfl⟩ h))
     ·clear hx
      obtain ⟨gQ, hfr, xN, vJ⟩ := hR
      refine E_ret (thn_r ?_)
      obtain rfl := sinj h
      exact end0 rfl rfl ⟨_, hfr, rfl, gA.back vJ⟩
   ·refine E_cf yC rfl ?_
    exact E_skip (thn_n (mL (x5) _ _ ⟨gJ, hfr, uD, vD, xD, q8, yD, zD⟩ h))
  ·rintro q5 pO iQ ⟨xJ, hfr, gE, iE, t8, g8, v8, jE⟩ h
   refine E_seq (E_region (EL_mv t8 rfl ?_))
   refine EL_mv v8 rfl ?_
   refine EL_in (.int .i64 ((w64 (x1 + x3)))) rfl rfl rfl rfl ?_
   refine EL_p (.int .u64 (wu64 (w64 (x1 + x3)))) (P_intu64 Tryz.underlying3 Tryz.underlying134 rfl) rfl ?_
   obtain ⟨u0, yL, h⟩ := bsome h
   refine EL_p (.int .u64 (u0)) (P_shrU rfl rfl yL) rfl ?_
   refine EL_p (.int .i64 ((w64 u0))) (P_u64int Tryz.underlying134 Tryz.underlying3 rfl) rfl ?_
   refine EL_at (.int .i64 ((w64 u0))) rfl rfl ?_
   refine EL_nil (thn_n (E_seq (E_region (EL_mw (.int .i64 ((w64 u0))) rfl rfl ?_))))
   refine EL_mv g8 rfl ?_
   refine EL_in (.int .i64 ((w64 ((w64 u0) + x2)))) rfl rfl rfl rfl ?_
   refine EL_at (.int .i64 ((w64 ((w64 u0) + x2)))) rfl rfl ?_
   refine EL_nil (thn_n (E_seq (E_region (EL_at (.int .i64 (0)) rfl rfl ?_))))
   refine EL_at (.int .i64 (0)) rfl rfl ?_
   refine EL_nil (thn_n ?_)
   obtain ⟨⟨a9, d9⟩, hx, h⟩ := bsome h
   refine E_join (fun e w => ∃ (g : Gh) , FrM iI gI wI g w ∧ e 0 = up0 ∧ OM 1 g w 39 (q5 : List FaultDamage) up0 ∧ e 1 = .int .i64 (x1) ∧ e 2 = .int .i64 (x2) ∧ e 3 = .int .i64 (x3) ∧ e 4 = (.func (.func ff4) fa4 fc4) ∧ e 18 = .int .i64 ((w64 u0)) ∧ e 19 = .int .i64 ((w64 ((w64 u0) + x2))) ∧ e 20 = .int .i64 (a9) ∧ e 21 = .int .i64 (d9)) (fun Q' hQ => ?_) (fun qO jQ hR => ?_)
   ·replace h := hx
    clear hx
    refine E_seq (E_region (EL_mv g8 rfl ?_))
    refine EL_mw (.int .i64 ((w64 u0))) rfl rfl ?_
    refine EL_in (.bool ((decide (x2 > (w64 u0))))) rfl rfl rfl rfl ?_
    refine EL_nil (thn_n ?_)
    rcases csome h with ⟨eD, h⟩ | ⟨eD, h⟩
    ·refine E_ct eD rfl ?_
     refine E_seq (E_region (EL_mw (.int .i64 ((w64 ((w64 u0) + x2)))) rfl rfl ?_))
     refine EL_mv v8 rfl ?_
     refine EL_p (.int .i64 ((w64 ((w64 ((w64 u0) + x2)) - x3)))) (P_int rfl rfl rfl) rfl ?_
     refine EL_p (.int .i64 ((w64 ((w64 ((w64 u0) + x2)) - x3)))) (P_assign rfl) rfl ?_
     refine EL_nil (thn_n (E_region (EL_mw (.int .i64 ((w64 u0))) rfl rfl ?_)))
     refine EL_at (.int .i64 ((w64 u0))) rfl rfl ?_
     refine EL_nil ?_
     obtain ⟨rfl, rfl⟩ := pairs2 h
     exact hQ _ _ ⟨xJ, hfr, gE, iE, t8, g8, v8, jE, rfl, rfl, rfl, rfl⟩
    ·refine E_cf eD rfl ?_
     refine E_seq (E_region (EL_mv t8 rfl ?_))
     refine EL_at (.int .i64 (x1)) rfl rfl ?_
     refine EL_nil (thn_n (E_region (EL_mv g8 rfl ?_)))
     refine EL_at (.int .i64 (x2)) rfl rfl ?_
     refine EL_nil ?_
     obtain ⟨rfl, rfl⟩ := pairs2 h
     exact hQ _ _ ⟨xJ, hfr, gE, iE, t8, g8, v8, jE, rfl, rfl, rfl, rfl⟩
   ·clear hx
    obtain ⟨oN, hfr, yJ, zJ, aK, bK, cK, dK, jH, xB, kH, lH⟩ := hR
    refine E_seq (E_region (EL_mv xB rfl ?_))
    refine EL_p (.int .i64 ((w64 ((w64 ((w64 u0) + x2)) - (1 : Int))))) (P_int rfl rfl rfl) rfl ?_
    refine EL_p (.int .i64 ((w64 ((w64 ((w64 u0) + x2)) - (1 : Int))))) (P_assign rfl) rfl ?_
    refine EL_nil (thn_n ?_)
    obtain ⟨o0, hx, h⟩ := bsome h
    refine E_join (fun e w => ∃ (g : Gh) , FrM iI gI wI g w ∧ e 0 = up0 ∧ OM 1 g w 39 (q5 : List FaultDamage) up0 ∧ e 1 = .int .i64 (x1) ∧ e 2 = .int .i64 (x2) ∧ e 3 = .int .i64 (x3) ∧ e 4 = (.func (.func ff4) fa4 fc4) ∧ e 18 = .int .i64 ((w64 u0)) ∧ e 19 = .int .i64 ((w64 ((w64 u0) + x2))) ∧ e 20 = .int .i64 (o0)) (fun Q' hQ => ?_) (fun rO kQ hR => ?_)
    ·replace h := hx
     clear hx
     refine E_block ?_
     refine E_lp h (fun (s : Int × Int) e w => ∃ (g : Gh) , FrM iI gI wI g w ∧ e 0 = up0 ∧ OM 1 g w 39 (q5 : List FaultDamage) up0 ∧ e 1 = .int .i64 (x1) ∧ e 2 = .int .i64 (x2) ∧ e 3 = .int .i64 (x3) ∧ e 4 = (.func (.func ff4) fa4 fc4) ∧ e 18 = .int .i64 ((w64 u0)) ∧ e 19 = .int .i64 ((w64 ((w64 u0) + x2))) ∧ e 20 = .int .i64 (s.1) ∧ e 21 = .int .i64 (s.2) ∧ e 22 = .int .i64 ((w64 ((w64 ((w64 u0) + x2)) - (1 : Int))))) ⟨oN, hfr, yJ, zJ, aK, bK, cK, dK, jH, xB, kH, lH, rfl⟩ (fun X864 yF uG => ?_)
     rintro ⟨i3, u3⟩ sO lQ ⟨eK, hfr, kE, lE, mE, nE, oE, rE, yB, zB, n9, aC, mH⟩ h
     refine E_joinC h (fun (s : Unit) e w => ∃ (g : Gh) , FrM iI gI wI g w ∧ e 0 = up0 ∧ OM 1 g w 39 (q5 : List FaultDamage) up0 ∧ e 1 = .int .i64 (x1) ∧ e 2 = .int .i64 (x2) ∧ e 3 = .int .i64 (x3) ∧ e 4 = (.func (.func ff4) fa4 fc4) ∧ e 18 = .int .i64 ((w64 u0)) ∧ e 19 = .int .i64 ((w64 ((w64 u0) + x2))) ∧ e 20 = .int .i64 (i3) ∧ e 21 = .int .i64 (u3) ∧ e 22 = .int .i64 ((w64 ((w64 ((w64 u0) + x2)) - (1 : Int))))) (fun X867 uH zL h => ?_) ?_
     ·refine E_seq (E_region (EL_mv n9 rfl ?_))
      refine EL_mv aC rfl ?_
      refine EL_in (.bool ((decide (i3 < u3)))) rfl rfl rfl rfl ?_
      refine EL_nil (thn_n ?_)
      rcases csome h with ⟨gD, h⟩ | ⟨gD, h⟩
      ·refine E_ct gD rfl ?_
       exact E_skip (thn_n (zL () _ _ ⟨eK, hfr, kE, lE, mE, nE, oE, rE, yB, zB, n9, aC, mH⟩ h))
      ·refine E_cf gD rfl ?_
       refine E_exit ?_
       refine thn_e ?_
       refine thn_e ?_
       refine blk_hit ?_
       obtain rfl := sinj h
       exact hQ _ _ ⟨eK, hfr, kE, lE, mE, nE, oE, rE, yB, zB, n9⟩
     ·rintro _ tO mQ ⟨pN, hfr, x8, c7, sE, tE, uE, rA, cC, dC, eC, iC, o9⟩ h
      refine E_block ?_
      refine E_seq (E_region (EL_mv eC rfl ?_))
      refine EL_mv iC rfl ?_
      refine EL_in (.int .i64 ((w64 (i3 + u3)))) rfl rfl rfl rfl ?_
      refine EL_p (.int .u64 (wu64 (w64 (i3 + u3)))) (P_intu64 Tryz.underlying3 Tryz.underlying134 rfl) rfl ?_
      obtain ⟨d3, aM, h⟩ := bsome h
      refine EL_p (.int .u64 (d3)) (P_shrU rfl rfl aM) rfl ?_
      refine EL_p (.int .i64 ((w64 d3))) (P_u64int Tryz.underlying134 Tryz.underlying3 rfl) rfl ?_
      refine EL_at (.int .i64 ((w64 d3))) rfl rfl ?_
      refine EL_nil (thn_n (E_seq ?_))
      obtain ⟨sH, vG, h⟩ := bsome h
      refine L_loadM (x := .tmp 163) Tryz.isAgg39 Tryz.sizeOf39 c7 vG fun lK qN bM => ?_
      obtain ⟨tH, xG, h⟩ := bsome h
      refine L_loadM (x := .tmp 167) Tryz.isAgg39 Tryz.sizeOf39 c7 xG fun mK rN cM => ?_
      obtain ⟨e9, dM, h⟩ := bsome h
      refine E_drawL (g := pN) (n := 14) [(11, (fun v g w => v = .int .i64 (e9)))] [0, 1, 2, 3, 4, 5, 6, 7, 8, 9, 10, 11, 12, 13] rfl mixed (by kernel_rfl) (⟨fun _ => up_eq _, trivial⟩) ?_
      refine L_p ((.func (.func ff4) fa4 fc4)) rfl rfl (P_move rA) ?_
      refine L_p up0 rfl rfl (P_move x8) ?_
      refine L_p (.int .i64 ((w64 ((w64 ((w64 u0) + x2)) - (1 : Int))))) rfl rfl (P_move o9) ?_
      refine L_p (.int .i64 ((w64 d3))) rfl rfl (P_move rfl) ?_
      refine L_p (.int .i64 ((w64 ((w64 ((w64 ((w64 u0) + x2)) - (1 : Int))) - (w64 d3))))) rfl rfl (P_int rfl rfl rfl) ?_
      refine L_p (ePtr up0 (w64 ((w64 ((w64 ((w64 u0) + x2)) - (1 : Int))) - (w64 d3))) 5) rfl rfl (P_indexAddrM (α := FaultDamage) Tryz.underlying41 Tryz.sizeOf39 rfl c7 rfl vG) ?_
      refine L_ld (c := lK) rfl rfl .plain (fun _ _ h => ⟨h.ch, fun b hb _ => h.below.block b hb⟩) bM rfl ?_
      refine L_p up0 rfl rfl (P_move x8) ?_
      refine L_p (.int .i64 ((w64 d3))) rfl rfl (P_move rfl) ?_
      refine L_p (ePtr up0 (w64 d3) 5) rfl rfl (P_indexAddrM (α := FaultDamage) Tryz.underlying41 Tryz.sizeOf39 rfl c7 rfl xG) ?_
      refine L_ld (c := mK) rfl rfl .plain (fun _ _ h => ⟨h.ch, fun b hb _ => h.below.block b hb⟩) cM rfl ?_
      refine L_do (φ := fun v g w => v = .int .i64 (e9)) rfl rfl .plain (fun g w hd => D_callv (g := g) (vs := [lK, mK]) rfl fen4 (.cons rfl (.cons rfl .nil)) (fcl4 _ _ (hfr.ext hd.1).ch _ _ _ _ _  (qN.ext hd.1) (rN.ext hd.1) dM) fun g' w' v hs hr => ⟨g', hs, RV_int.1 hr⟩) (fun nQ hv => ?_)
      obtain ⟨_, _, _, rfl⟩ := hv
      refine L_p (.bool ((decide (e9 < (0 : Int))))) rfl rfl (P_int rfl rfl rfl) ?_
      refine L_p (.bool (!(decide (e9 < (0 : Int))))) rfl rfl (P_not rfl) ?_
      refine L_nl fun nK oQ hs => ?_
      have hfr := hfr.ext hs
      have c7 := c7.ext hs
      clear hs
      refine EL_nil (thn_n ?_)
      rcases csome h with ⟨iD, h⟩ | ⟨iD, h⟩
      ·refine E_ct iD rfl ?_
       refine E_region (EL_mw (.int .i64 ((w64 d3))) rfl rfl ?_)
       refine EL_in (.int .i64 ((w64 ((w64 d3) + (1 : Int))))) rfl rfl rfl rfl ?_
       refine EL_at (.int .i64 ((w64 ((w64 d3) + (1 : Int))))) rfl rfl ?_
       exact EL_nil (blk_n (thn_n (uG ((w64 ((w64 d3) + (1 : Int))), u3) _ _ ⟨nK, hfr, x8, c7, sE, tE, uE, rA, cC, dC, rfl, iC, o9⟩ h)))
      ·refine E_cf iD rfl ?_
       refine E_region (EL_mw (.int .i64 ((w64 d3))) rfl rfl ?_)
       refine EL_at (.int .i64 ((w64 d3))) rfl rfl ?_
       exact EL_nil (blk_n (thn_n (uG (i3, (w64 d3)) _ _ ⟨nK, hfr, x8, c7, sE, tE, uE, rA, cC, dC, eC, rfl, o9⟩ h)))
    ·clear hx
     obtain ⟨oK, hfr, vE, xE, yE, y8, zE, cF, jC, nH, i8⟩ := hR
     refine E_seq (E_region (EL_mv nH rfl ?_))
     refine EL_mv i8 rfl ?_
     refine EL_p (.int .i64 ((w64 ((w64 ((w64 u0) + x2)) - o0)))) (P_int rfl rfl rfl) rfl ?_
     refine EL_p (.int .i64 ((w64 ((w64 ((w64 u0) + x2)) - o0)))) (P_assign rfl) rfl ?_
     refine EL_nil (thn_n ?_)
     obtain ⟨u7, hx, h⟩ := bsome h
     refine E_join (fun e w => ∃ (g : Gh) , FrM iI gI wI g w ∧ e 0 = up0 ∧ OM 1 g w 39 (u7 : List FaultDamage) up0 ∧ e 1 = .int .i64 (x1) ∧ e 3 = .int .i64 (x3) ∧ e 4 = (.func (.func ff4) fa4 fc4) ∧ e 18 = .int .i64 ((w64 u0)) ∧ e 20 = .int .i64 (o0) ∧ e 24 = .int .i64 ((w64 ((w64 ((w64 u0) + x2)) - o0)))) (fun Q' hQ => ?_) (fun uO pQ hR => ?_)
     ·replace h := hx
      clear hx
      obtain ⟨i7, hx, h⟩ := bsome h
      refine E_join (fun e w => ∃ (g : Gh) , FrM iI gI wI g w ∧ e 0 = up0 ∧ OM 1 g w 39 (q5 : List FaultDamage) up0 ∧ e 1 = .int .i64 (x1) ∧ e 2 = .int .i64 (x2) ∧ e 3 = .int .i64 (x3) ∧ e 4 = (.func (.func ff4) fa4 fc4) ∧ e 18 = .int .i64 ((w64 u0)) ∧ e 20 = .int .i64 (o0) ∧ e 24 = .int .i64 ((w64 ((w64 ((w64 u0) + x2)) - o0))) ∧ e 185 = .bool (i7)) (fun Q' hQ => ?_) (fun vO qQ hR => ?_)
      ·replace h := hx
       clear hx
       refine E_region (EL_mv i8 rfl ?_)
       refine EL_mv y8 rfl ?_
       refine EL_in (.bool ((decide (o0 < x2)))) rfl rfl rfl rfl ?_
       refine EL_mw (.bool ((decide (o0 < x2)))) rfl rfl ?_
       rcases csome h with ⟨d7, h⟩ | ⟨d7, h⟩
       ·refine EL_y (.int .i64 (x2)) (P_move y8) rfl rfl d7 rfl ?_
        refine EL_y (.int .i64 ((w64 ((w64 ((w64 u0) + x2)) - o0)))) (P_move rfl) rfl rfl d7 rfl ?_
        refine EL_y (.bool ((decide (x2 < (w64 ((w64 ((w64 u0) + x2)) - o0)))))) (P_int rfl rfl rfl) rfl rfl d7 rfl ?_
        refine EL_p (.bool ((decide (x2 < (w64 ((w64 ((w64 u0) + x2)) - o0)))))) (P_pick (b := (decide (o0 < x2))) rfl (pick_t d7 rfl)) rfl ?_
        refine EL_nil ?_
        obtain rfl := sinj h
        exact hQ _ _ ⟨oK, hfr, vE, xE, yE, y8, zE, cF, jC, i8, rfl, rfl⟩
       ·refine EL_s rfl rfl d7 rfl rfl ?_
        refine EL_s rfl rfl d7 rfl rfl ?_
        refine EL_s rfl rfl d7 rfl rfl ?_
        refine EL_p (.bool false) (P_pick (b := (decide (o0 < x2))) rfl (pick_f d7 rfl)) rfl ?_
        refine EL_nil ?_
        obtain rfl := sinj h
        exact hQ _ _ ⟨oK, hfr, vE, xE, yE, y8, zE, cF, jC, i8, rfl, rfl⟩
      ·clear hx
       obtain ⟨pK, hfr, sA, dF, eF, qK, iF, uA, kC, t9, u9, xA⟩ := hR
       rcases csome h with ⟨jD, h⟩ | ⟨jD, h⟩
       ·refine E_cond_true (Eq.trans (show ev _ _ = .bool (i7) from xA) (congrArg Value.bool jD)) ?_
        refine E_region (EL_mv sA rfl ?_)
        refine EL_mv t9 rfl ?_
        refine EL_mv qK rfl ?_
        refine EL_p (.int .i64 ((w64 ((w64 ((w64 u0) + x2)) - o0)))) (P_move u9) rfl ?_
        refine EL_mv uA rfl ?_
        obtain ⟨vH, eM, h⟩ := bsome h
        refine EL_do .plain rfl (D_callM (g := pK) (i := 1) (vs := [up0, .int .i64 (o0), .int .i64 (x2), .int .i64 ((w64 ((w64 ((w64 u0) + x2)) - o0))), (.func (.func ff4) fa4 fc4)]) en160 (.cons rfl (.cons rfl (.cons rfl (.cons rfl (.cons rfl .nil))))) (wk160 dF (FnV2.ch ⟨_, _, _, rfl, fen4, fcl4⟩ hfr.ch) eM) fun sN xO rQ hs hr => ?_)
        obtain ⟨hrv, b921⟩ := hr
        have hfr := hfr.stp hs
        subst hrv
        refine EL_nil ?_
        obtain rfl := sinj h
        exact hQ _ _ ⟨sN, hfr, sA, b921, eF, iF, uA, kC, t9, u9⟩
       ·refine E_cond_false (Eq.trans (show ev _ _ = .bool (i7) from xA) (congrArg Value.bool jD)) ?_
        refine E_skip ?_
        obtain rfl := sinj h
        exact hQ _ _ ⟨pK, hfr, sA, dF, eF, iF, uA, kC, t9, u9⟩
     ·clear hx
      obtain ⟨sK, hfr, nF, oF, yA, pF, qF, y9, k8, lC⟩ := hR
      obtain ⟨v7, hx, h⟩ := bsome h
      refine E_join (fun e w => ∃ (g : Gh) , FrM iI gI wI g w ∧ e 0 = up0 ∧ OM 1 g w 39 (v7 : List FaultDamage) up0 ∧ e 3 = .int .i64 (x3) ∧ e 4 = (.func (.func ff4) fa4 fc4) ∧ e 18 = .int .i64 ((w64 u0)) ∧ e 24 = .int .i64 ((w64 ((w64 ((w64 u0) + x2)) - o0)))) (fun Q' hQ => ?_) (fun yO sQ hR => ?_)
      ·replace h := hx
       clear hx
       obtain ⟨j7, hx, h⟩ := bsome h
       refine E_join (fun e w => ∃ (g : Gh) , FrM iI gI wI g w ∧ e 0 = up0 ∧ OM 1 g w 39 (u7 : List FaultDamage) up0 ∧ e 1 = .int .i64 (x1) ∧ e 3 = .int .i64 (x3) ∧ e 4 = (.func (.func ff4) fa4 fc4) ∧ e 18 = .int .i64 ((w64 u0)) ∧ e 20 = .int .i64 (o0) ∧ e 24 = .int .i64 ((w64 ((w64 ((w64 u0) + x2)) - o0))) ∧ e 199 = .bool (j7)) (fun Q' hQ => ?_) (fun zO tQ hR => ?_)
       ·replace h := hx
        clear hx
        refine E_region (EL_mv yA rfl ?_)
        refine EL_mv k8 rfl ?_
        refine EL_in (.bool ((decide (x1 < o0)))) rfl rfl rfl rfl ?_
        refine EL_mw (.bool ((decide (x1 < o0)))) rfl rfl ?_
        rcases csome h with ⟨e7, h⟩ | ⟨e7, h⟩
        ·refine EL_y (.int .i64 (o0)) (P_move k8) rfl rfl e7 rfl ?_
         refine EL_y (.int .i64 ((w64 u0))) (P_move y9) rfl rfl e7 rfl ?_
         refine EL_y (.bool ((decide (o0 < (w64 u0))))) (P_int rfl rfl rfl) rfl rfl e7 rfl ?_
         refine EL_p (.bool ((decide (o0 < (w64 u0))))) (P_pick (b := (decide (x1 < o0))) rfl (pick_t e7 rfl)) rfl ?_
         refine EL_nil ?_
         obtain rfl := sinj h
         exact hQ _ _ ⟨sK, hfr, nF, oF, yA, pF, qF, y9, k8, lC, rfl⟩
        ·refine EL_s rfl rfl e7 rfl rfl ?_
         refine EL_s rfl rfl e7 rfl rfl ?_
         refine EL_s rfl rfl e7 rfl rfl ?_
         refine EL_p (.bool false) (P_pick (b := (decide (x1 < o0))) rfl (pick_f e7 rfl)) rfl ?_
         refine EL_nil ?_
         obtain rfl := sinj h
         exact hQ _ _ ⟨sK, hfr, nF, oF, yA, pF, qF, y9, k8, lC, rfl⟩
       ·clear hx
        obtain ⟨tK, hfr, zA, rF, uK, sF, aB, z9, oH, mC, bB⟩ := hR
        rcases csome h with ⟨kD, h⟩ | ⟨kD, h⟩
        ·refine E_cond_true (Eq.trans (show ev _ _ = .bool (j7) from bB) (congrArg Value.bool kD)) ?_
         refine E_region (EL_mv zA rfl ?_)
         refine EL_mv uK rfl ?_
         refine EL_mv oH rfl ?_
         refine EL_mv z9 rfl ?_
         refine EL_mv aB rfl ?_
         obtain ⟨xH, gM, h⟩ := bsome h
         refine EL_do .plain rfl (D_callM (g := tK) (i := 1) (vs := [up0, .int .i64 (x1), .int .i64 (o0), .int .i64 ((w64 u0)), (.func (.func ff4) fa4 fc4)]) en145 (.cons rfl (.cons rfl (.cons rfl (.cons rfl (.cons rfl .nil))))) (ih rF (FnV2.ch ⟨_, _, _, rfl, fen4, fcl4⟩ hfr.ch) gM) fun tN aP uQ hs hr => ?_)
         obtain ⟨hrv, b934⟩ := hr
         have hfr := hfr.stp hs
         subst hrv
         refine EL_nil ?_
         obtain rfl := sinj h
         exact hQ _ _ ⟨tN, hfr, zA, b934, sF, aB, z9, mC⟩
        ·refine E_cond_false (Eq.trans (show ev _ _ = .bool (j7) from bB) (congrArg Value.bool kD)) ?_
         refine E_skip ?_
         obtain rfl := sinj h
         exact hQ _ _ ⟨tK, hfr, zA, rF, sF, aB, z9, mC⟩
      ·clear hx
       obtain ⟨vK, hfr, tF, uF, cB, vF, bA, l8⟩ := hR
       obtain ⟨m7, hx, h⟩ := bsome h
       refine E_join (fun e w => ∃ (g : Gh) , FrM iI gI wI g w ∧ e 0 = up0 ∧ OM 1 g w 39 (v7 : List FaultDamage) up0 ∧ e 3 = .int .i64 (x3) ∧ e 4 = (.func (.func ff4) fa4 fc4) ∧ e 18 = .int .i64 ((w64 u0)) ∧ e 24 = .int .i64 ((w64 ((w64 ((w64 u0) + x2)) - o0))) ∧ e 213 = .bool (m7)) (fun Q' hQ => ?_) (fun bP vQ hR => ?_)
       ·replace h := hx
        clear hx
        refine E_region (EL_mv bA rfl ?_)
        refine EL_p (.int .i64 ((w64 ((w64 ((w64 u0) + x2)) - o0)))) (P_move l8) rfl ?_
        refine EL_p (.bool ((decide ((w64 u0) < (w64 ((w64 ((w64 u0) + x2)) - o0)))))) (P_int rfl rfl rfl) rfl ?_
        refine EL_p (.bool ((decide ((w64 u0) < (w64 ((w64 ((w64 u0) + x2)) - o0)))))) (P_move rfl) rfl ?_
        rcases csome h with ⟨g7, h⟩ | ⟨g7, h⟩
        ·refine EL_y (.int .i64 ((w64 ((w64 ((w64 u0) + x2)) - o0)))) (P_move l8) rfl rfl g7 rfl ?_
         refine EL_y (.int .i64 (x3)) (P_move cB) rfl rfl g7 rfl ?_
         refine EL_y (.bool ((decide ((w64 ((w64 ((w64 u0) + x2)) - o0)) < x3)))) (P_int rfl rfl rfl) rfl rfl g7 rfl ?_
         refine EL_p (.bool ((decide ((w64 ((w64 ((w64 u0) + x2)) - o0)) < x3)))) (P_pick (b := (decide ((w64 u0) < (w64 ((w64 ((w64 u0) + x2)) - o0))))) rfl (pick_t g7 rfl)) rfl ?_
         refine EL_nil ?_
         obtain rfl := sinj h
         exact hQ _ _ ⟨vK, hfr, tF, uF, cB, vF, bA, l8, rfl⟩
        ·refine EL_s rfl rfl g7 rfl rfl ?_
         refine EL_s rfl rfl g7 rfl rfl ?_
         refine EL_s rfl rfl g7 rfl rfl ?_
         refine EL_p (.bool false) (P_pick (b := (decide ((w64 u0) < (w64 ((w64 ((w64 u0) + x2)) - o0))))) rfl (pick_f g7 rfl)) rfl ?_
         refine EL_nil ?_
         obtain rfl := sinj h
         exact hQ _ _ ⟨vK, hfr, tF, uF, cB, vF, bA, l8, rfl⟩
       ·clear hx
        obtain ⟨uN, hfr, xK, xF, yK, zK, pH, qH, dB⟩ := hR
        rcases csome h with ⟨lD, h⟩ | ⟨lD, h⟩
        ·refine E_cond_true (Eq.trans (show ev _ _ = .bool (m7) from dB) (congrArg Value.bool lD)) ?_
         refine E_region (EL_mv xK rfl ?_)
         refine EL_mv pH rfl ?_
         refine EL_p (.int .i64 ((w64 ((w64 ((w64 u0) + x2)) - o0)))) (P_move qH) rfl ?_
         refine EL_mv yK rfl ?_
         refine EL_mv zK rfl ?_
         obtain ⟨yH, iM, h⟩ := bsome h
         refine EL_do .plain rfl (D_callM (g := uN) (i := 1) (vs := [up0, .int .i64 ((w64 u0)), .int .i64 ((w64 ((w64 ((w64 u0) + x2)) - o0))), .int .i64 (x3), (.func (.func ff4) fa4 fc4)]) en145 (.cons rfl (.cons rfl (.cons rfl (.cons rfl (.cons rfl .nil))))) (ih xF (FnV2.ch ⟨_, _, _, rfl, fen4, fcl4⟩ hfr.ch) iM) fun xQ cP yQ hs hr => ?_)
         obtain ⟨hrv, b941⟩ := hr
         have hfr := hfr.stp hs
         subst hrv
         refine EL_nil ?_
         obtain rfl := sinj h
         exact end0n rfl rfl ⟨_, hfr, rfl, gA.back b941⟩
        ·refine E_cond_false (Eq.trans (show ev _ _ = .bool (m7) from dB) (congrArg Value.bool lD)) ?_
         refine E_skip ?_
         obtain rfl := sinj h
         exact end0n rfl rfl ⟨_, hfr, rfl, gA.back xF⟩
def f25 (x0 : FaultLoom) : Option (Int) :=
 jn (σ := Unit) (fun _ =>
  jn (σ := Unit) (fun _ =>
   jn (σ := Unit) (fun _ =>
    some ((0 : Int))
    ) fun k33 =>
   bif (((x0).Harness).Hooks != ((x0).Design).Hooks) then
    some ((4 : Int))
   else
    k33 ()
   ) fun k19 =>
  (f51 ((x0).Design)).bind fun y23 =>
  bif (y23 != (0 : Int)) then
   some (y23)
  else
   k19 ()
  ) fun k7 =>
 (f50 ((x0).Harness)).bind fun y11 =>
 bif (y11 != (0 : Int)) then
  some (y11)
 else
  k7 ()
theorem en25 : Enters Tryz.prog 25 := enters_of Tryz.func25 (by kernel_rfl) rfl
theorem wk25 {gI : Gh} {wI : World} {x0 : FaultLoom} {up0 : Value} (rp0 : RV gI.m wI x0 up0) {r : Int} (h : f25 x0 = some r) : Fn Tryz.prog 25 #[up0] gI wI (fun _ _ v => v = .int .i64 (r)) := by
 unfold f25 at h
 refine fn_of_E Tryz.func25 rfl (Nat.le_of_ble_eq_true rfl) fun g0 hm hfr => ?_
 have rp0 : RV g0.m wI x0 up0 := hm ▸ rp0
 show E _ 24 none _ _ _ _ _
 refine E_seq (E_region (EL_do .plain rfl (D_box (g := g0) rfl rp0 fun g1 w1 p1 hs q1 => ?_)))
 have hfr := hfr.ext hs
 refine EL_at (.int .i64 (0)) rfl rfl ?_
 refine EL_nil (thn_n (E_joinC h (fun (s : Unit) e w => ∃ (g : Gh) , Fr gI wI g w ∧ e 1 = p1 ∧ PT g.m w (x0 : FaultLoom) p1) (fun X7 k7 hk7 h => ?_) ?_))
 ·refine E_seq (E_region (EL_p (fPtr p1 0) (P_fieldAddr at_31_0 rfl (PT.ptr q1)) rfl ?_))
  have q8 := PT_field (part_FaultLoom_0).1 q1
  refine EL_do .plain rfl (D_load (g := g1) Tryz.isAgg27 Tryz.sizeOf27 rfl q8 fun v9 r9 => ?_)
  obtain ⟨y11, i5, h⟩ := bsome h
  refine EL_do .plain rfl (D_call (g := g1) (vs := [v9]) en50 (.cons rfl .nil) (wk50 r9 i5) fun x5 d7 m7 hs hr => ?_)
  have hfr := hfr.ext hs
  have q1 := q1.ext hs
  subst hr
  refine EL_at (.int .i64 (y11)) rfl rfl ?_
  refine EL_nil (thn_n (E_seq (E_region (EL_mw (.int .i64 (y11)) rfl rfl ?_))))
  refine EL_in (.bool ((y11 != (0 : Int)))) rfl rfl rfl rfl ?_
  refine EL_nil (thn_n ?_)
  rcases csome h with ⟨j1, h⟩ | ⟨j1, h⟩
  ·refine E_ct j1 rfl ?_
   refine E_seq (E_region (EL_mw (.int .i64 (y11)) rfl rfl ?_))
   refine EL_at (.int .i64 (y11)) rfl rfl ?_
   refine EL_nil (thn_n (E_ret (thn_r ?_)))
   obtain rfl := sinj h
   exact end1 rfl rfl (show _ = .int .i64 (y11) from rfl) ⟨_, hfr, rfl⟩
  ·refine E_cf j1 rfl ?_
   exact E_skip (thn_n (hk7 () _ _ ⟨x5, hfr, rfl, q1⟩ h))
 ·rintro _ e7 n7 ⟨u3, hfr, i3, o0⟩ h
  refine E_joinC h (fun (s : Unit) e w => ∃ (g : Gh) , Fr gI wI g w ∧ e 1 = p1 ∧ PT g.m w (x0 : FaultLoom) p1) (fun X19 k19 l5 h => ?_) ?_
  ·refine E_seq (E_region (EL_p (fPtr p1 2) (P_fieldAddr at_31_1 i3 (PT.ptr o0)) rfl ?_))
   have i6 := PT_field (part_FaultLoom_1).1 o0
   refine EL_do .plain rfl (D_load (g := u3) Tryz.isAgg29 Tryz.sizeOf29 rfl i6 fun j6 v6 => ?_)
   obtain ⟨y23, q5, h⟩ := bsome h
   refine EL_do .plain rfl (D_call (g := u3) (vs := [j6]) en51 (.cons rfl .nil) (wk51 v6 q5) fun x6 g7 o7 hs hr => ?_)
   have hfr := hfr.ext hs
   have o0 := o0.ext hs
   subst hr
   refine EL_at (.int .i64 (y23)) rfl rfl ?_
   refine EL_nil (thn_n (E_seq (E_region (EL_mw (.int .i64 (y23)) rfl rfl ?_))))
   refine EL_in (.bool ((y23 != (0 : Int)))) rfl rfl rfl rfl ?_
   refine EL_nil (thn_n ?_)
   rcases csome h with ⟨z2, h⟩ | ⟨z2, h⟩
   ·refine E_ct z2 rfl ?_
    refine E_seq (E_region (EL_mw (.int .i64 (y23)) rfl rfl ?_))
    refine EL_at (.int .i64 (y23)) rfl rfl ?_
    refine EL_nil (thn_n (E_ret (thn_r ?_)))
    obtain rfl := sinj h
    exact end1 rfl rfl (show _ = .int .i64 (y23) from rfl) ⟨_, hfr, rfl⟩
   ·refine E_cf z2 rfl ?_
    exact E_skip (thn_n (l5 () _ _ ⟨x6, hfr, i3, o0⟩ h))
  ·rintro _ i7 u7 ⟨o3, hfr, j3, u0⟩ h
   refine E_joinC h (fun (s : Unit) e w => ∃ (g : Gh) , Fr gI wI g w) (fun X33 k33 t5 h => ?_) ?_
   ·refine E_seq (E_region (EL_p (fPtr p1 0) (P_fieldAddr at_31_0 j3 (PT.ptr u0)) rfl ?_))
    have z3 := PT_field (part_FaultLoom_0).1 u0
    refine EL_p (fPtr (fPtr p1 0) 0) (P_fieldAddr at_27_0 rfl (PT.ptr z3)) rfl ?_
    have y6 := PT_field (part_TieHarness_0).1 z3
    refine EL_do .plain rfl (D_load (g := o3) Tryz.isAgg3 Tryz.sizeOf3 rfl y6 fun v7 a7 => ?_)
    obtain rfl := RV_int.1 a7
    refine EL_p (fPtr p1 2) (P_fieldAddr at_31_1 j3 (PT.ptr u0)) rfl ?_
    have z4 := PT_field (part_FaultLoom_1).1 u0
    refine EL_p (fPtr (fPtr p1 2) 0) (P_fieldAddr at_29_0 rfl (PT.ptr z4)) rfl ?_
    have b7 := PT_field (part_Design_0).1 z4
    refine EL_do .plain rfl (D_load (g := o3) Tryz.isAgg3 Tryz.sizeOf3 rfl b7 fun c8 c7 => ?_)
    obtain rfl := RV_int.1 c7
    refine EL_in (.bool ((((x0).Harness).Hooks != ((x0).Design).Hooks))) rfl rfl rfl rfl ?_
    refine EL_nil (thn_n ?_)
    rcases csome h with ⟨d3, h⟩ | ⟨d3, h⟩
    ·refine E_ct d3 rfl ?_
     refine E_seq (E_region (EL_at (.int .i64 (4)) rfl rfl ?_))
     refine EL_nil (thn_n (E_ret (thn_r ?_)))
     obtain rfl := sinj h
     exact end1 rfl rfl (show _ = .int .i64 (4) from rfl) ⟨_, hfr, rfl⟩
    ·refine E_cf d3 rfl ?_
     exact E_skip (thn_n (t5 () _ _ ⟨o3, hfr⟩ h))
   ·rintro _ j7 e8 ⟨g8, hfr⟩ h
    refine E_seq (E_region (EL_at (.int .i64 (0)) rfl rfl ?_))
    refine EL_nil (thn_n (E_ret ?_))
    obtain rfl := sinj h
    exact end1 rfl rfl (show _ = .int .i64 (0) from rfl) ⟨_, hfr, rfl⟩
def f31 (x0 : PayPayList) (x1 : PayPiece) : Option (Int) :=
 Option.bind (α := Int) (
  lp (σ := Int × Int) (fun g8 (u0, o0) =>
   bif (decide (o0 < (((x1).Extras).length : Int))) then
    Option.bind (α := Int) (
     (idx ((x1).Extras) o0).bind fun z4 =>
     (idx (((x0).PayList).Extras) z4).bind fun i6 =>
     some ((w64 (u0 + i6)))
     ) fun z2 =>
    g8 (z2, (w64 (o0 + (1 : Int))))
   else
    some (u0)
   ) big ((1000 : Int), (0 : Int))
  ) fun j1 =>
 (f58 x0 ((x1).Dense)).bind fun o3 =>
 (quo64 (w64 ((w64 ((x1).Picks * o3)) * j1)) (1000000 : Int)).bind fun i5 =>
 some (i5)
theorem en31 : Enters Tryz.prog 31 := enters_of Tryz.func31 (by kernel_rfl) rfl
theorem wk31 {gI : Gh} {wI : World} {x0 : PayPayList} {x1 : PayPiece} {up0 : Value} (rp0 : RV gI.m wI x0 up0) {up1 : Value} (rp1 : RV gI.m wI x1 up1) {r : Int} (h : f31 x0 x1 = some r) : Fn Tryz.prog 31 #[up0, up1] gI wI (fun _ _ v => v = .int .i64 (r)) := by
 unfold f31 at h
 refine fn_of_E Tryz.func31 rfl (Nat.le_of_ble_eq_true rfl) fun g0 hm hfr => ?_
 have rp0 : RV g0.m wI x0 up0 := hm ▸ rp0
 have rp1 : RV g0.m wI x1 up1 := hm ▸ rp1
 show E _ 34 none _ _ _ _ _
 refine E_seq (E_region (EL_do .plain rfl (D_box (g := g0) rfl rp0 fun g1 w1 p1 hs q1 => ?_)))
 have hfr := hfr.ext hs
 have rp1 := rp1.ext hs
 refine EL_do .plain rfl (D_box (g := g1) rfl rp1 fun g2 w2 p2 hs q2 => ?_)
 have hfr := hfr.ext hs
 have q1 := q1.ext hs
 refine EL_at (.int .i64 (0)) rfl rfl ?_
 refine EL_nil (thn_n (E_seq (E_region (EL_at (.int .i64 (1000)) rfl rfl ?_))))
 refine EL_nil (thn_n ?_)
 obtain ⟨j1, hx, h⟩ := bsome h
 refine E_join (fun e w => ∃ (g : Gh) , Fr gI wI g w ∧ e 2 = p1 ∧ PT g.m w (x0 : PayPayList) p1 ∧ e 3 = p2 ∧ PT g.m w (x1 : PayPiece) p2 ∧ e 5 = .int .i64 (j1)) (fun Q' hQ => ?_) (fun bA jA hR => ?_)
 ·replace h := hx
  clear hx
  refine E_seq (E_region (EL_p (fPtr p2 3) (P_fieldAddr at_53_3 rfl (PT.ptr q2)) rfl ?_))
  have x8 := PT_field (part_PayPiece_3).1 q2
  refine EL_do .plain rfl (D_load (g := g2) Tryz.isAgg25 Tryz.sizeOf25 rfl x8 fun l5 i8 => ?_)
  refine EL_p (.int .i64 (((x1).Extras).length : Int)) (P_len Tryz.underlying25 rfl i8) rfl ?_
  refine EL_mw (.int .i64 (0)) rfl rfl ?_
  refine EL_nil (thn_n (E_block ?_))
  refine E_lp h (fun (s : Int × Int) e w => ∃ (g : Gh) , Fr gI wI g w ∧ e 2 = p1 ∧ PT g.m w (x0 : PayPayList) p1 ∧ e 3 = p2 ∧ PT g.m w (x1 : PayPiece) p2 ∧ e 5 = .int .i64 (s.1) ∧ e 9 = l5 ∧ RV g.m w ((x1).Extras : List Int) l5 ∧ e 10 = .int .i64 ((((x1).Extras).length : Int)) ∧ e 11 = .int .i64 (s.2)) ⟨g2, hfr, rfl, q1, rfl, q2, rfl, rfl, i8, rfl, rfl⟩ (fun X29 g8 n8 => ?_)
  rintro ⟨u0, o0⟩ gA kA ⟨q5, hfr, u3, d3, j6, v6, x6, y6, z3, t5, j3⟩ h
  refine E_seq (E_region (EL_p (.bool ((decide (o0 < (((x1).Extras).length : Int))))) (P_int j3 t5 rfl) rfl ?_))
  refine EL_nil (thn_n (E_seq ?_))
  rcases csome h with ⟨x5, h⟩ | ⟨x5, h⟩
  ·refine E_ct x5 rfl ?_
   refine E_skip (thn_n ?_)
   obtain ⟨z2, hx, h⟩ := bsome h
   refine E_join (fun e w => ∃ (g : Gh) , Fr gI wI g w ∧ e 2 = p1 ∧ PT g.m w (x0 : PayPayList) p1 ∧ e 3 = p2 ∧ PT g.m w (x1 : PayPiece) p2 ∧ e 5 = .int .i64 (z2) ∧ e 9 = l5 ∧ RV g.m w ((x1).Extras : List Int) l5 ∧ e 10 = .int .i64 ((((x1).Extras).length : Int)) ∧ e 11 = .int .i64 (o0)) (fun Q' hQ => ?_) (fun iA lA hR => ?_)
   ·replace h := hx
    clear hx
    refine E_block ?_
    refine E_seq (E_region ?_)
    obtain ⟨z4, b7, h⟩ := bsome h
    refine EL_p (ePtr l5 o0 1) (P_indexAddr (α := Int) Tryz.underlying25 Tryz.sizeOf3 y6 z3 j3 b7) rfl ?_
    have y8 := PT_idx z3 b7
    refine EL_do .plain rfl (D_load (g := q5) Tryz.isAgg3 Tryz.sizeOf3 rfl y8 fun mA a9 => ?_)
    obtain rfl := RV_int.1 a9
    refine EL_at (.int .i64 (z4)) rfl rfl ?_
    refine EL_nil (thn_n (E_region (EL_mv x6 rfl ?_)))
    refine EL_p (fPtr p1 0) (P_fieldAddr at_96_0 u3 (PT.ptr d3)) rfl ?_
    have k8 := PT_field (part_PayPayList_0).1 d3
    refine EL_p (fPtr (fPtr p1 0) 1) (P_fieldAddr at_35_1 rfl (PT.ptr k8)) rfl ?_
    have d9 := PT_field (part_PayList_1).1 k8
    refine EL_do .plain rfl (D_load (g := q5) Tryz.isAgg25 Tryz.sizeOf25 rfl d9 fun e9 l8 => ?_)
    refine EL_mw (.int .i64 (z4)) rfl rfl ?_
    obtain ⟨i6, c7, h⟩ := bsome h
    refine EL_p (ePtr e9 z4 1) (P_indexAddr (α := Int) Tryz.underlying25 Tryz.sizeOf3 rfl l8 rfl c7) rfl ?_
    have i9 := PT_idx l8 c7
    refine EL_do .plain rfl (D_load (g := q5) Tryz.isAgg3 Tryz.sizeOf3 rfl i9 fun nA k9 => ?_)
    obtain rfl := RV_int.1 k9
    refine EL_in (.int .i64 ((w64 (u0 + i6)))) rfl rfl rfl rfl ?_
    refine EL_at (.int .i64 ((w64 (u0 + i6)))) rfl rfl ?_
    refine EL_nil (blk_n ?_)
    obtain rfl := sinj h
    exact hQ _ _ ⟨q5, hfr, u3, d3, j6, v6, rfl, y6, z3, t5, j3⟩
   ·clear hx
    obtain ⟨l9, hfr, g7, i7, j7, m7, n7, o7, u7, d7, e7⟩ := hR
    refine E_region (EL_in (.int .i64 ((w64 (o0 + (1 : Int))))) e7 rfl rfl rfl ?_)
    refine EL_mw (.int .i64 ((w64 (o0 + (1 : Int))))) rfl rfl ?_
    exact EL_nil (thn_n (n8 (z2, (w64 (o0 + (1 : Int)))) _ _ ⟨l9, hfr, g7, i7, j7, m7, n7, o7, u7, d7, rfl⟩ h))
  ·refine E_cf x5 rfl ?_
   refine E_exit ?_
   refine thn_e ?_
   refine thn_e ?_
   refine blk_hit ?_
   obtain rfl := sinj h
   exact hQ _ _ ⟨q5, hfr, u3, d3, j6, v6, x6⟩
 ·clear hx
  obtain ⟨n9, hfr, v7, c8, a7, i3, e8⟩ := hR
  refine E_seq ?_
  have o9 := PT_field (part_PayPiece_2).1 i3
  refine L_load (x := .tmp 24) Tryz.isAgg3 Tryz.sizeOf3 o9 fun oA t9 o8 => ?_
  obtain rfl := RV_int.1 t9
  refine L_load (x := .tmp 2) Tryz.isAgg96 Tryz.sizeOf96 c8 fun m8 u9 q8 => ?_
  have y9 := PT_field (part_PayPiece_1).1 i3
  refine L_load (x := .tmp 27) Tryz.isAgg3 Tryz.sizeOf3 y9 fun pA z9 r8 => ?_
  obtain rfl := RV_int.1 z9
  obtain ⟨o3, t8, h⟩ := bsome h
  obtain ⟨i5, v8, h⟩ := bsome h
  refine E_drawL (g := n9) (n := 11) [(5, (fun v g w => v = .int .i64 (o3)))] [0, 1, 2, 3, 4, 5, 6, 7, 8, 9, 10] rfl mixed (by kernel_rfl) (⟨fun _ => up_eq _, trivial⟩) ?_
  refine L_p (fPtr p2 2) rfl rfl (P_fieldAddr at_53_2 a7 (PT.ptr i3)) ?_
  refine L_ld (c := .int .i64 ((x1).Picks)) rfl rfl .plain (fun _ _ h => h.ch) o8 rfl ?_
  refine L_ld (c := m8) rfl rfl .plain (fun _ _ h => h.ch) q8 v7 ?_
  refine L_p (fPtr p2 1) rfl rfl (P_fieldAddr at_53_1 a7 (PT.ptr i3)) ?_
  refine L_ld (c := .int .i64 ((x1).Dense)) rfl rfl .plain (fun _ _ h => h.ch) r8 rfl ?_
  refine L_do (φ := fun v g w => v = .int .i64 (o3)) rfl rfl .plain (fun g w hd => D_call (g := g) (vs := [m8, .int .i64 ((x1).Dense)]) en58 (.cons rfl (.cons rfl .nil)) (wk58 (u9.ext hd.1) t8) fun g' w' v hs hr => ⟨g', hs, hr⟩) (fun qA hv => ?_)
  obtain ⟨_, _, _, rfl⟩ := hv
  refine L_p (.int .i64 ((w64 ((x1).Picks * o3)))) rfl rfl (P_int rfl rfl rfl) ?_
  refine L_p (.int .i64 (j1)) rfl rfl (P_move e8) ?_
  refine L_p (.int .i64 ((w64 ((w64 ((x1).Picks * o3)) * j1)))) rfl rfl (P_int rfl rfl rfl) ?_
  refine L_p (.int .i64 (i5)) rfl rfl (P_int rfl rfl (congrArg (Option.map (Value.int .i64)) v8)) ?_
  refine L_p (.int .i64 (i5)) rfl rfl (P_assign rfl) ?_
  refine L_nl fun rA sA hs => ?_
  have hfr := hfr.ext hs
  clear hs
  refine EL_nil (thn_n (E_ret ?_))
  obtain rfl := sinj h
  exact end1 rfl rfl (show _ = .int .i64 (i5) from rfl) ⟨_, hfr, rfl⟩
def f33 (x0 : PayPayList) (x1 : PayPiece) (x2 : Int) : Option (Int) :=
 (f31 x0 x1).bind fun y6 =>
 (f32 x0 y6 x2).bind fun y9 =>
 some ((w64 (y6 - y9)))
theorem en33 : Enters Tryz.prog 33 := enters_of Tryz.func33 (by kernel_rfl) rfl
theorem wk33 {gI : Gh} {wI : World} {x0 : PayPayList} {x1 : PayPiece} {x2 : Int} {up0 : Value} (rp0 : RV gI.m wI x0 up0) {up1 : Value} (rp1 : RV gI.m wI x1 up1) {r : Int} (h : f33 x0 x1 x2 = some r) : Fn Tryz.prog 33 #[up0, up1, .int .i64 (x2)] gI wI (fun _ _ v => v = .int .i64 (r)) := by
 unfold f33 at h
 refine fn_of_E Tryz.func33 rfl (Nat.le_of_ble_eq_true rfl) fun g0 hm hfr => ?_
 have rp0 : RV g0.m wI x0 up0 := hm ▸ rp0
 have rp1 : RV g0.m wI x1 up1 := hm ▸ rp1
 show E _ 17 none _ _ _ _ _
 refine E_seq (E_region (EL_do .plain rfl (D_box (g := g0) rfl rp0 fun g1 w1 p1 hs q1 => ?_)))
 have hfr := hfr.ext hs
 have rp1 := rp1.ext hs
 refine EL_do .plain rfl (D_box (g := g1) rfl rp1 fun g2 w2 p2 hs q2 => ?_)
 have hfr := hfr.ext hs
 have q1 := q1.ext hs
 refine EL_at (.int .i64 (0)) rfl rfl ?_
 refine EL_nil (thn_n (E_seq (E_region (EL_do .plain rfl (D_load (g := g2) Tryz.isAgg96 Tryz.sizeOf96 rfl q1 fun v3 r3 => ?_)))))
 refine EL_do .plain rfl (D_load (g := g2) Tryz.isAgg53 Tryz.sizeOf53 rfl q2 fun v4 r4 => ?_)
 obtain ⟨y6, o0, h⟩ := bsome h
 refine EL_do .plain rfl (D_call (g := g2) (vs := [v3, v4]) en31 (.cons rfl (.cons rfl .nil)) (wk31 r3 r4 o0) fun g5 w5_ v5 hs hr => ?_)
 have hfr := hfr.ext hs
 have q1 := q1.ext hs
 subst hr
 refine EL_at (.int .i64 (y6)) rfl rfl ?_
 refine EL_nil (thn_n (E_seq (E_region (EL_mw (.int .i64 (y6)) rfl rfl ?_))))
 refine EL_do .plain rfl (D_load (g := g5) Tryz.isAgg96 Tryz.sizeOf96 rfl q1 fun v7 r7 => ?_)
 refine EL_mw (.int .i64 (y6)) rfl rfl ?_
 refine EL_mw (.int .i64 (x2)) rfl rfl ?_
 obtain ⟨y9, u0, h⟩ := bsome h
 refine EL_do .plain rfl (D_call (g := g5) (vs := [v7, .int .i64 (y6), .int .i64 (x2)]) en32 (.cons rfl (.cons rfl (.cons rfl .nil))) (wk32 r7 u0) fun g8 w8_ v8 hs hr => ?_)
 have hfr := hfr.ext hs
 subst hr
 refine EL_in (.int .i64 ((w64 (y6 - y9)))) rfl rfl rfl rfl ?_
 refine EL_at (.int .i64 ((w64 (y6 - y9)))) rfl rfl ?_
 refine EL_nil (thn_n (E_ret ?_))
 obtain rfl := sinj h
 exact end1 rfl rfl (show _ = .int .i64 ((w64 (y6 - y9))) from rfl) ⟨_, hfr, rfl⟩
def f42 (x0 : PayList) : Option (Int) :=
 jn (σ := Unit) (fun _ =>
  some ((0 : Int))
  ) fun d7 =>
 Option.bind (α := Bool) (
  bif (decide ((((x0).Rates).length : Int) > (6 : Int))) then
   some ((decide ((((x0).Rates).length : Int) > (6 : Int))))
  else
   some ((decide ((((x0).Extras).length : Int) > (8 : Int))))
  ) fun j1 =>
 bif j1 then
  some ((5 : Int))
 else
  Option.bind (α := Bool) (
   (f71 ((⟨x0⟩ : PayPayList))).bind fun i5 =>
   bif (!i5) then
    some ((!i5))
   else
    (f72 ((x0).Extras)).bind fun d3 =>
    bif (!d3) then
     some ((!d3))
    else
     (f45 ((0 : Int)) ((1000 : Int)) (([(x0).Fine] : List Int))).bind fun i3 =>
     bif (!i3) then
      some ((!i3))
     else
      (f72 (([(x0).Cap] : List Int))).bind fun o3 =>
      some ((!o3))
   ) fun u0 =>
  bif u0 then
   some ((2 : Int))
  else
   d7 ()
theorem en42 : Enters Tryz.prog 42 := enters_of Tryz.func42 (by kernel_rfl) rfl
theorem wk42 {gI : Gh} {wI : World} {x0 : PayList} {up0 : Value} (rp0 : RV gI.m wI x0 up0) {r : Int} (h : f42 x0 = some r) : Fn Tryz.prog 42 #[up0] gI wI (fun _ _ v => v = .int .i64 (r)) := by
 unfold f42 at h
 refine fn_of_E Tryz.func42 rfl (Nat.le_of_ble_eq_true rfl) fun g0 hm hfr => ?_
 have rp0 : RV g0.m wI x0 up0 := hm ▸ rp0
 show E _ 31 none _ _ _ _ _
 refine E_seq (E_region (EL_do .plain rfl (D_box (g := g0) rfl rp0 fun g1 w1 p1 hs q1 => ?_)))
 have hfr := hfr.ext hs
 refine EL_at (.int .i64 (0)) rfl rfl ?_
 refine EL_nil (thn_n (E_joinC h (fun (s : Unit) e w => ∃ (g : Gh) , Fr gI wI g w) (fun X58 d7 j7 h => ?_) ?_))
 ·refine E_block ?_
  obtain ⟨j1, hx, h⟩ := bsome h
  refine E_join (fun e w => ∃ (g : Gh) , Fr gI wI g w ∧ e 1 = p1 ∧ PT g.m w (x0 : PayList) p1 ∧ e 3 = .bool (j1)) (fun Q' hQ => ?_) (fun n9 mA hR => ?_)
  ·replace h := hx
   clear hx
   refine E_seq (E_region (EL_p (fPtr p1 0) (P_fieldAddr at_35_0 rfl (PT.ptr q1)) rfl ?_))
   have q8 := PT_field (part_PayList_0).1 q1
   refine EL_do .plain rfl (D_load (g := g1) Tryz.isAgg33 Tryz.sizeOf33 rfl q8 fun nA r8 => ?_)
   refine EL_p (.int .i64 (((x0).Rates).length : Int)) (P_len Tryz.underlying33 rfl r8) rfl ?_
   refine EL_p (.bool ((decide ((((x0).Rates).length : Int) > (6 : Int))))) (P_int rfl rfl rfl) rfl ?_
   refine EL_p (.bool ((decide ((((x0).Rates).length : Int) > (6 : Int))))) (P_assign rfl) rfl ?_
   refine EL_nil (thn_n ?_)
   rcases csome h with ⟨l5, h⟩ | ⟨l5, h⟩
   ·refine E_ct l5 rfl ?_
    refine E_skip ?_
    obtain rfl := sinj h
    exact hQ _ _ ⟨g1, hfr, rfl, q1, rfl⟩
   ·refine E_cf l5 rfl ?_
    refine E_region (EL_p (fPtr p1 1) (P_fieldAddr at_35_1 rfl (PT.ptr q1)) rfl ?_)
    have t8 := PT_field (part_PayList_1).1 q1
    refine EL_do .plain rfl (D_load (g := g1) Tryz.isAgg25 Tryz.sizeOf25 rfl t8 fun oA v8 => ?_)
    refine EL_p (.int .i64 (((x0).Extras).length : Int)) (P_len Tryz.underlying25 rfl v8) rfl ?_
    refine EL_p (.bool ((decide ((((x0).Extras).length : Int) > (8 : Int))))) (P_int rfl rfl rfl) rfl ?_
    refine EL_p (.bool ((decide ((((x0).Extras).length : Int) > (8 : Int))))) (P_assign rfl) rfl ?_
    refine EL_nil ?_
    obtain rfl := sinj h
    exact hQ _ _ ⟨g1, hfr, rfl, q1, rfl⟩
  ·clear hx
   obtain ⟨v6, hfr, z2, o0, j6⟩ := hR
   rcases csome h with ⟨q5, h⟩ | ⟨q5, h⟩
   ·refine E_cond_true (Eq.trans (show ev _ _ = .bool (j1) from j6) (congrArg Value.bool q5)) ?_
    refine E_seq (E_region (EL_at (.int .i64 (5)) rfl rfl ?_))
    refine EL_nil (thn_n (E_ret (blk_r ?_)))
    refine thn_r ?_
    obtain rfl := sinj h
    exact end1 rfl rfl (show _ = .int .i64 (5) from rfl) ⟨_, hfr, rfl⟩
   ·refine E_cond_false (Eq.trans (show ev _ _ = .bool (j1) from j6) (congrArg Value.bool q5)) ?_
    obtain ⟨u0, hx, h⟩ := bsome h
    refine E_join (fun e w => ∃ (g : Gh) , Fr gI wI g w ∧ e 12 = .bool (u0)) (fun Q' hQ => ?_) (fun d9 o9 hR => ?_)
    ·replace h := hx
     clear hx
     refine E_seq (E_region (EL_do .plain rfl (D_load (g := v6) Tryz.isAgg35 Tryz.sizeOf35 z2 o0 fun x6 e7 => ?_)))
     have g7 : RV v6.m _ (⟨x0⟩ : PayPayList) (.agg (setCh [[.slice none 0 0, .slice none 0 0, .int .i64 0, .int .i64 0]] [(0, x6)]).flatten.toArray) := RV_build rfl (rep_last (RV.cells e7))
     generalize m7 : (Value.agg (setCh [[.slice none 0 0, .slice none 0 0, .int .i64 0, .int .i64 0]] [(0, x6)]).flatten.toArray) = i7 at g7
     refine EL_p i7 (m7 ▸ P_build (vs := [(0, x6)]) [[.slice none 0 0, .slice none 0 0, .int .i64 0, .int .i64 0]] lay_96 rfl rfl (.cons rfl .nil) ⟨⟨_, rfl, cells_size e7⟩, trivial⟩) rfl ?_
     obtain ⟨i5, n7, h⟩ := bsome h
     refine EL_do .plain rfl (D_call (g := v6) (vs := [i7]) en71 (.cons rfl .nil) (wk71 g7 n7) fun y6 t9 pA hs hr => ?_)
     have hfr := hfr.ext hs
     have o0 := o0.ext hs
     subst hr
     refine EL_p (.bool (!i5)) (P_not rfl) rfl ?_
     refine EL_at (.bool (!i5)) rfl rfl ?_
     refine EL_nil (thn_n ?_)
     rcases csome h with ⟨t5, h⟩ | ⟨t5, h⟩
     ·refine E_ct t5 rfl ?_
      refine E_skip ?_
      obtain rfl := sinj h
      exact hQ _ _ ⟨y6, hfr, rfl⟩
     ·refine E_cf t5 rfl ?_
      refine E_seq (E_region (EL_p (fPtr p1 1) (P_fieldAddr at_35_1 z2 (PT.ptr o0)) rfl ?_))
      have x8 := PT_field (part_PayList_1).1 o0
      refine EL_do .plain rfl (D_load (g := y6) Tryz.isAgg25 Tryz.sizeOf25 rfl x8 fun y8 a9 => ?_)
      obtain ⟨d3, a7, h⟩ := bsome h
      refine EL_do .plain rfl (D_call (g := y6) (vs := [y8]) en72 (.cons rfl .nil) (wk72 a9 a7) fun x5 e9 u9 hs hr => ?_)
      have hfr := hfr.ext hs
      have o0 := o0.ext hs
      subst hr
      refine EL_p (.bool (!d3)) (P_not rfl) rfl ?_
      refine EL_at (.bool (!d3)) rfl rfl ?_
      refine EL_nil (thn_n ?_)
      rcases csome h with ⟨u3, h⟩ | ⟨u3, h⟩
      ·refine E_ct u3 rfl ?_
       refine E_skip ?_
       obtain rfl := sinj h
       exact hQ _ _ ⟨x5, hfr, rfl⟩
      ·refine E_cf u3 rfl ?_
       refine E_seq (E_region (EL_p (fPtr p1 2) (P_fieldAddr at_35_2 z2 (PT.ptr o0)) rfl ?_))
       have o7 := PT_field (part_PayList_2).1 o0
       refine EL_do .plain rfl (D_load (g := x5) Tryz.isAgg3 Tryz.sizeOf3 rfl o7 fun y9 u7 => ?_)
       obtain rfl := RV_int.1 u7
       refine EL_do .plain rfl (D_buildSlice (g := x5) 3023 (xs := ([(x0).Fine] : List Int)) (vs := [.int .i64 ((x0).Fine)]) Tryz.underlying25 Tryz.sizeOf3 Tryz.zeroValue3 rfl rfl (.cons rfl .nil) (RVs.cons (RV_int.2 rfl) RVs.nil) rfl rfl fun v7 z9 c8 hs o105 e8 hxt hfl => ?_)
       have hfr := hfr.stp hs
       have o0 := o0.stp hs
       obtain ⟨i3, b7, h⟩ := bsome h
       refine EL_do .plain rfl (D_call (g := v7) (vs := [.int .i64 (0), .int .i64 (1000), c8]) en45 (.cons rfl (.cons rfl (.cons rfl .nil))) (wk45 e8 b7) fun i6 i9 bA hs hr => ?_)
       have hfr := hfr.ext hs
       have o0 := o0.ext hs
       subst hr
       refine EL_p (.bool (!i3)) (P_not rfl) rfl ?_
       refine EL_at (.bool (!i3)) rfl rfl ?_
       refine EL_nil (thn_n ?_)
       rcases csome h with ⟨z3, h⟩ | ⟨z3, h⟩
       ·refine E_ct z3 rfl ?_
        refine E_skip ?_
        obtain rfl := sinj h
        exact hQ _ _ ⟨i6, hfr, rfl⟩
       ·refine E_cf z3 rfl ?_
        refine E_region (EL_p (fPtr p1 3) (P_fieldAddr at_35_3 z2 (PT.ptr o0)) rfl ?_)
        have g8 := PT_field (part_PayList_3).1 o0
        refine EL_do .plain rfl (D_load (g := i6) Tryz.isAgg3 Tryz.sizeOf3 rfl g8 fun gA i8 => ?_)
        obtain rfl := RV_int.1 i8
        refine EL_do .plain rfl (D_buildSlice (g := i6) 3028 (xs := ([(x0).Cap] : List Int)) (vs := [.int .i64 ((x0).Cap)]) Tryz.underlying25 Tryz.sizeOf3 Tryz.zeroValue3 rfl rfl (.cons rfl .nil) (RVs.cons (RV_int.2 rfl) RVs.nil) rfl rfl fun k8 iA l8 hs o111 m8 hxt hfl => ?_)
        have hfr := hfr.stp hs
        obtain ⟨o3, c7, h⟩ := bsome h
        refine EL_do .plain rfl (D_call (g := k8) (vs := [l8]) en72 (.cons rfl .nil) (wk72 m8 c7) fun n8 k9 jA hs hr => ?_)
        have hfr := hfr.ext hs
        subst hr
        refine EL_p (.bool (!o3)) (P_not rfl) rfl ?_
        refine EL_at (.bool (!o3)) rfl rfl ?_
        refine EL_nil ?_
        obtain rfl := sinj h
        exact hQ _ _ ⟨n8, hfr, rfl⟩
    ·clear hx
     obtain ⟨o8, hfr, j3⟩ := hR
     rcases csome h with ⟨z4, h⟩ | ⟨z4, h⟩
     ·refine E_cond_true (Eq.trans (show ev _ _ = .bool (u0) from j3) (congrArg Value.bool z4)) ?_
      refine E_seq (E_region (EL_at (.int .i64 (2)) rfl rfl ?_))
      refine EL_nil (thn_n (E_ret (blk_r ?_)))
      refine thn_r ?_
      obtain rfl := sinj h
      exact end1 rfl rfl (show _ = .int .i64 (2) from rfl) ⟨_, hfr, rfl⟩
     ·refine E_cond_false (Eq.trans (show ev _ _ = .bool (u0) from j3) (congrArg Value.bool z4)) ?_
      exact E_skip (blk_n (thn_n (j7 () _ _ ⟨o8, hfr⟩ h)))
 ·rintro _ l9 kA ⟨lA, hfr⟩ h
  refine E_seq (E_region (EL_at (.int .i64 (0)) rfl rfl ?_))
  refine EL_nil (thn_n (E_ret ?_))
  obtain rfl := sinj h
  exact end1 rfl rfl (show _ = .int .i64 (0) from rfl) ⟨_, hfr, rfl⟩
def f57 (x0 : PayPayList) (x1 : PayPiece) : Option (Int) :=
 jn (σ := Unit) (fun _ =>
  some ((0 : Int))
  ) fun i7 =>
 Option.bind (α := Bool) (
  (f45 ((0 : Int)) ((50 : Int)) (([(x1).Weaver] : List Int))).bind fun z4 =>
  bif (!z4) then
   some ((!z4))
  else
   (f45 ((0 : Int)) ((1000 : Int)) (([(x1).Dense] : List Int))).bind fun i5 =>
   bif (!i5) then
    some ((!i5))
   else
    (f45 ((0 : Int)) ((1000000 : Int)) (([(x1).Picks] : List Int))).bind fun j1 =>
    bif (!j1) then
     some ((!j1))
    else
     (f45 ((0 : Int)) ((100 : Int)) (([(x1).Faults] : List Int))).bind fun z2 =>
     some ((!z2))
  ) fun u0 =>
 bif u0 then
  some ((2 : Int))
 else
  (f45 ((0 : Int)) ((w64 (((((x0).PayList).Extras).length : Int) - (1 : Int)))) ((x1).Extras)).bind fun d3 =>
  bif (!d3) then
   some ((7 : Int))
  else
   (f92 ((x1).Extras)).bind fun y125 =>
   bif (!y125) then
    some ((4 : Int))
   else
    i7 ()
theorem en57 : Enters Tryz.prog 57 := enters_of Tryz.func57 (by kernel_rfl) rfl
theorem wk57 {gI : Gh} {wI : World} {x0 : PayPayList} {x1 : PayPiece} {up0 : Value} (rp0 : RV gI.m wI x0 up0) {up1 : Value} (rp1 : RV gI.m wI x1 up1) {r : Int} (h : f57 x0 x1 = some r) : Fn Tryz.prog 57 #[up0, up1] gI wI (fun _ _ v => v = .int .i64 (r)) := by
 unfold f57 at h
 refine fn_of_E Tryz.func57 rfl (Nat.le_of_ble_eq_true rfl) fun g0 hm hfr => ?_
 have rp0 : RV g0.m wI x0 up0 := hm ▸ rp0
 have rp1 : RV g0.m wI x1 up1 := hm ▸ rp1
 show E _ 41 none _ _ _ _ _
 refine E_seq (E_region (EL_do .plain rfl (D_box (g := g0) rfl rp0 fun g1 w1 p1 hs q1 => ?_)))
 have hfr := hfr.ext hs
 have rp1 := rp1.ext hs
 refine EL_do .plain rfl (D_box (g := g1) rfl rp1 fun g2 w2 p2 hs q2 => ?_)
 have hfr := hfr.ext hs
 have q1 := q1.ext hs
 refine EL_at (.int .i64 (0)) rfl rfl ?_
 refine EL_nil (thn_n (E_joinC h (fun (s : Unit) e w => ∃ (g : Gh) , Fr gI wI g w) (fun X65 i7 j7 h => ?_) ?_))
 ·refine E_block ?_
  obtain ⟨u0, hx, h⟩ := bsome h
  refine E_join (fun e w => ∃ (g : Gh) , Fr gI wI g w ∧ e 2 = p1 ∧ PT g.m w (x0 : PayPayList) p1 ∧ e 3 = p2 ∧ PT g.m w (x1 : PayPiece) p2 ∧ e 5 = .bool (u0)) (fun Q' hQ => ?_) (fun bA mA hR => ?_)
  ·replace h := hx
   clear hx
   refine E_seq (E_region (EL_p (fPtr p2 0) (P_fieldAddr at_53_0 rfl (PT.ptr q2)) rfl ?_))
   have e9 := PT_field (part_PayPiece_0).1 q2
   refine EL_do .plain rfl (D_load (g := g2) Tryz.isAgg3 Tryz.sizeOf3 rfl e9 fun dB i9 => ?_)
   obtain rfl := RV_int.1 i9
   refine EL_do .plain rfl (D_buildSlice (g := g2) 3008 (xs := ([(x1).Weaver] : List Int)) (vs := [.int .i64 ((x1).Weaver)]) Tryz.underlying25 Tryz.sizeOf3 Tryz.zeroValue3 rfl rfl (.cons rfl .nil) (RVs.cons (RV_int.2 rfl) RVs.nil) rfl rfl fun k9 eB l9 hs o91 n9 hxt hfl => ?_)
   have hfr := hfr.stp hs
   have q1 := q1.stp hs
   have q2 := q2.stp hs
   obtain ⟨z4, m7, h⟩ := bsome h
   refine EL_do .plain rfl (D_call (g := k9) (vs := [.int .i64 (0), .int .i64 (50), l9]) en45 (.cons rfl (.cons rfl (.cons rfl .nil))) (wk45 n9 m7) fun v6 nA iB hs hr => ?_)
   have hfr := hfr.ext hs
   have q1 := q1.ext hs
   have q2 := q2.ext hs
   subst hr
   refine EL_p (.bool (!z4)) (P_not rfl) rfl ?_
   refine EL_at (.bool (!z4)) rfl rfl ?_
   refine EL_nil (thn_n ?_)
   rcases csome h with ⟨x5, h⟩ | ⟨x5, h⟩
   ·refine E_ct x5 rfl ?_
    refine E_skip ?_
    obtain rfl := sinj h
    exact hQ _ _ ⟨v6, hfr, rfl, q1, rfl, q2, rfl⟩
   ·refine E_cf x5 rfl ?_
    refine E_seq (E_region (EL_p (fPtr p2 1) (P_fieldAddr at_53_1 rfl (PT.ptr q2)) rfl ?_))
    have o9 := PT_field (part_PayPiece_1).1 q2
    refine EL_do .plain rfl (D_load (g := v6) Tryz.isAgg3 Tryz.sizeOf3 rfl o9 fun jB t9 => ?_)
    obtain rfl := RV_int.1 t9
    refine EL_do .plain rfl (D_buildSlice (g := v6) 3013 (xs := ([(x1).Dense] : List Int)) (vs := [.int .i64 ((x1).Dense)]) Tryz.underlying25 Tryz.sizeOf3 Tryz.zeroValue3 rfl rfl (.cons rfl .nil) (RVs.cons (RV_int.2 rfl) RVs.nil) rfl rfl fun u9 kB y9 hs o97 z9 hxt hfl => ?_)
    have hfr := hfr.stp hs
    have q1 := q1.stp hs
    have q2 := q2.stp hs
    obtain ⟨i5, n7, h⟩ := bsome h
    refine EL_do .plain rfl (D_call (g := u9) (vs := [.int .i64 (0), .int .i64 (1000), y9]) en45 (.cons rfl (.cons rfl (.cons rfl .nil))) (wk45 z9 n7) fun x6 oA lB hs hr => ?_)
    have hfr := hfr.ext hs
    have q1 := q1.ext hs
    have q2 := q2.ext hs
    subst hr
    refine EL_p (.bool (!i5)) (P_not rfl) rfl ?_
    refine EL_at (.bool (!i5)) rfl rfl ?_
    refine EL_nil (thn_n ?_)
    rcases csome h with ⟨i3, h⟩ | ⟨i3, h⟩
    ·refine E_ct i3 rfl ?_
     refine E_skip ?_
     obtain rfl := sinj h
     exact hQ _ _ ⟨x6, hfr, rfl, q1, rfl, q2, rfl⟩
    ·refine E_cf i3 rfl ?_
     refine E_seq (E_region (EL_p (fPtr p2 2) (P_fieldAddr at_53_2 rfl (PT.ptr q2)) rfl ?_))
     have o7 := PT_field (part_PayPiece_2).1 q2
     refine EL_do .plain rfl (D_load (g := x6) Tryz.isAgg3 Tryz.sizeOf3 rfl o7 fun pA u7 => ?_)
     obtain rfl := RV_int.1 u7
     refine EL_do .plain rfl (D_buildSlice (g := x6) 3018 (xs := ([(x1).Picks] : List Int)) (vs := [.int .i64 ((x1).Picks)]) Tryz.underlying25 Tryz.sizeOf3 Tryz.zeroValue3 rfl rfl (.cons rfl .nil) (RVs.cons (RV_int.2 rfl) RVs.nil) rfl rfl fun v7 qA c8 hs o103 e8 hxt hfl => ?_)
     have hfr := hfr.stp hs
     have q1 := q1.stp hs
     have q2 := q2.stp hs
     obtain ⟨j1, c7, h⟩ := bsome h
     refine EL_do .plain rfl (D_call (g := v7) (vs := [.int .i64 (0), .int .i64 (1000000), c8]) en45 (.cons rfl (.cons rfl (.cons rfl .nil))) (wk45 e8 c7) fun i6 gA rA hs hr => ?_)
     have hfr := hfr.ext hs
     have q1 := q1.ext hs
     have q2 := q2.ext hs
     subst hr
     refine EL_p (.bool (!j1)) (P_not rfl) rfl ?_
     refine EL_at (.bool (!j1)) rfl rfl ?_
     refine EL_nil (thn_n ?_)
     rcases csome h with ⟨j3, h⟩ | ⟨j3, h⟩
     ·refine E_ct j3 rfl ?_
      refine E_skip ?_
      obtain rfl := sinj h
      exact hQ _ _ ⟨i6, hfr, rfl, q1, rfl, q2, rfl⟩
     ·refine E_cf j3 rfl ?_
      refine E_region (EL_p (fPtr p2 4) (P_fieldAddr at_53_4 rfl (PT.ptr q2)) rfl ?_)
      have g8 := PT_field (part_PayPiece_4).1 q2
      refine EL_do .plain rfl (D_load (g := i6) Tryz.isAgg3 Tryz.sizeOf3 rfl g8 fun sA i8 => ?_)
      obtain rfl := RV_int.1 i8
      refine EL_do .plain rfl (D_buildSlice (g := i6) 3023 (xs := ([(x1).Faults] : List Int)) (vs := [.int .i64 ((x1).Faults)]) Tryz.underlying25 Tryz.sizeOf3 Tryz.zeroValue3 rfl rfl (.cons rfl .nil) (RVs.cons (RV_int.2 rfl) RVs.nil) rfl rfl fun k8 uA l8 hs o109 m8 hxt hfl => ?_)
      have hfr := hfr.stp hs
      have q1 := q1.stp hs
      have q2 := q2.stp hs
      obtain ⟨z2, d7, h⟩ := bsome h
      refine EL_do .plain rfl (D_call (g := k8) (vs := [.int .i64 (0), .int .i64 (100), l8]) en45 (.cons rfl (.cons rfl (.cons rfl .nil))) (wk45 m8 d7) fun n8 iA xA hs hr => ?_)
      have hfr := hfr.ext hs
      have q1 := q1.ext hs
      have q2 := q2.ext hs
      subst hr
      refine EL_p (.bool (!z2)) (P_not rfl) rfl ?_
      refine EL_at (.bool (!z2)) rfl rfl ?_
      refine EL_nil ?_
      obtain rfl := sinj h
      exact hQ _ _ ⟨n8, hfr, rfl, q1, rfl, q2, rfl⟩
  ·clear hx
   obtain ⟨j6, hfr, y6, l5, q5, o0, t5⟩ := hR
   rcases csome h with ⟨o3, h⟩ | ⟨o3, h⟩
   ·refine E_cond_true (Eq.trans (show ev _ _ = .bool (u0) from t5) (congrArg Value.bool o3)) ?_
    refine E_seq (E_region (EL_at (.int .i64 (2)) rfl rfl ?_))
    refine EL_nil (thn_n (E_ret (blk_r ?_)))
    refine thn_r ?_
    obtain rfl := sinj h
    exact end1 rfl rfl (show _ = .int .i64 (2) from rfl) ⟨_, hfr, rfl⟩
   ·refine E_cond_false (Eq.trans (show ev _ _ = .bool (u0) from t5) (congrArg Value.bool o3)) ?_
    refine E_seq (E_region (EL_p (fPtr p1 0) (P_fieldAddr at_96_0 y6 (PT.ptr l5)) rfl ?_))
    have a7 := PT_field (part_PayPayList_0).1 l5
    refine EL_p (fPtr (fPtr p1 0) 1) (P_fieldAddr at_35_1 rfl (PT.ptr a7)) rfl ?_
    have o8 := PT_field (part_PayList_1).1 a7
    refine EL_do .plain rfl (D_load (g := j6) Tryz.isAgg25 Tryz.sizeOf25 rfl o8 fun yA q8 => ?_)
    refine EL_p (.int .i64 ((((x0).PayList).Extras).length : Int)) (P_len Tryz.underlying25 rfl q8) rfl ?_
    refine EL_p (.int .i64 ((w64 (((((x0).PayList).Extras).length : Int) - (1 : Int))))) (P_int rfl rfl rfl) rfl ?_
    refine EL_p (fPtr p2 3) (P_fieldAddr at_53_3 q5 (PT.ptr o0)) rfl ?_
    have r8 := PT_field (part_PayPiece_3).1 o0
    refine EL_do .plain rfl (D_load (g := j6) Tryz.isAgg25 Tryz.sizeOf25 rfl r8 fun t8 v8 => ?_)
    obtain ⟨d3, e7, h⟩ := bsome h
    refine EL_do .plain rfl (D_call (g := j6) (vs := [.int .i64 (0), .int .i64 ((w64 (((((x0).PayList).Extras).length : Int) - (1 : Int)))), t8]) en45 (.cons rfl (.cons rfl (.cons rfl .nil))) (wk45 v8 e7) fun b7 jA zA hs hr => ?_)
    have hfr := hfr.ext hs
    have o0 := o0.ext hs
    subst hr
    refine EL_p (.bool (!d3)) (P_not rfl) rfl ?_
    refine EL_at (.bool (!d3)) rfl rfl ?_
    refine EL_nil (thn_n ?_)
    rcases csome h with ⟨u3, h⟩ | ⟨u3, h⟩
    ·refine E_ct u3 rfl ?_
     refine E_seq (E_region (EL_at (.int .i64 (7)) rfl rfl ?_))
     refine EL_nil (thn_n (E_ret (blk_r ?_)))
     refine thn_r ?_
     obtain rfl := sinj h
     exact end1 rfl rfl (show _ = .int .i64 (7) from rfl) ⟨_, hfr, rfl⟩
    ·refine E_cf u3 rfl ?_
     refine E_seq (E_region (EL_p (fPtr p2 3) (P_fieldAddr at_53_3 q5 (PT.ptr o0)) rfl ?_))
     have x8 := PT_field (part_PayPiece_3).1 o0
     refine EL_do .plain rfl (D_load (g := b7) Tryz.isAgg25 Tryz.sizeOf25 rfl x8 fun y8 a9 => ?_)
     obtain ⟨y125, g7, h⟩ := bsome h
     refine EL_do .plain rfl (D_call (g := b7) (vs := [y8]) en92 (.cons rfl .nil) (wk92 a9 g7) fun d9 kA aB hs hr => ?_)
     have hfr := hfr.ext hs
     subst hr
     refine EL_p (.bool (!y125)) (P_not rfl) rfl ?_
     refine EL_at (.bool (!y125)) rfl rfl ?_
     refine EL_nil (thn_n ?_)
     rcases csome h with ⟨z3, h⟩ | ⟨z3, h⟩
     ·refine E_ct z3 rfl ?_
      refine E_seq (E_region (EL_at (.int .i64 (4)) rfl rfl ?_))
      refine EL_nil (thn_n (E_ret (blk_r ?_)))
      refine thn_r ?_
      obtain rfl := sinj h
      exact end1 rfl rfl (show _ = .int .i64 (4) from rfl) ⟨_, hfr, rfl⟩
     ·refine E_cf z3 rfl ?_
      exact E_skip (blk_n (thn_n (j7 () _ _ ⟨d9, hfr⟩ h)))
 ·rintro _ lA bB ⟨cB, hfr⟩ h
  refine E_seq (E_region (EL_at (.int .i64 (0)) rfl rfl ?_))
  refine EL_nil (thn_n (E_ret ?_))
  obtain rfl := sinj h
  exact end1 rfl rfl (show _ = .int .i64 (0) from rfl) ⟨_, hfr, rfl⟩
def f59 (x0 : FaultLoom) (x1 : List FaultDamage) : Option (Int) :=
 jn (σ := Unit) (fun _ =>
  jn (σ := Unit) (fun _ =>
   some ((0 : Int))
   ) fun u3 =>
  bif (decide (((x1).length : Int) > (100 : Int))) then
   some ((5 : Int))
  else
   (f97 x1 ((fun a0 => f95 a0 x0))).bind fun i3 =>
   bif i3 then
    some ((2 : Int))
   else
    u3 ()
  ) fun k6 =>
 (f25 x0).bind fun y9 =>
 bif (y9 != (0 : Int)) then
  some (y9)
 else
  k6 ()
theorem en59 : Enters Tryz.prog 59 := enters_of Tryz.func59 (by kernel_rfl) rfl
theorem wk59 {gI : Gh} {wI : World} {x0 : FaultLoom} {x1 : List FaultDamage} {up0 : Value} (rp0 : RV gI.m wI x0 up0) {up1 : Value} (rp1 : RV gI.m wI x1 up1) {r : Int} (h : f59 x0 x1 = some r) : Fn Tryz.prog 59 #[up0, up1] gI wI (fun _ _ v => v = .int .i64 (r)) := by
 unfold f59 at h
 refine fn_of_E Tryz.func59 rfl (Nat.le_of_ble_eq_true rfl) fun g0 hm hfr => ?_
 have rp0 : RV g0.m wI x0 up0 := hm ▸ rp0
 have rp1 : RV g0.m wI x1 up1 := hm ▸ rp1
 show E _ 21 none _ _ _ _ _
 refine E_seq (E_region (EL_do .plain rfl (D_box (g := g0) rfl rp0 fun g1 w1 p1 hs q1 => ?_)))
 have hfr := hfr.ext hs
 have rp1 := rp1.ext hs
 refine EL_at (.int .i64 (0)) rfl rfl ?_
 refine EL_nil (thn_n (E_joinC h (fun (s : Unit) e w => ∃ (g : Gh) , Fr gI wI g w ∧ e 1 = up1 ∧ RV g.m w (x1 : List FaultDamage) up1 ∧ e 2 = p1 ∧ PT g.m w (x0 : FaultLoom) p1) (fun X6 k6 hk6 h => ?_) ?_))
 ·refine E_seq (E_region (EL_do .plain rfl (D_load (g := g1) Tryz.isAgg31 Tryz.sizeOf31 rfl q1 fun v7 r7 => ?_)))
  obtain ⟨y9, i5, h⟩ := bsome h
  refine EL_do .plain rfl (D_call (g := g1) (vs := [v7]) en25 (.cons rfl .nil) (wk25 r7 i5) fun g8 w8_ v8 hs hr => ?_)
  have hfr := hfr.ext hs
  have rp1 := rp1.ext hs
  have q1 := q1.ext hs
  subst hr
  refine EL_at (.int .i64 (y9)) rfl rfl ?_
  refine EL_nil (thn_n (E_seq (E_region (EL_mw (.int .i64 (y9)) rfl rfl ?_))))
  refine EL_in (.bool ((y9 != (0 : Int)))) rfl rfl rfl rfl ?_
  refine EL_nil (thn_n ?_)
  rcases csome h with ⟨o0, h⟩ | ⟨o0, h⟩
  ·refine E_ct o0 rfl ?_
   refine E_seq (E_region (EL_mw (.int .i64 (y9)) rfl rfl ?_))
   refine EL_at (.int .i64 (y9)) rfl rfl ?_
   refine EL_nil (thn_n (E_ret (thn_r ?_)))
   obtain rfl := sinj h
   exact end1 rfl rfl (show _ = .int .i64 (y9) from rfl) ⟨_, hfr, rfl⟩
  ·refine E_cf o0 rfl ?_
   exact E_skip (thn_n (hk6 () _ _ ⟨g8, hfr, rfl, rp1, rfl, q1⟩ h))
 ·rintro _ t5 j6 ⟨l5, hfr, z2, d3, j3, o3⟩ h
  refine E_seq (E_region (EL_p ((.func (.func 95) #[] #[p1])) (P_makeFunc (capf_0_1 (show ev _ _ = p1 from j3))) rfl ?_))
  refine EL_at ((.func (.func 95) #[] #[p1])) rfl rfl ?_
  refine EL_nil (thn_n (E_joinC h (fun (s : Unit) e w => ∃ (g : Gh) , Fr gI wI g w) (fun X16 u3 z3 h => ?_) ?_))
  ·refine E_block ?_
   refine E_seq (E_region (EL_mv z2 rfl ?_))
   refine EL_p (.int .i64 ((x1).length : Int)) (P_len Tryz.underlying41 rfl d3) rfl ?_
   refine EL_in (.bool ((decide (((x1).length : Int) > (100 : Int))))) rfl rfl rfl rfl ?_
   refine EL_at (.bool ((decide (((x1).length : Int) > (100 : Int))))) rfl rfl ?_
   refine EL_nil (thn_n ?_)
   rcases csome h with ⟨u0, h⟩ | ⟨u0, h⟩
   ·refine E_ct u0 rfl ?_
    refine E_seq (E_region (EL_at (.int .i64 (5)) rfl rfl ?_))
    refine EL_nil (thn_n (E_ret (blk_r ?_)))
    refine thn_r ?_
    obtain rfl := sinj h
    exact end1 rfl rfl (show _ = .int .i64 (5) from rfl) ⟨_, hfr, rfl⟩
   ·refine E_cf u0 rfl ?_
    refine E_seq (E_region (EL_mv z2 rfl ?_))
    refine EL_mw ((.func (.func 95) #[] #[p1])) rfl rfl ?_
    obtain ⟨i3, z4, h⟩ := bsome h
    refine EL_do .plain rfl (D_call (g := l5) (vs := [up1, (.func (.func 95) #[] #[p1])]) en97 (.cons rfl (.cons rfl .nil)) (wk97 d3 ⟨95, #[], #[p1], rfl, en95, fun g' w' hch a0 b0 r hu0 hr => by exact Fn.mono (wk95 hu0 (o3.ch hch) hr) fun _ _ _ h => RV_bool.2 h⟩ z4) fun q5 x5 v6 hs hr => ?_)
    have hfr := hfr.ext hs
    subst hr
    refine EL_at (.bool (i3)) rfl rfl ?_
    refine EL_nil (thn_n ?_)
    rcases csome h with ⟨j1, h⟩ | ⟨j1, h⟩
    ·refine E_ct j1 rfl ?_
     refine E_seq (E_region (EL_at (.int .i64 (2)) rfl rfl ?_))
     refine EL_nil (thn_n (E_ret (blk_r ?_)))
     refine thn_r ?_
     obtain rfl := sinj h
     exact end1 rfl rfl (show _ = .int .i64 (2) from rfl) ⟨_, hfr, rfl⟩
    ·refine E_cf j1 rfl ?_
     exact E_skip (blk_n (thn_n (z3 () _ _ ⟨q5, hfr⟩ h)))
  ·rintro _ i6 x6 ⟨y6, hfr⟩ h
   refine E_seq (E_region (EL_at (.int .i64 (0)) rfl rfl ?_))
   refine EL_nil (thn_n (E_ret ?_))
   obtain rfl := sinj h
   exact end1 rfl rfl (show _ = .int .i64 (0) from rfl) ⟨_, hfr, rfl⟩
def f78 (x0 : List Int) (x1 : Int) (x2 : Int → Int → Option Int) : Option ((List Int)) :=
 Option.bind (α := (List Int) × Int) (
  lp (σ := (List Int) × Int × Int) (fun k9 (j3, i3, u0) =>
   jn (σ := Unit) (fun _ =>
    (f111 j3 i3 u0 x2).bind fun l9 =>
    k9 (l9, u0, (w64 (u0 + (20 : Int))))
    ) fun yA =>
   bif (decide (u0 ≤ x1)) then
    yA ()
   else
    some (j3, i3)
   ) big (x0, (0 : Int), (20 : Int))
  ) fun (q5, o3) =>
 (f111 q5 o3 x1 x2).bind fun zA =>
 lp (σ := (List Int) × Int) (fun aB (u3, o0) =>
  jn (σ := Unit) (fun _ =>
   Option.bind (α := (List Int) × Int) (
    lp (σ := (List Int) × Int × Int) (fun bB (z3, d3, j1) =>
     jn (σ := Unit) (fun _ =>
      (f112 big z3 d3 ((w64 (d3 + o0))) j1 x2).bind fun n9 =>
      bB (n9, j1, (w64 (j1 + (w64 ((2 : Int) * o0)))))
      ) fun cB =>
     bif (decide (j1 ≤ x1)) then
      cB ()
     else
      some (z3, d3)
     ) big (u3, (0 : Int), (w64 ((2 : Int) * o0)))
    ) fun (z4, z2) =>
   Option.bind (α := (List Int)) (
    bif (decide ((w64 (z2 + o0)) < x1)) then
     (f112 big z4 z2 ((w64 (z2 + o0))) x1 x2).bind fun dB =>
     some (dB)
    else
     some (z4)
    ) fun i5 =>
   aB (i5, (w64 (o0 * (2 : Int))))
   ) fun eB =>
  bif (decide (o0 < x1)) then
   eB ()
  else
   some (u3)
  ) big (zA, (20 : Int))
theorem en78 : Enters Tryz.prog 78 := enters_of Tryz.func78 (by kernel_rfl) rfl
theorem wk78 {iI : Nat} {gI : Gh} {wI : World} {x0 : List Int} {x1 : Int} {x2 : Int → Int → Option Int} {up0 : Value} (mp0 : OM iI gI wI 3 x0 up0) {up2 : Value} (rp2 : FnV2 Tryz.prog x2 up2 gI wI) {r : (List Int)} (h : f78 x0 x1 x2 = some r) : FnM Tryz.prog 78 #[up0, .int .i64 (x1), up2] iI gI wI (fun g w v => v = .tuple #[] ∧ OM iI g w 3 r up0) := by
 unfold f78 at h
 refine fnM_of_E Tryz.func78 rfl (Nat.le_of_ble_eq_true rfl) fun g0 hm hfr => ?_
 have o9 := mp0
 replace mp0 := mp0.enter
 rw [← hm] at mp0
 replace hm : g0.m = gI.m := by rw [hm]
 obtain ⟨ff2, fa2, fc2, rfl, fen2, fcl2⟩ := rp2
 show E _ 63 none _ _ _ _ _
 refine E_seq (E_region (EL_at (.int .i64 (20)) rfl rfl ?_))
 refine EL_nil (thn_n (E_seq (E_region (EL_mw (.int .i64 (20)) rfl rfl ?_))))
 refine EL_at (.int .i64 (0)) rfl rfl ?_
 refine EL_at (.int .i64 (20)) rfl rfl ?_
 refine EL_nil (thn_n ?_)
 obtain ⟨⟨q5, o3⟩, hx, h⟩ := bsome h
 refine E_join (fun e w => ∃ (g : Gh) , FrM iI gI wI g w ∧ e 0 = up0 ∧ OM 1 g w 3 (q5 : List Int) up0 ∧ e 1 = .int .i64 (x1) ∧ e 2 = (.func (.func ff2) fa2 fc2) ∧ e 6 = .int .i64 ((20 : Int)) ∧ e 7 = .int .i64 (o3)) (fun Q' hQ => ?_) (fun tC lD hR => ?_)
 ·replace h := hx
  clear hx
  refine E_block ?_
  refine E_lp h (fun (s : (List Int) × Int × Int) e w => ∃ (g : Gh) , FrM iI gI wI g w ∧ e 0 = up0 ∧ OM 1 g w 3 (s.1 : List Int) up0 ∧ e 1 = .int .i64 (x1) ∧ e 2 = (.func (.func ff2) fa2 fc2) ∧ e 6 = .int .i64 ((20 : Int)) ∧ e 7 = .int .i64 (s.2.1) ∧ e 8 = .int .i64 (s.2.2)) ⟨g0, hfr, rfl, mp0, rfl, rfl, rfl, rfl, rfl⟩ (fun X9 k9 aC => ?_)
  rintro ⟨j3, i3, u0⟩ uC mD ⟨iB, hfr, g7, i7, t5, j7, m7, n7, o7⟩ h
  refine E_joinC h (fun (s : Unit) e w => ∃ (g : Gh) , FrM iI gI wI g w ∧ e 0 = up0 ∧ OM 1 g w 3 (j3 : List Int) up0 ∧ e 1 = .int .i64 (x1) ∧ e 2 = (.func (.func ff2) fa2 fc2) ∧ e 6 = .int .i64 ((20 : Int)) ∧ e 7 = .int .i64 (i3) ∧ e 8 = .int .i64 (u0)) (fun X12 yA lB h => ?_) ?_
  ·refine E_seq (E_region (EL_mv o7 rfl ?_))
   refine EL_mv t5 rfl ?_
   refine EL_in (.bool ((decide (u0 ≤ x1)))) rfl rfl rfl rfl ?_
   refine EL_nil (thn_n ?_)
   rcases csome h with ⟨b7, h⟩ | ⟨b7, h⟩
   ·refine E_ct b7 rfl ?_
    exact E_skip (thn_n (lB () _ _ ⟨iB, hfr, g7, i7, t5, j7, m7, n7, o7⟩ h))
   ·refine E_cf b7 rfl ?_
    refine E_exit ?_
    refine thn_e ?_
    refine thn_e ?_
    refine blk_hit ?_
    obtain ⟨rfl, rfl⟩ := pairs2 h
    exact hQ _ _ ⟨iB, hfr, g7, i7, t5, j7, m7, n7⟩
  ·rintro _ vC nD ⟨cC, hfr, u7, t9, u9, v7, c8, y9, x5⟩ h
   refine E_block ?_
   refine E_seq (E_region (EL_mv u7 rfl ?_))
   refine EL_mv y9 rfl ?_
   refine EL_mv x5 rfl ?_
   refine EL_mv v7 rfl ?_
   obtain ⟨l9, mB, h⟩ := bsome h
   refine EL_do .plain rfl (D_callM (g := cC) (i := 1) (vs := [up0, .int .i64 (i3), .int .i64 (u0), (.func (.func ff2) fa2 fc2)]) en111 (.cons rfl (.cons rfl (.cons rfl (.cons rfl .nil)))) (wk111 t9 (FnV2.ch ⟨_, _, _, rfl, fen2, fcl2⟩ hfr.ch) mB) fun dC xC oD hs hr => ?_)
   obtain ⟨hrv, b15⟩ := hr
   have hfr := hfr.stp hs
   subst hrv
   refine EL_nil (thn_n (E_seq (E_region (EL_mv x5 rfl ?_))))
   refine EL_at (.int .i64 (u0)) rfl rfl ?_
   refine EL_nil (thn_n (E_region (EL_mv x5 rfl ?_)))
   refine EL_mv c8 rfl ?_
   refine EL_in (.int .i64 ((w64 (u0 + (20 : Int))))) rfl rfl rfl rfl ?_
   refine EL_at (.int .i64 ((w64 (u0 + (20 : Int))))) rfl rfl ?_
   exact EL_nil (blk_n (thn_n (aC (l9, u0, (w64 (u0 + (20 : Int)))) _ _ ⟨dC, hfr, u7, b15, u9, v7, c8, rfl, rfl⟩ h)))
 ·clear hx
  obtain ⟨eC, hfr, e8, z9, g8, i8, bA, gA⟩ := hR
  refine E_seq (E_region (EL_mv e8 rfl ?_))
  refine EL_mv gA rfl ?_
  refine EL_mv g8 rfl ?_
  refine EL_mv i8 rfl ?_
  obtain ⟨zA, nB, h⟩ := bsome h
  refine EL_do .plain rfl (D_callM (g := eC) (i := 1) (vs := [up0, .int .i64 (o3), .int .i64 (x1), (.func (.func ff2) fa2 fc2)]) en111 (.cons rfl (.cons rfl (.cons rfl (.cons rfl .nil)))) (wk111 z9 (FnV2.ch ⟨_, _, _, rfl, fen2, fcl2⟩ hfr.ch) nB) fun iC yC sD hs hr => ?_)
  obtain ⟨hrv, b18⟩ := hr
  have hfr := hfr.stp hs
  subst hrv
  refine EL_nil (thn_n (E_block ?_))
  refine E_lp h (fun (s : (List Int) × Int) e w => ∃ (g : Gh) , FrM iI gI wI g w ∧ e 0 = up0 ∧ OM 1 g w 3 (s.1 : List Int) up0 ∧ e 1 = .int .i64 (x1) ∧ e 2 = (.func (.func ff2) fa2 fc2) ∧ e 6 = .int .i64 (s.2)) ⟨iC, hfr, e8, b18, g8, i8, bA⟩ (fun X20 aB oB => ?_)
  rintro ⟨u3, o0⟩ aD tD ⟨jC, hfr, iA, k8, l8, jA, m8⟩ h
  refine E_joinC h (fun (s : Unit) e w => ∃ (g : Gh) , FrM iI gI wI g w ∧ e 0 = up0 ∧ OM 1 g w 3 (u3 : List Int) up0 ∧ e 1 = .int .i64 (x1) ∧ e 2 = (.func (.func ff2) fa2 fc2) ∧ e 6 = .int .i64 (o0)) (fun X23 eB tB h => ?_) ?_
  ·refine E_seq (E_region (EL_mv m8 rfl ?_))
   refine EL_mv l8 rfl ?_
   refine EL_in (.bool ((decide (o0 < x1)))) rfl rfl rfl rfl ?_
   refine EL_nil (thn_n ?_)
   rcases csome h with ⟨c7, h⟩ | ⟨c7, h⟩
   ·refine E_ct c7 rfl ?_
    exact E_skip (thn_n (tB () _ _ ⟨jC, hfr, iA, k8, l8, jA, m8⟩ h))
   ·refine E_cf c7 rfl ?_
    refine E_exit ?_
    refine thn_e ?_
    refine thn_e ?_
    refine blk_hit ?_
    obtain rfl := sinj h
    exact end0n rfl rfl ⟨_, hfr, rfl, o9.back k8⟩
  ·rintro _ bD uD ⟨kC, hfr, kA, lA, mA, nA, n8⟩ h
   refine E_block ?_
   refine E_seq (E_region (EL_mv n8 rfl ?_))
   refine EL_in (.int .i64 ((w64 ((2 : Int) * o0)))) rfl rfl rfl rfl ?_
   refine EL_at (.int .i64 (0)) rfl rfl ?_
   refine EL_at (.int .i64 ((w64 ((2 : Int) * o0)))) rfl rfl ?_
   refine EL_nil (thn_n ?_)
   obtain ⟨⟨z4, z2⟩, hx, h⟩ := bsome h
   refine E_join (fun e w => ∃ (g : Gh) , FrM iI gI wI g w ∧ e 0 = up0 ∧ OM 1 g w 3 (z4 : List Int) up0 ∧ e 1 = .int .i64 (x1) ∧ e 2 = (.func (.func ff2) fa2 fc2) ∧ e 6 = .int .i64 (o0) ∧ e 7 = .int .i64 (z2)) (fun Q' hQ => ?_) (fun cD vD hR => ?_)
   ·replace h := hx
    clear hx
    refine E_block ?_
    refine E_lp h (fun (s : (List Int) × Int × Int) e w => ∃ (g : Gh) , FrM iI gI wI g w ∧ e 0 = up0 ∧ OM 1 g w 3 (s.1 : List Int) up0 ∧ e 1 = .int .i64 (x1) ∧ e 2 = (.func (.func ff2) fa2 fc2) ∧ e 6 = .int .i64 (o0) ∧ e 7 = .int .i64 (s.2.1) ∧ e 8 = .int .i64 (s.2.2)) ⟨kC, hfr, kA, lA, mA, nA, n8, rfl, rfl⟩ (fun X34 bB vB => ?_)
    rintro ⟨z3, d3, j1⟩ eD xD ⟨jB, hfr, o8, q8, i6, r8, t8, v8, x8⟩ h
    refine E_joinC h (fun (s : Unit) e w => ∃ (g : Gh) , FrM iI gI wI g w ∧ e 0 = up0 ∧ OM 1 g w 3 (z3 : List Int) up0 ∧ e 1 = .int .i64 (x1) ∧ e 2 = (.func (.func ff2) fa2 fc2) ∧ e 6 = .int .i64 (o0) ∧ e 7 = .int .i64 (d3) ∧ e 8 = .int .i64 (j1)) (fun X37 cB xB h => ?_) ?_
    ·refine E_seq (E_region (EL_mv x8 rfl ?_))
     refine EL_mv i6 rfl ?_
     refine EL_in (.bool ((decide (j1 ≤ x1)))) rfl rfl rfl rfl ?_
     refine EL_nil (thn_n ?_)
     rcases csome h with ⟨d7, h⟩ | ⟨d7, h⟩
     ·refine E_ct d7 rfl ?_
      exact E_skip (thn_n (xB () _ _ ⟨jB, hfr, o8, q8, i6, r8, t8, v8, x8⟩ h))
     ·refine E_cf d7 rfl ?_
      refine E_exit ?_
      refine thn_e ?_
      refine thn_e ?_
      refine blk_hit ?_
      obtain ⟨rfl, rfl⟩ := pairs2 h
      exact hQ _ _ ⟨jB, hfr, o8, q8, i6, r8, t8, v8⟩
    ·rintro _ gD yD ⟨lC, hfr, y8, oA, pA, a9, j6, d9, v6⟩ h
     refine E_block ?_
     refine E_seq (E_region (EL_mv y8 rfl ?_))
     refine EL_mv d9 rfl ?_
     refine EL_mv d9 rfl ?_
     refine EL_mv j6 rfl ?_
     refine EL_in (.int .i64 ((w64 (d3 + o0)))) rfl rfl rfl rfl ?_
     refine EL_mv v6 rfl ?_
     refine EL_mv a9 rfl ?_
     obtain ⟨n9, yB, h⟩ := bsome h
     refine EL_do .plain rfl (D_callM (g := lC) (i := 1) (vs := [up0, .int .i64 (d3), .int .i64 ((w64 (d3 + o0))), .int .i64 (j1), (.func (.func ff2) fa2 fc2)]) en112 (.cons rfl (.cons rfl (.cons rfl (.cons rfl (.cons rfl .nil))))) (wk112 big oA (FnV2.ch ⟨_, _, _, rfl, fen2, fcl2⟩ hfr.ch) yB) fun mC iD zD hs hr => ?_)
     obtain ⟨hrv, b40⟩ := hr
     have hfr := hfr.stp hs
     subst hrv
     refine EL_nil (thn_n (E_seq (E_region (EL_mv v6 rfl ?_))))
     refine EL_at (.int .i64 (j1)) rfl rfl ?_
     refine EL_nil (thn_n (E_region (EL_mv v6 rfl ?_)))
     refine EL_mv j6 rfl ?_
     refine EL_in (.int .i64 ((w64 ((2 : Int) * o0)))) rfl rfl rfl rfl ?_
     refine EL_p (.int .i64 ((w64 (j1 + (w64 ((2 : Int) * o0)))))) (P_int rfl rfl rfl) rfl ?_
     refine EL_p (.int .i64 ((w64 (j1 + (w64 ((2 : Int) * o0)))))) (P_assign rfl) rfl ?_
     exact EL_nil (blk_n (thn_n (vB (n9, j1, (w64 (j1 + (w64 ((2 : Int) * o0))))) _ _ ⟨mC, hfr, y8, b40, pA, a9, j6, rfl, rfl⟩ h)))
   ·clear hx
    obtain ⟨kB, hfr, x6, e9, l5, y6, a7, i9⟩ := hR
    obtain ⟨i5, hx, h⟩ := bsome h
    refine E_join (fun e w => ∃ (g : Gh) , FrM iI gI wI g w ∧ e 0 = up0 ∧ OM 1 g w 3 (i5 : List Int) up0 ∧ e 1 = .int .i64 (x1) ∧ e 2 = (.func (.func ff2) fa2 fc2) ∧ e 6 = .int .i64 (o0)) (fun Q' hQ => ?_) (fun jD aE hR => ?_)
    ·replace h := hx
     clear hx
     refine E_seq (E_region (EL_mv i9 rfl ?_))
     refine EL_mv a7 rfl ?_
     refine EL_in (.int .i64 ((w64 (z2 + o0)))) rfl rfl rfl rfl ?_
     refine EL_at (.int .i64 ((w64 (z2 + o0)))) rfl rfl ?_
     refine EL_nil (thn_n (E_seq (E_region (EL_mw (.int .i64 ((w64 (z2 + o0)))) rfl rfl ?_))))
     refine EL_mv l5 rfl ?_
     refine EL_in (.bool ((decide ((w64 (z2 + o0)) < x1)))) rfl rfl rfl rfl ?_
     refine EL_nil (thn_n ?_)
     rcases csome h with ⟨e7, h⟩ | ⟨e7, h⟩
     ·refine E_ct e7 rfl ?_
      refine E_region (EL_mv x6 rfl ?_)
      refine EL_mv i9 rfl ?_
      refine EL_mw (.int .i64 ((w64 (z2 + o0)))) rfl rfl ?_
      refine EL_mv l5 rfl ?_
      refine EL_mv y6 rfl ?_
      obtain ⟨dB, zB, h⟩ := bsome h
      refine EL_do .plain rfl (D_callM (g := kB) (i := 1) (vs := [up0, .int .i64 (z2), .int .i64 ((w64 (z2 + o0))), .int .i64 (x1), (.func (.func ff2) fa2 fc2)]) en112 (.cons rfl (.cons rfl (.cons rfl (.cons rfl (.cons rfl .nil))))) (wk112 big e9 (FnV2.ch ⟨_, _, _, rfl, fen2, fcl2⟩ hfr.ch) zB) fun qC kD bE hs hr => ?_)
      obtain ⟨hrv, b47⟩ := hr
      have hfr := hfr.stp hs
      subst hrv
      refine EL_nil ?_
      obtain rfl := sinj h
      exact hQ _ _ ⟨qC, hfr, x6, b47, l5, y6, a7⟩
     ·refine E_cf e7 rfl ?_
      refine E_skip ?_
      obtain rfl := sinj h
      exact hQ _ _ ⟨kB, hfr, x6, e9, l5, y6, a7⟩
    ·clear hx
     obtain ⟨rC, hfr, qA, rA, sA, uA, xA⟩ := hR
     refine E_region (EL_mv xA rfl ?_)
     refine EL_in (.int .i64 ((w64 (o0 * (2 : Int))))) rfl rfl rfl rfl ?_
     refine EL_at (.int .i64 ((w64 (o0 * (2 : Int))))) rfl rfl ?_
     exact EL_nil (blk_n (thn_n (oB (i5, (w64 (o0 * (2 : Int)))) _ _ ⟨rC, hfr, qA, rA, sA, uA, rfl⟩ h)))
def f98 (x0 : PayTable) : Option (PaySheet × Int) :=
 jn (σ := PaySheet) (fun n7 =>
  some ((⟨x0⟩ : PaySheet), (0 : Int))
  ) fun x8 =>
 (f127 ((⟨x0⟩ : PaySheet))).bind fun o7 =>
 bif o7 then
  some ((⟨x0⟩ : PaySheet), (5 : Int))
 else
  (f128 ((⟨x0⟩ : PaySheet))).bind fun i7 =>
  bif (!i7) then
   some ((⟨x0⟩ : PaySheet), (4 : Int))
  else
   Option.bind (α := Bool) (
    (f130 ((x0).Rows)).bind fun u7 =>
    (f129 u7).bind fun u3 =>
    bif (!u3) then
     some ((!u3))
    else
     (f63 ((x0).Across)).bind fun z3 =>
     bif (!z3) then
      some ((!z3))
     else
      (f63 ((x0).Down)).bind fun z4 =>
      bif (!z4) then
       some ((!z4))
      else
       (f63 (([(x0).Total] : List Int))).bind fun q5 =>
       some ((!q5))
    ) fun z2 =>
   bif z2 then
    some ((⟨x0⟩ : PaySheet), (2 : Int))
   else
    (f99 ((⟨x0⟩ : PaySheet))).bind fun i5 =>
    bif (decide (((i5).length : Int) > (12 : Int))) then
     some ((⟨x0⟩ : PaySheet), (8 : Int))
    else
     x8 ((⟨⟨[], [], [], 0⟩⟩ : PaySheet))
theorem en98 : Enters Tryz.prog 98 := enters_of Tryz.func98 (by kernel_rfl) rfl
theorem wk98 {gI : Gh} {wI : World} {x0 : PayTable} {up0 : Value} (rp0 : RV gI.m wI x0 up0) {r : PaySheet × Int} (h : f98 x0 = some r) : Fn Tryz.prog 98 #[up0] gI wI (fun m w v => ∃ y0 y1, v = .tuple #[y0, y1] ∧ RV m w (r.1) y0 ∧ y1 = .int .i64 (r.2)) := by
 unfold f98 at h
 refine fn_of_E Tryz.func98 rfl (Nat.le_of_ble_eq_true rfl) fun g0 hm hfr => ?_
 have rp0 : RV g0.m wI x0 up0 := hm ▸ rp0
 show E _ 47 none _ _ _ _ _
 refine E_seq (E_region (EL_do .plain rfl (D_box (g := g0) rfl rp0 fun g1 w1 p1 hs q1 => ?_)))
 have hfr := hfr.ext hs
 refine EL_do .plain rfl (D_allocOc (g := g1) 2002 (⟨⟨[], [], [], 0⟩⟩ : PaySheet) Tryz.zeroValue147 (fun m w => ⟨_, (rep_two rep_nil (rep_two rep_nil (rep_two rep_nil rep_int))), rfl⟩) fun g2 w2 p2 hs b2 cb => ?_)
 have hfr := hfr.stp hs
 have q1 := q1.stp hs
 have o0 : OSF 2002 60200 0 g2 w2 25 147 ([] : List (List Int)) p2 := cb.osf (by rfl)
 have u0 : OSF 2002 60201 1 g2 w2 3 147 ([] : List Int) p2 := cb.osf (by rfl)
 have j1 : OSF 2002 60202 2 g2 w2 3 147 ([] : List Int) p2 := cb.osf (by rfl)
 clear cb
 refine EL_at (.int .i64 (0)) rfl rfl ?_
 refine EL_nil (thn_n (E_seq (E_region (EL_do .plain rfl (D_load (g := g2) Tryz.isAgg112 Tryz.sizeOf112 rfl q1 fun v3 r3 => ?_)))))
 have r4 : RV g2.m _ (⟨x0⟩ : PaySheet) (.agg (setCh [[.slice none 0 0, .slice none 0 0, .slice none 0 0, .int .i64 0]] [(0, v3)]).flatten.toArray) := RV_build rfl (rep_last (RV.cells r3))
 generalize xA : (Value.agg (setCh [[.slice none 0 0, .slice none 0 0, .slice none 0 0, .int .i64 0]] [(0, v3)]).flatten.toArray) = v4 at r4
 refine EL_p v4 (xA ▸ P_build (vs := [(0, v3)]) [[.slice none 0 0, .slice none 0 0, .slice none 0 0, .int .i64 0]] lay_147 rfl rfl (.cons rfl .nil) ⟨⟨_, rfl, cells_size r3⟩, trivial⟩) rfl ?_
 refine EL_do .plain rfl (D_allocOc (g := g2) 2004 (⟨⟨[], [], [], 0⟩⟩ : PaySheet) Tryz.zeroValue147 (fun m w => ⟨_, (rep_two rep_nil (rep_two rep_nil (rep_two rep_nil rep_int))), rfl⟩) fun g5 w5 p5 hs b5 cb => ?_)
 have hfr := hfr.stp hs
 have o0 := o0.stp hs rfl
 have u0 := u0.stp hs rfl
 have j1 := j1.stp hs rfl
 have b2 := b2.stp hs rfl
 have r4 := r4.stp hs
 have xB : OSF 2004 60400 0 g5 w5 25 147 ([] : List (List Int)) p5 := cb.osf (by rfl)
 have yB : OSF 2004 60401 1 g5 w5 3 147 ([] : List Int) p5 := cb.osf (by rfl)
 have zB : OSF 2004 60402 2 g5 w5 3 147 ([] : List Int) p5 := cb.osf (by rfl)
 clear cb
 refine EL_do .plain rfl (D_storeOc (g := g5) (v := v4) Tryz.sizeOf147 rfl b5 rfl r4 fun g6 w6 hs b6 cb => ?_)
 clear cb
 have hfr := hfr.stp hs
 have o0 := o0.stp hs rfl
 have u0 := u0.stp hs rfl
 have j1 := j1.stp hs rfl
 have b2 := b2.stp hs rfl
 refine EL_nil (thn_n (E_joinC h (fun (s : PaySheet) e w => ∃ (g : Gh) , Fr gI wI g w ∧ e 2 = p2 ∧ OB 2002 g w 147 (s : PaySheet) p2 ∧ OSF 2002 60200 0 g w 25 147 (((s).PayTable).Rows) p2 ∧ OSF 2002 60201 1 g w 3 147 (((s).PayTable).Across) p2 ∧ OSF 2002 60202 2 g w 3 147 (((s).PayTable).Down) p2 ∧ e 4 = p5 ∧ OB 2004 g w 147 ((⟨x0⟩ : PaySheet) : PaySheet) p5) (fun X86 x8 y8 h => ?_) ?_))
 ·refine E_block ?_
  refine E_seq (E_region (EL_do .plain rfl (D_loadO (g := g6) Tryz.isAgg147 Tryz.sizeOf147 rfl b6 fun yA zA => ?_)))
  obtain ⟨o7, a9, h⟩ := bsome h
  refine EL_do .plain rfl (D_call (g := g6) (vs := [yA]) en127 (.cons rfl .nil) (wk127 zA a9) fun j7 aC bD hs hr => ?_)
  have hfr := hfr.ext hs
  have o0 := o0.ext hs
  have u0 := u0.ext hs
  have j1 := j1.ext hs
  have b2 := b2.ext hs
  have b6 := b6.ext hs
  subst hr
  refine EL_at (.bool (o7)) rfl rfl ?_
  refine EL_nil (thn_n ?_)
  rcases csome h with ⟨a7, h⟩ | ⟨a7, h⟩
  ·refine E_ct a7 rfl ?_
   refine E_seq (E_region (EL_do .plain rfl (D_loadO (g := j7) Tryz.isAgg147 Tryz.sizeOf147 rfl b6 fun aB bB => ?_)))
   refine EL_do .plain rfl (D_storeOc (g := j7) (v := aB) Tryz.sizeOf147 rfl b2 rfl bB fun cD eD hs b92 cb => ?_)
   clear cb
   have hfr := hfr.stp hs
   refine EL_at (.int .i64 (5)) rfl rfl ?_
   refine EL_nil (thn_n (E_ret (blk_r ?_)))
   refine thn_r ?_
   obtain rfl := sinj h
   obtain ⟨ad93, cv93, hp93, d9, cr93⟩ := ob_read Tryz.isAgg147 Tryz.sizeOf147 b92
   exact endm_ct rfl rfl ((show _ = p2 from rfl).trans hp93) d9 (show _ = .int .i64 (5) from rfl) ⟨_, hfr, _, _, rfl, cr93, rfl⟩
  ·refine E_cf a7 rfl ?_
   refine E_seq (E_region (EL_do .plain rfl (D_loadO (g := j7) Tryz.isAgg147 Tryz.sizeOf147 rfl b6 fun cB dB => ?_)))
   obtain ⟨i7, e9, h⟩ := bsome h
   refine EL_do .plain rfl (D_call (g := j7) (vs := [cB]) en128 (.cons rfl .nil) (wk128 dB e9) fun m7 cC gD hs hr => ?_)
   have hfr := hfr.ext hs
   have o0 := o0.ext hs
   have u0 := u0.ext hs
   have j1 := j1.ext hs
   have b2 := b2.ext hs
   have b6 := b6.ext hs
   subst hr
   refine EL_p (.bool (!i7)) (P_not rfl) rfl ?_
   refine EL_at (.bool (!i7)) rfl rfl ?_
   refine EL_nil (thn_n ?_)
   rcases csome h with ⟨b7, h⟩ | ⟨b7, h⟩
   ·refine E_ct b7 rfl ?_
    refine E_seq (E_region (EL_do .plain rfl (D_loadO (g := m7) Tryz.isAgg147 Tryz.sizeOf147 rfl b6 fun eB iB => ?_)))
    refine EL_do .plain rfl (D_storeOc (g := m7) (v := eB) Tryz.sizeOf147 rfl b2 rfl iB fun iD jD hs b99 cb => ?_)
    clear cb
    have hfr := hfr.stp hs
    refine EL_at (.int .i64 (4)) rfl rfl ?_
    refine EL_nil (thn_n (E_ret (blk_r ?_)))
    refine thn_r ?_
    obtain rfl := sinj h
    obtain ⟨ad100, cv100, hp100, i8, cr100⟩ := ob_read Tryz.isAgg147 Tryz.sizeOf147 b99
    exact endm_ct rfl rfl ((show _ = p2 from rfl).trans hp100) i8 (show _ = .int .i64 (4) from rfl) ⟨_, hfr, _, _, rfl, cr100, rfl⟩
   ·refine E_cf b7 rfl ?_
    obtain ⟨z2, hx, h⟩ := bsome h
    refine E_join (fun e w => ∃ (g : Gh) , Fr gI wI g w ∧ e 2 = p2 ∧ OB 2002 g w 147 ((⟨⟨[], [], [], 0⟩⟩ : PaySheet) : PaySheet) p2 ∧ OSF 2002 60200 0 g w 25 147 ((((⟨⟨[], [], [], 0⟩⟩ : PaySheet)).PayTable).Rows) p2 ∧ OSF 2002 60201 1 g w 3 147 ((((⟨⟨[], [], [], 0⟩⟩ : PaySheet)).PayTable).Across) p2 ∧ OSF 2002 60202 2 g w 3 147 ((((⟨⟨[], [], [], 0⟩⟩ : PaySheet)).PayTable).Down) p2 ∧ e 4 = p5 ∧ OB 2004 g w 147 ((⟨x0⟩ : PaySheet) : PaySheet) p5 ∧ e 16 = .bool (z2)) (fun Q' hQ => ?_) (fun jB dC hR => ?_)
    ·replace h := hx
     clear hx
     refine E_seq (E_region (EL_p (fPtr p5 0) (P_fieldAddr at_147_0 rfl (OB.ptr b6)) rfl ?_))
     refine EL_p (fPtr p5 0) (P_fieldAddr2 (o1 := 0) rfl at_112_0 rfl (OB.ptr b6)) rfl ?_
     refine EL_do .plain rfl (D_loadF (g := m7) (SubS.comp part_PaySheet_0 part_PayTable_0 rfl).1 Tryz.isAgg110 Tryz.sizeOf110 rfl b6 fun i9 k9 => ?_)
     obtain ⟨u7, k8, h⟩ := bsome h
     refine EL_do .plain rfl (D_call (g := m7) (vs := [i9]) en130 (.cons rfl .nil) (wk130 k9 k8) fun l9 kB n9 hs hr => ?_)
     have hfr := hfr.ext hs
     have o0 := o0.ext hs
     have u0 := u0.ext hs
     have j1 := j1.ext hs
     have b2 := b2.ext hs
     have b6 := b6.ext hs
     have o9 := hr
     obtain ⟨u3, l8, h⟩ := bsome h
     refine EL_do .plain rfl (D_call (g := l9) (vs := [n9]) en129 (.cons rfl .nil) (wk129 o9 l8) fun c7 lB eC hs hr => ?_)
     have hfr := hfr.ext hs
     have o0 := o0.ext hs
     have u0 := u0.ext hs
     have j1 := j1.ext hs
     have b2 := b2.ext hs
     have b6 := b6.ext hs
     subst hr
     refine EL_p (.bool (!u3)) (P_not rfl) rfl ?_
     refine EL_at (.bool (!u3)) rfl rfl ?_
     refine EL_nil (thn_n ?_)
     rcases csome h with ⟨t5, h⟩ | ⟨t5, h⟩
     ·refine E_ct t5 rfl ?_
      refine E_skip ?_
      obtain rfl := sinj h
      exact hQ _ _ ⟨c7, hfr, rfl, b2, o0, u0, j1, rfl, b6, rfl⟩
     ·refine E_cf t5 rfl ?_
      refine E_seq (E_region (EL_p (fPtr p5 0) (P_fieldAddr at_147_0 rfl (OB.ptr b6)) rfl ?_))
      refine EL_p (fPtr p5 1) (P_fieldAddr2 (o1 := 0) rfl at_112_1 rfl (OB.ptr b6)) rfl ?_
      refine EL_do .plain rfl (D_loadF (g := c7) (SubS.comp part_PaySheet_0 part_PayTable_1 rfl).1 Tryz.isAgg25 Tryz.sizeOf25 rfl b6 fun t9 u9 => ?_)
      obtain ⟨z3, m8, h⟩ := bsome h
      refine EL_do .plain rfl (D_call (g := c7) (vs := [t9]) en63 (.cons rfl .nil) (wk63 u9 m8) fun d7 mB iC hs hr => ?_)
      have hfr := hfr.ext hs
      have o0 := o0.ext hs
      have u0 := u0.ext hs
      have j1 := j1.ext hs
      have b2 := b2.ext hs
      have b6 := b6.ext hs
      subst hr
      refine EL_p (.bool (!z3)) (P_not rfl) rfl ?_
      refine EL_at (.bool (!z3)) rfl rfl ?_
      refine EL_nil (thn_n ?_)
      rcases csome h with ⟨x5, h⟩ | ⟨x5, h⟩
      ·refine E_ct x5 rfl ?_
       refine E_skip ?_
       obtain rfl := sinj h
       exact hQ _ _ ⟨d7, hfr, rfl, b2, o0, u0, j1, rfl, b6, rfl⟩
      ·refine E_cf x5 rfl ?_
       refine E_seq (E_region (EL_p (fPtr p5 0) (P_fieldAddr at_147_0 rfl (OB.ptr b6)) rfl ?_))
       refine EL_p (fPtr p5 2) (P_fieldAddr2 (o1 := 0) rfl at_112_2 rfl (OB.ptr b6)) rfl ?_
       refine EL_do .plain rfl (D_loadF (g := d7) (SubS.comp part_PaySheet_0 part_PayTable_2 rfl).1 Tryz.isAgg25 Tryz.sizeOf25 rfl b6 fun y9 z9 => ?_)
       obtain ⟨z4, n8, h⟩ := bsome h
       refine EL_do .plain rfl (D_call (g := d7) (vs := [y9]) en63 (.cons rfl .nil) (wk63 z9 n8) fun e7 nB jC hs hr => ?_)
       have hfr := hfr.ext hs
       have o0 := o0.ext hs
       have u0 := u0.ext hs
       have j1 := j1.ext hs
       have b2 := b2.ext hs
       have b6 := b6.ext hs
       subst hr
       refine EL_p (.bool (!z4)) (P_not rfl) rfl ?_
       refine EL_at (.bool (!z4)) rfl rfl ?_
       refine EL_nil (thn_n ?_)
       rcases csome h with ⟨i6, h⟩ | ⟨i6, h⟩
       ·refine E_ct i6 rfl ?_
        refine E_skip ?_
        obtain rfl := sinj h
        exact hQ _ _ ⟨e7, hfr, rfl, b2, o0, u0, j1, rfl, b6, rfl⟩
       ·refine E_cf i6 rfl ?_
        refine E_region (EL_p (fPtr p5 0) (P_fieldAddr at_147_0 rfl (OB.ptr b6)) rfl ?_)
        refine EL_p (fPtr p5 3) (P_fieldAddr2 (o1 := 0) rfl at_112_3 rfl (OB.ptr b6)) rfl ?_
        refine EL_do .plain rfl (D_loadF (g := e7) (SubS.comp part_PaySheet_0 part_PayTable_3 rfl).1 Tryz.isAgg3 Tryz.sizeOf3 rfl b6 fun kC bA => ?_)
        obtain rfl := RV_int.1 bA
        refine EL_do .plain rfl (D_buildSlice (g := e7) 3036 (xs := ([(x0).Total] : List Int)) (vs := [.int .i64 ((x0).Total)]) Tryz.underlying25 Tryz.sizeOf3 Tryz.zeroValue3 rfl rfl (.cons rfl .nil) (RVs.cons (RV_int.2 rfl) RVs.nil) rfl rfl fun gA lC iA hs o150 jA hxt hfl => ?_)
        have hfr := hfr.stp hs
        have o0 := o0.stp hs rfl
        have u0 := u0.stp hs rfl
        have j1 := j1.stp hs rfl
        have b2 := b2.stp hs rfl
        have b6 := b6.stp hs rfl
        obtain ⟨q5, o8, h⟩ := bsome h
        refine EL_do .plain rfl (D_call (g := gA) (vs := [iA]) en63 (.cons rfl .nil) (wk63 jA o8) fun kA oB mC hs hr => ?_)
        have hfr := hfr.ext hs
        have o0 := o0.ext hs
        have u0 := u0.ext hs
        have j1 := j1.ext hs
        have b2 := b2.ext hs
        have b6 := b6.ext hs
        subst hr
        refine EL_p (.bool (!q5)) (P_not rfl) rfl ?_
        refine EL_at (.bool (!q5)) rfl rfl ?_
        refine EL_nil ?_
        obtain rfl := sinj h
        exact hQ _ _ ⟨kA, hfr, rfl, b2, o0, u0, j1, rfl, b6, rfl⟩
    ·clear hx
     obtain ⟨j6, hfr, i3, j3, u2_0_153, u2_1_153, u2_2_153, o3, d3, l5⟩ := hR
     rcases csome h with ⟨v6, h⟩ | ⟨v6, h⟩
     ·refine E_cond_true (Eq.trans (show ev _ _ = .bool (z2) from l5) (congrArg Value.bool v6)) ?_
      refine E_seq (E_region (EL_do .plain rfl (D_loadO (g := j6) Tryz.isAgg147 Tryz.sizeOf147 o3 d3 fun lA mA => ?_)))
      refine EL_do .plain rfl (D_storeOc (g := j6) (v := lA) Tryz.sizeOf147 i3 j3 rfl mA fun qC rC hs b156 cb => ?_)
      clear cb
      have hfr := hfr.stp hs
      refine EL_at (.int .i64 (2)) rfl rfl ?_
      refine EL_nil (thn_n (E_ret (blk_r ?_)))
      refine thn_r ?_
      obtain rfl := sinj h
      obtain ⟨ad157, cv157, hp157, q8, cr157⟩ := ob_read Tryz.isAgg147 Tryz.sizeOf147 b156
      exact endm_ct rfl rfl ((show _ = p2 from i3).trans hp157) q8 (show _ = .int .i64 (2) from rfl) ⟨_, hfr, _, _, rfl, cr157, rfl⟩
     ·refine E_cond_false (Eq.trans (show ev _ _ = .bool (z2) from l5) (congrArg Value.bool v6)) ?_
      refine E_seq (E_region (EL_do .plain rfl (D_loadO (g := j6) Tryz.isAgg147 Tryz.sizeOf147 o3 d3 fun nA oA => ?_)))
      obtain ⟨i5, r8, h⟩ := bsome h
      refine EL_do .plain rfl (D_call (g := j6) (vs := [nA]) en99 (.cons rfl .nil) (wk99 oA r8) fun g7 tB tC hs hr => ?_)
      have hfr := hfr.ext hs
      have u2_0_153 := u2_0_153.ext hs
      have u2_1_153 := u2_1_153.ext hs
      have u2_2_153 := u2_2_153.ext hs
      have j3 := j3.ext hs
      have d3 := d3.ext hs
      have pA := hr
      refine EL_p (.int .i64 ((i5).length : Int)) (P_len Tryz.underlying184 rfl pA) rfl ?_
      refine EL_in (.bool ((decide (((i5).length : Int) > (12 : Int))))) rfl rfl rfl rfl ?_
      refine EL_at (.bool ((decide (((i5).length : Int) > (12 : Int))))) rfl rfl ?_
      refine EL_nil (thn_n ?_)
      rcases csome h with ⟨x6, h⟩ | ⟨x6, h⟩
      ·refine E_ct x6 rfl ?_
       refine E_seq (E_region (EL_do .plain rfl (D_loadO (g := g7) Tryz.isAgg147 Tryz.sizeOf147 o3 d3 fun qA rA => ?_)))
       refine EL_do .plain rfl (D_storeOc (g := g7) (v := qA) Tryz.sizeOf147 i3 j3 rfl rA fun uC vC hs b163 cb => ?_)
       clear cb
       have hfr := hfr.stp hs
       refine EL_at (.int .i64 (8)) rfl rfl ?_
       refine EL_nil (thn_n (E_ret (blk_r ?_)))
       refine thn_r ?_
       obtain rfl := sinj h
       obtain ⟨ad164, cv164, hp164, t8, cr164⟩ := ob_read Tryz.isAgg147 Tryz.sizeOf147 b163
       exact endm_ct rfl rfl ((show _ = p2 from i3).trans hp164) t8 (show _ = .int .i64 (8) from rfl) ⟨_, hfr, _, _, rfl, cr164, rfl⟩
      ·refine E_cf x6 rfl ?_
       exact E_skip (blk_n (thn_n (y8 ((⟨⟨[], [], [], 0⟩⟩ : PaySheet)) _ _ ⟨g7, hfr, i3, j3, u2_0_153, u2_1_153, u2_2_153, o3, d3⟩ h)))
 ·rintro n7 vB xC ⟨v7, hfr, y6, c8, u2_0_165, u2_1_165, u2_2_165, e8, g8⟩ h
  refine E_seq (E_region (EL_do .plain rfl (D_loadO (g := v7) Tryz.isAgg147 Tryz.sizeOf147 e8 g8 fun sA uA => ?_)))
  refine EL_do .plain rfl (D_storeOc (g := v7) (v := sA) Tryz.sizeOf147 y6 c8 rfl uA fun yC aD hs b167 cb => ?_)
  clear cb
  have hfr := hfr.stp hs
  refine EL_at (.int .i64 (0)) rfl rfl ?_
  refine EL_nil (thn_n (E_ret ?_))
  obtain rfl := sinj h
  obtain ⟨ad168, cv168, hp168, v8, cr168⟩ := ob_read Tryz.isAgg147 Tryz.sizeOf147 b167
  exact endm_ct rfl rfl ((show _ = p2 from y6).trans hp168) v8 (show _ = .int .i64 (0) from rfl) ⟨_, hfr, _, _, rfl, cr168, rfl⟩
def f116 (x0 : List FaultDamage) (x1 : Int) (x2 : FaultDamage → FaultDamage → Option Int) : Option ((List FaultDamage)) :=
 Option.bind (α := (List FaultDamage) × Int) (
  lp (σ := (List FaultDamage) × Int × Int) (fun k9 (j3, i3, u0) =>
   jn (σ := Unit) (fun _ =>
    (f144 j3 i3 u0 x2).bind fun l9 =>
    k9 (l9, u0, (w64 (u0 + (20 : Int))))
    ) fun yA =>
   bif (decide (u0 ≤ x1)) then
    yA ()
   else
    some (j3, i3)
   ) big (x0, (0 : Int), (20 : Int))
  ) fun (q5, o3) =>
 (f144 q5 o3 x1 x2).bind fun zA =>
 lp (σ := (List FaultDamage) × Int) (fun aB (u3, o0) =>
  jn (σ := Unit) (fun _ =>
   Option.bind (α := (List FaultDamage) × Int) (
    lp (σ := (List FaultDamage) × Int × Int) (fun bB (z3, d3, j1) =>
     jn (σ := Unit) (fun _ =>
      (f145 big z3 d3 ((w64 (d3 + o0))) j1 x2).bind fun n9 =>
      bB (n9, j1, (w64 (j1 + (w64 ((2 : Int) * o0)))))
      ) fun cB =>
     bif (decide (j1 ≤ x1)) then
      cB ()
     else
      some (z3, d3)
     ) big (u3, (0 : Int), (w64 ((2 : Int) * o0)))
    ) fun (z4, z2) =>
   Option.bind (α := (List FaultDamage)) (
    bif (decide ((w64 (z2 + o0)) < x1)) then
     (f145 big z4 z2 ((w64 (z2 + o0))) x1 x2).bind fun dB =>
     some (dB)
    else
     some (z4)
    ) fun i5 =>
   aB (i5, (w64 (o0 * (2 : Int))))
   ) fun eB =>
  bif (decide (o0 < x1)) then
   eB ()
  else
   some (u3)
  ) big (zA, (20 : Int))
theorem en116 : Enters Tryz.prog 116 := enters_of Tryz.func116 (by kernel_rfl) rfl
theorem wk116 {iI : Nat} {gI : Gh} {wI : World} {x0 : List FaultDamage} {x1 : Int} {x2 : FaultDamage → FaultDamage → Option Int} {up0 : Value} (mp0 : OM iI gI wI 39 x0 up0) {up2 : Value} (rp2 : FnV2 Tryz.prog x2 up2 gI wI) {r : (List FaultDamage)} (h : f116 x0 x1 x2 = some r) : FnM Tryz.prog 116 #[up0, .int .i64 (x1), up2] iI gI wI (fun g w v => v = .tuple #[] ∧ OM iI g w 39 r up0) := by
 unfold f116 at h
 refine fnM_of_E Tryz.func116 rfl (Nat.le_of_ble_eq_true rfl) fun g0 hm hfr => ?_
 have o9 := mp0
 replace mp0 := mp0.enter
 rw [← hm] at mp0
 replace hm : g0.m = gI.m := by rw [hm]
 obtain ⟨ff2, fa2, fc2, rfl, fen2, fcl2⟩ := rp2
 show E _ 63 none _ _ _ _ _
 refine E_seq (E_region (EL_at (.int .i64 (20)) rfl rfl ?_))
 refine EL_nil (thn_n (E_seq (E_region (EL_mw (.int .i64 (20)) rfl rfl ?_))))
 refine EL_at (.int .i64 (0)) rfl rfl ?_
 refine EL_at (.int .i64 (20)) rfl rfl ?_
 refine EL_nil (thn_n ?_)
 obtain ⟨⟨q5, o3⟩, hx, h⟩ := bsome h
 refine E_join (fun e w => ∃ (g : Gh) , FrM iI gI wI g w ∧ e 0 = up0 ∧ OM 1 g w 39 (q5 : List FaultDamage) up0 ∧ e 1 = .int .i64 (x1) ∧ e 2 = (.func (.func ff2) fa2 fc2) ∧ e 6 = .int .i64 ((20 : Int)) ∧ e 7 = .int .i64 (o3)) (fun Q' hQ => ?_) (fun tC lD hR => ?_)
 ·replace h := hx
  clear hx
  refine E_block ?_
  refine E_lp h (fun (s : (List FaultDamage) × Int × Int) e w => ∃ (g : Gh) , FrM iI gI wI g w ∧ e 0 = up0 ∧ OM 1 g w 39 (s.1 : List FaultDamage) up0 ∧ e 1 = .int .i64 (x1) ∧ e 2 = (.func (.func ff2) fa2 fc2) ∧ e 6 = .int .i64 ((20 : Int)) ∧ e 7 = .int .i64 (s.2.1) ∧ e 8 = .int .i64 (s.2.2)) ⟨g0, hfr, rfl, mp0, rfl, rfl, rfl, rfl, rfl⟩ (fun X9 k9 aC => ?_)
  rintro ⟨j3, i3, u0⟩ uC mD ⟨iB, hfr, g7, i7, t5, j7, m7, n7, o7⟩ h
  refine E_joinC h (fun (s : Unit) e w => ∃ (g : Gh) , FrM iI gI wI g w ∧ e 0 = up0 ∧ OM 1 g w 39 (j3 : List FaultDamage) up0 ∧ e 1 = .int .i64 (x1) ∧ e 2 = (.func (.func ff2) fa2 fc2) ∧ e 6 = .int .i64 ((20 : Int)) ∧ e 7 = .int .i64 (i3) ∧ e 8 = .int .i64 (u0)) (fun X12 yA lB h => ?_) ?_
  ·refine E_seq (E_region (EL_mv o7 rfl ?_))
   refine EL_mv t5 rfl ?_
   refine EL_in (.bool ((decide (u0 ≤ x1)))) rfl rfl rfl rfl ?_
   refine EL_nil (thn_n ?_)
   rcases csome h with ⟨b7, h⟩ | ⟨b7, h⟩
   ·refine E_ct b7 rfl ?_
    exact E_skip (thn_n (lB () _ _ ⟨iB, hfr, g7, i7, t5, j7, m7, n7, o7⟩ h))
   ·refine E_cf b7 rfl ?_
    refine E_exit ?_
    refine thn_e ?_
    refine thn_e ?_
    refine blk_hit ?_
    obtain ⟨rfl, rfl⟩ := pairs2 h
    exact hQ _ _ ⟨iB, hfr, g7, i7, t5, j7, m7, n7⟩
  ·rintro _ vC nD ⟨cC, hfr, u7, t9, u9, v7, c8, y9, x5⟩ h
   refine E_block ?_
   refine E_seq (E_region (EL_mv u7 rfl ?_))
   refine EL_mv y9 rfl ?_
   refine EL_mv x5 rfl ?_
   refine EL_mv v7 rfl ?_
   obtain ⟨l9, mB, h⟩ := bsome h
   refine EL_do .plain rfl (D_callM (g := cC) (i := 1) (vs := [up0, .int .i64 (i3), .int .i64 (u0), (.func (.func ff2) fa2 fc2)]) en144 (.cons rfl (.cons rfl (.cons rfl (.cons rfl .nil)))) (wk144 t9 (FnV2.ch ⟨_, _, _, rfl, fen2, fcl2⟩ hfr.ch) mB) fun dC xC oD hs hr => ?_)
   obtain ⟨hrv, b15⟩ := hr
   have hfr := hfr.stp hs
   subst hrv
   refine EL_nil (thn_n (E_seq (E_region (EL_mv x5 rfl ?_))))
   refine EL_at (.int .i64 (u0)) rfl rfl ?_
   refine EL_nil (thn_n (E_region (EL_mv x5 rfl ?_)))
   refine EL_mv c8 rfl ?_
   refine EL_in (.int .i64 ((w64 (u0 + (20 : Int))))) rfl rfl rfl rfl ?_
   refine EL_at (.int .i64 ((w64 (u0 + (20 : Int))))) rfl rfl ?_
   exact EL_nil (blk_n (thn_n (aC (l9, u0, (w64 (u0 + (20 : Int)))) _ _ ⟨dC, hfr, u7, b15, u9, v7, c8, rfl, rfl⟩ h)))
 ·clear hx
  obtain ⟨eC, hfr, e8, z9, g8, i8, bA, gA⟩ := hR
  refine E_seq (E_region (EL_mv e8 rfl ?_))
  refine EL_mv gA rfl ?_
  refine EL_mv g8 rfl ?_
  refine EL_mv i8 rfl ?_
  obtain ⟨zA, nB, h⟩ := bsome h
  refine EL_do .plain rfl (D_callM (g := eC) (i := 1) (vs := [up0, .int .i64 (o3), .int .i64 (x1), (.func (.func ff2) fa2 fc2)]) en144 (.cons rfl (.cons rfl (.cons rfl (.cons rfl .nil)))) (wk144 z9 (FnV2.ch ⟨_, _, _, rfl, fen2, fcl2⟩ hfr.ch) nB) fun iC yC sD hs hr => ?_)
  obtain ⟨hrv, b18⟩ := hr
  have hfr := hfr.stp hs
  subst hrv
  refine EL_nil (thn_n (E_block ?_))
  refine E_lp h (fun (s : (List FaultDamage) × Int) e w => ∃ (g : Gh) , FrM iI gI wI g w ∧ e 0 = up0 ∧ OM 1 g w 39 (s.1 : List FaultDamage) up0 ∧ e 1 = .int .i64 (x1) ∧ e 2 = (.func (.func ff2) fa2 fc2) ∧ e 6 = .int .i64 (s.2)) ⟨iC, hfr, e8, b18, g8, i8, bA⟩ (fun X20 aB oB => ?_)
  rintro ⟨u3, o0⟩ aD tD ⟨jC, hfr, iA, k8, l8, jA, m8⟩ h
  refine E_joinC h (fun (s : Unit) e w => ∃ (g : Gh) , FrM iI gI wI g w ∧ e 0 = up0 ∧ OM 1 g w 39 (u3 : List FaultDamage) up0 ∧ e 1 = .int .i64 (x1) ∧ e 2 = (.func (.func ff2) fa2 fc2) ∧ e 6 = .int .i64 (o0)) (fun X23 eB tB h => ?_) ?_
  ·refine E_seq (E_region (EL_mv m8 rfl ?_))
   refine EL_mv l8 rfl ?_
   refine EL_in (.bool ((decide (o0 < x1)))) rfl rfl rfl rfl ?_
   refine EL_nil (thn_n ?_)
   rcases csome h with ⟨c7, h⟩ | ⟨c7, h⟩
   ·refine E_ct c7 rfl ?_
    exact E_skip (thn_n (tB () _ _ ⟨jC, hfr, iA, k8, l8, jA, m8⟩ h))
   ·refine E_cf c7 rfl ?_
    refine E_exit ?_
    refine thn_e ?_
    refine thn_e ?_
    refine blk_hit ?_
    obtain rfl := sinj h
    exact end0n rfl rfl ⟨_, hfr, rfl, o9.back k8⟩
  ·rintro _ bD uD ⟨kC, hfr, kA, lA, mA, nA, n8⟩ h
   refine E_block ?_
   refine E_seq (E_region (EL_mv n8 rfl ?_))
   refine EL_in (.int .i64 ((w64 ((2 : Int) * o0)))) rfl rfl rfl rfl ?_
   refine EL_at (.int .i64 (0)) rfl rfl ?_
   refine EL_at (.int .i64 ((w64 ((2 : Int) * o0)))) rfl rfl ?_
   refine EL_nil (thn_n ?_)
   obtain ⟨⟨z4, z2⟩, hx, h⟩ := bsome h
   refine E_join (fun e w => ∃ (g : Gh) , FrM iI gI wI g w ∧ e 0 = up0 ∧ OM 1 g w 39 (z4 : List FaultDamage) up0 ∧ e 1 = .int .i64 (x1) ∧ e 2 = (.func (.func ff2) fa2 fc2) ∧ e 6 = .int .i64 (o0) ∧ e 7 = .int .i64 (z2)) (fun Q' hQ => ?_) (fun cD vD hR => ?_)
   ·replace h := hx
    clear hx
    refine E_block ?_
    refine E_lp h (fun (s : (List FaultDamage) × Int × Int) e w => ∃ (g : Gh) , FrM iI gI wI g w ∧ e 0 = up0 ∧ OM 1 g w 39 (s.1 : List FaultDamage) up0 ∧ e 1 = .int .i64 (x1) ∧ e 2 = (.func (.func ff2) fa2 fc2) ∧ e 6 = .int .i64 (o0) ∧ e 7 = .int .i64 (s.2.1) ∧ e 8 = .int .i64 (s.2.2)) ⟨kC, hfr, kA, lA, mA, nA, n8, rfl, rfl⟩ (fun X34 bB vB => ?_)
    rintro ⟨z3, d3, j1⟩ eD xD ⟨jB, hfr, o8, q8, i6, r8, t8, v8, x8⟩ h
    refine E_joinC h (fun (s : Unit) e w => ∃ (g : Gh) , FrM iI gI wI g w ∧ e 0 = up0 ∧ OM 1 g w 39 (z3 : List FaultDamage) up0 ∧ e 1 = .int .i64 (x1) ∧ e 2 = (.func (.func ff2) fa2 fc2) ∧ e 6 = .int .i64 (o0) ∧ e 7 = .int .i64 (d3) ∧ e 8 = .int .i64 (j1)) (fun X37 cB xB h => ?_) ?_
    ·refine E_seq (E_region (EL_mv x8 rfl ?_))
     refine EL_mv i6 rfl ?_
     refine EL_in (.bool ((decide (j1 ≤ x1)))) rfl rfl rfl rfl ?_
     refine EL_nil (thn_n ?_)
     rcases csome h with ⟨d7, h⟩ | ⟨d7, h⟩
     ·refine E_ct d7 rfl ?_
      exact E_skip (thn_n (xB () _ _ ⟨jB, hfr, o8, q8, i6, r8, t8, v8, x8⟩ h))
     ·refine E_cf d7 rfl ?_
      refine E_exit ?_
      refine thn_e ?_
      refine thn_e ?_
      refine blk_hit ?_
      obtain ⟨rfl, rfl⟩ := pairs2 h
      exact hQ _ _ ⟨jB, hfr, o8, q8, i6, r8, t8, v8⟩
    ·rintro _ gD yD ⟨lC, hfr, y8, oA, pA, a9, j6, d9, v6⟩ h
     refine E_block ?_
     refine E_seq (E_region (EL_mv y8 rfl ?_))
     refine EL_mv d9 rfl ?_
     refine EL_mv d9 rfl ?_
     refine EL_mv j6 rfl ?_
     refine EL_in (.int .i64 ((w64 (d3 + o0)))) rfl rfl rfl rfl ?_
     refine EL_mv v6 rfl ?_
     refine EL_mv a9 rfl ?_
     obtain ⟨n9, yB, h⟩ := bsome h
     refine EL_do .plain rfl (D_callM (g := lC) (i := 1) (vs := [up0, .int .i64 (d3), .int .i64 ((w64 (d3 + o0))), .int .i64 (j1), (.func (.func ff2) fa2 fc2)]) en145 (.cons rfl (.cons rfl (.cons rfl (.cons rfl (.cons rfl .nil))))) (wk145 big oA (FnV2.ch ⟨_, _, _, rfl, fen2, fcl2⟩ hfr.ch) yB) fun mC iD zD hs hr => ?_)
     obtain ⟨hrv, b40⟩ := hr
     have hfr := hfr.stp hs
     subst hrv
     refine EL_nil (thn_n (E_seq (E_region (EL_mv v6 rfl ?_))))
     refine EL_at (.int .i64 (j1)) rfl rfl ?_
     refine EL_nil (thn_n (E_region (EL_mv v6 rfl ?_)))
     refine EL_mv j6 rfl ?_
     refine EL_in (.int .i64 ((w64 ((2 : Int) * o0)))) rfl rfl rfl rfl ?_
     refine EL_p (.int .i64 ((w64 (j1 + (w64 ((2 : Int) * o0)))))) (P_int rfl rfl rfl) rfl ?_
     refine EL_p (.int .i64 ((w64 (j1 + (w64 ((2 : Int) * o0)))))) (P_assign rfl) rfl ?_
     exact EL_nil (blk_n (thn_n (vB (n9, j1, (w64 (j1 + (w64 ((2 : Int) * o0))))) _ _ ⟨mC, hfr, y8, b40, pA, a9, j6, rfl, rfl⟩ h)))
   ·clear hx
    obtain ⟨kB, hfr, x6, e9, l5, y6, a7, i9⟩ := hR
    obtain ⟨i5, hx, h⟩ := bsome h
    refine E_join (fun e w => ∃ (g : Gh) , FrM iI gI wI g w ∧ e 0 = up0 ∧ OM 1 g w 39 (i5 : List FaultDamage) up0 ∧ e 1 = .int .i64 (x1) ∧ e 2 = (.func (.func ff2) fa2 fc2) ∧ e 6 = .int .i64 (o0)) (fun Q' hQ => ?_) (fun jD aE hR => ?_)
    ·replace h := hx
     clear hx
     refine E_seq (E_region (EL_mv i9 rfl ?_))
     refine EL_mv a7 rfl ?_
     refine EL_in (.int .i64 ((w64 (z2 + o0)))) rfl rfl rfl rfl ?_
     refine EL_at (.int .i64 ((w64 (z2 + o0)))) rfl rfl ?_
     refine EL_nil (thn_n (E_seq (E_region (EL_mw (.int .i64 ((w64 (z2 + o0)))) rfl rfl ?_))))
     refine EL_mv l5 rfl ?_
     refine EL_in (.bool ((decide ((w64 (z2 + o0)) < x1)))) rfl rfl rfl rfl ?_
     refine EL_nil (thn_n ?_)
     rcases csome h with ⟨e7, h⟩ | ⟨e7, h⟩
     ·refine E_ct e7 rfl ?_
      refine E_region (EL_mv x6 rfl ?_)
      refine EL_mv i9 rfl ?_
      refine EL_mw (.int .i64 ((w64 (z2 + o0)))) rfl rfl ?_
      refine EL_mv l5 rfl ?_
      refine EL_mv y6 rfl ?_
      obtain ⟨dB, zB, h⟩ := bsome h
      refine EL_do .plain rfl (D_callM (g := kB) (i := 1) (vs := [up0, .int .i64 (z2), .int .i64 ((w64 (z2 + o0))), .int .i64 (x1), (.func (.func ff2) fa2 fc2)]) en145 (.cons rfl (.cons rfl (.cons rfl (.cons rfl (.cons rfl .nil))))) (wk145 big e9 (FnV2.ch ⟨_, _, _, rfl, fen2, fcl2⟩ hfr.ch) zB) fun qC kD bE hs hr => ?_)
      obtain ⟨hrv, b47⟩ := hr
      have hfr := hfr.stp hs
      subst hrv
      refine EL_nil ?_
      obtain rfl := sinj h
      exact hQ _ _ ⟨qC, hfr, x6, b47, l5, y6, a7⟩
     ·refine E_cf e7 rfl ?_
      refine E_skip ?_
      obtain rfl := sinj h
      exact hQ _ _ ⟨kB, hfr, x6, e9, l5, y6, a7⟩
    ·clear hx
     obtain ⟨rC, hfr, qA, rA, sA, uA, xA⟩ := hR
     refine E_region (EL_mv xA rfl ?_)
     refine EL_in (.int .i64 ((w64 (o0 * (2 : Int))))) rfl rfl rfl rfl ?_
     refine EL_at (.int .i64 ((w64 (o0 * (2 : Int))))) rfl rfl ?_
     exact EL_nil (blk_n (thn_n (oB (i5, (w64 (o0 * (2 : Int)))) _ _ ⟨rC, hfr, qA, rA, sA, uA, rfl⟩ h)))
def f30 (x0 : PayList) (x1 : PayPiece) : Option (PayPayList × Int) :=
 jn (σ := PayPayList) (fun x5 =>
  (f57 ((⟨x0⟩ : PayPayList)) x1).bind fun u0 =>
  some ((⟨x0⟩ : PayPayList), u0)
  ) fun v6 =>
 (f42 x0).bind fun o0 =>
 bif (o0 != (0 : Int)) then
  some ((⟨x0⟩ : PayPayList), o0)
 else
  v6 ((⟨⟨[], [], 0, 0⟩⟩ : PayPayList))
theorem en30 : Enters Tryz.prog 30 := enters_of Tryz.func30 (by kernel_rfl) rfl
theorem wk30 {gI : Gh} {wI : World} {x0 : PayList} {x1 : PayPiece} {up0 : Value} (rp0 : RV gI.m wI x0 up0) {up1 : Value} (rp1 : RV gI.m wI x1 up1) {r : PayPayList × Int} (h : f30 x0 x1 = some r) : Fn Tryz.prog 30 #[up0, up1] gI wI (fun m w v => ∃ y0 y1, v = .tuple #[y0, y1] ∧ RV m w (r.1) y0 ∧ y1 = .int .i64 (r.2)) := by
 unfold f30 at h
 refine fn_of_E Tryz.func30 rfl (Nat.le_of_ble_eq_true rfl) fun g0 hm hfr => ?_
 have rp0 : RV g0.m wI x0 up0 := hm ▸ rp0
 have rp1 : RV g0.m wI x1 up1 := hm ▸ rp1
 show E _ 20 none _ _ _ _ _
 refine E_seq (E_region (EL_do .plain rfl (D_box (g := g0) rfl rp0 fun g1 w1 p1 hs q1 => ?_)))
 have hfr := hfr.ext hs
 have rp1 := rp1.ext hs
 refine EL_do .plain rfl (D_box (g := g1) rfl rp1 fun g2 w2 p2 hs q2 => ?_)
 have hfr := hfr.ext hs
 have q1 := q1.ext hs
 refine EL_do .plain rfl (D_allocOc (g := g2) 2004 (⟨⟨[], [], 0, 0⟩⟩ : PayPayList) Tryz.zeroValue96 (fun m w => ⟨_, (rep_two rep_nil (rep_two rep_nil (rep_two rep_int rep_int))), rfl⟩) fun g3 w3 p3 hs b3 cb => ?_)
 have hfr := hfr.stp hs
 have q1 := q1.stp hs
 have q2 := q2.stp hs
 have z2 : OSF 2004 60400 0 g3 w3 82 96 ([] : List PayRate) p3 := cb.osf (by rfl)
 have d3 : OSF 2004 60401 1 g3 w3 3 96 ([] : List Int) p3 := cb.osf (by rfl)
 clear cb
 refine EL_at (.int .i64 (0)) rfl rfl ?_
 refine EL_nil (thn_n (E_joinC h (fun (s : PayPayList) e w => ∃ (g : Gh) , Fr gI wI g w ∧ e 2 = p1 ∧ PT g.m w (x0 : PayList) p1 ∧ e 3 = p2 ∧ PT g.m w (x1 : PayPiece) p2 ∧ e 4 = p3 ∧ OB 2004 g w 96 (s : PayPayList) p3 ∧ OSF 2004 60400 0 g w 82 96 (((s).PayList).Rates) p3 ∧ OSF 2004 60401 1 g w 3 96 (((s).PayList).Extras) p3) (fun X12 v6 j7 h => ?_) ?_))
 ·refine E_seq (E_region (EL_do .plain rfl (D_load (g := g3) Tryz.isAgg35 Tryz.sizeOf35 rfl q1 fun l8 m8 => ?_)))
  obtain ⟨o0, m7, h⟩ := bsome h
  refine EL_do .plain rfl (D_call (g := g3) (vs := [l8]) en42 (.cons rfl .nil) (wk42 m8 m7) fun j3 q8 t8 hs hr => ?_)
  have hfr := hfr.ext hs
  have q1 := q1.ext hs
  have q2 := q2.ext hs
  have z2 := z2.ext hs
  have d3 := d3.ext hs
  have b3 := b3.ext hs
  subst hr
  refine EL_at (.int .i64 (o0)) rfl rfl ?_
  refine EL_nil (thn_n (E_seq (E_region (EL_mw (.int .i64 (o0)) rfl rfl ?_))))
  refine EL_in (.bool ((o0 != (0 : Int)))) rfl rfl rfl rfl ?_
  refine EL_nil (thn_n ?_)
  rcases csome h with ⟨i3, h⟩ | ⟨i3, h⟩
  ·refine E_ct i3 rfl ?_
   refine E_seq (E_region (EL_do .plain rfl (D_load (g := j3) Tryz.isAgg35 Tryz.sizeOf35 rfl q1 fun q5 x6 => ?_)))
   have y6 : RV j3.m _ (⟨x0⟩ : PayPayList) (.agg (setCh [[.slice none 0 0, .slice none 0 0, .int .i64 0, .int .i64 0]] [(0, q5)]).flatten.toArray) := RV_build rfl (rep_last (RV.cells x6))
   generalize n7 : (Value.agg (setCh [[.slice none 0 0, .slice none 0 0, .int .i64 0, .int .i64 0]] [(0, q5)]).flatten.toArray) = a7 at y6
   refine EL_p a7 (n7 ▸ P_build (vs := [(0, q5)]) [[.slice none 0 0, .slice none 0 0, .int .i64 0, .int .i64 0]] lay_96 rfl rfl (.cons rfl .nil) ⟨⟨_, rfl, cells_size x6⟩, trivial⟩) rfl ?_
   refine EL_mw (.int .i64 (o0)) rfl rfl ?_
   refine EL_do .plain rfl (D_storeOc (g := j3) (v := a7) Tryz.sizeOf96 rfl b3 rfl y6 fun v8 x8 hs b19 cb => ?_)
   clear cb
   have hfr := hfr.stp hs
   refine EL_at (.int .i64 (o0)) rfl rfl ?_
   refine EL_nil (thn_n (E_ret (thn_r ?_)))
   obtain rfl := sinj h
   obtain ⟨ad20, cv20, hp20, o7, cr20⟩ := ob_read Tryz.isAgg96 Tryz.sizeOf96 b19
   exact endm_ct rfl rfl ((show _ = p3 from rfl).trans hp20) o7 (show _ = .int .i64 (o0) from rfl) ⟨_, hfr, _, _, rfl, cr20, rfl⟩
  ·refine E_cf i3 rfl ?_
   exact E_skip (thn_n (j7 ((⟨⟨[], [], 0, 0⟩⟩ : PayPayList)) _ _ ⟨j3, hfr, rfl, q1, rfl, q2, rfl, b3, z2, d3⟩ h))
 ·rintro x5 r8 y8 ⟨t5, hfr, o3, u3, i6, j6, z3, j1, u4_0_21, u4_1_21⟩ h
  refine E_seq (L_load (x := .tmp 2) Tryz.isAgg35 Tryz.sizeOf35 u3 fun z4 b7 u7 => ?_)
  have i5 : RV t5.m _ (⟨x0⟩ : PayPayList) (.agg (setCh [[.slice none 0 0, .slice none 0 0, .int .i64 0, .int .i64 0]] [(0, z4)]).flatten.toArray) := RV_build rfl (rep_last (RV.cells b7))
  generalize v7 : (Value.agg (setCh [[.slice none 0 0, .slice none 0 0, .int .i64 0, .int .i64 0]] [(0, z4)]).flatten.toArray) = c7 at i5
  refine L_load (x := .tmp 2) Tryz.isAgg35 Tryz.sizeOf35 u3 fun l5 d7 c8 => ?_
  have e7 : RV t5.m _ (⟨x0⟩ : PayPayList) (.agg (setCh [[.slice none 0 0, .slice none 0 0, .int .i64 0, .int .i64 0]] [(0, l5)]).flatten.toArray) := RV_build rfl (rep_last (RV.cells d7))
  generalize e8 : (Value.agg (setCh [[.slice none 0 0, .slice none 0 0, .int .i64 0, .int .i64 0]] [(0, l5)]).flatten.toArray) = g7 at e7
  refine L_load (x := .tmp 3) Tryz.isAgg53 Tryz.sizeOf53 j6 fun i7 n8 g8 => ?_
  obtain ⟨u0, i8, h⟩ := bsome h
  refine E_drawL (g := t5) (n := 6) [(5, (fun v g w => v = .int .i64 (u0)))] [0, 1, 2, 3, 4, 5] rfl mixed (by kernel_rfl) (⟨fun _ => up_eq _, trivial⟩) ?_
  refine L_ld (c := z4) rfl rfl .plain (fun _ _ h => h.ch) u7 o3 ?_
  refine L_p c7 rfl rfl (v7 ▸ P_build (vs := [(0, z4)]) [[.slice none 0 0, .slice none 0 0, .int .i64 0, .int .i64 0]] lay_96 rfl rfl (.cons rfl .nil) ⟨⟨_, rfl, cells_size b7⟩, trivial⟩) ?_
  refine L_ld (c := l5) rfl rfl .plain (fun _ _ h => h.ch) c8 o3 ?_
  refine L_p g7 rfl rfl (e8 ▸ P_build (vs := [(0, l5)]) [[.slice none 0 0, .slice none 0 0, .int .i64 0, .int .i64 0]] lay_96 rfl rfl (.cons rfl .nil) ⟨⟨_, rfl, cells_size d7⟩, trivial⟩) ?_
  refine L_ld (c := i7) rfl rfl .plain (fun _ _ h => h.ch) g8 i6 ?_
  refine L_do (φ := fun v g w => v = .int .i64 (u0)) rfl rfl .plain (fun g w hd => D_call (g := g) (vs := [g7, i7]) en57 (.cons rfl (.cons rfl .nil)) (wk57 (e7.ext hd.1) (n8.ext hd.1) i8) fun g' w' v hs hr => ⟨g', hs, hr⟩) (fun a9 hv => ?_)
  obtain ⟨_, _, _, rfl⟩ := hv
  refine L_nl fun o8 d9 hs => ?_
  have hfr := hfr.ext hs
  have j1 := j1.ext hs
  have i5 := i5.ext hs
  clear hs
  refine EL_do .plain rfl (D_storeOc (g := o8) (v := c7) Tryz.sizeOf96 z3 j1 rfl i5 fun e9 i9 hs b39 cb => ?_)
  clear cb
  have hfr := hfr.stp hs
  refine EL_at (.int .i64 (u0)) rfl rfl ?_
  refine EL_nil (thn_n (E_ret ?_))
  obtain rfl := sinj h
  obtain ⟨ad40, cv40, hp40, k8, cr40⟩ := ob_read Tryz.isAgg96 Tryz.sizeOf96 b39
  exact endm_ct rfl rfl ((show _ = p3 from z3).trans hp40) k8 (show _ = .int .i64 (u0) from rfl) ⟨_, hfr, _, _, rfl, cr40, rfl⟩
def f46 (x0 : List Int) (x1 : Int → Int → Option Int) : Option ((List Int)) :=
 (f78 x0 (((x0).length : Int)) x1).bind fun y2 =>
 some (y2)
theorem en46 : Enters Tryz.prog 46 := enters_of Tryz.func46 (by kernel_rfl) rfl
theorem wk46 {iI : Nat} {gI : Gh} {wI : World} {x0 : List Int} {x1 : Int → Int → Option Int} {up0 : Value} (mp0 : OM iI gI wI 3 x0 up0) {up1 : Value} (rp1 : FnV2 Tryz.prog x1 up1 gI wI) {r : (List Int)} (h : f46 x0 x1 = some r) : FnM Tryz.prog 46 #[up0, up1] iI gI wI (fun g w v => v = .tuple #[] ∧ OM iI g w 3 r up0) := by
 unfold f46 at h
 refine fnM_of_E Tryz.func46 rfl (Nat.le_of_ble_eq_true rfl) fun g0 hm hfr => ?_
 have o0 := mp0
 replace mp0 := mp0.enter
 rw [← hm] at mp0
 replace hm : g0.m = gI.m := by rw [hm]
 obtain ⟨ff1, fa1, fc1, rfl, fen1, fcl1⟩ := rp1
 show E _ 9 none _ _ _ _ _
 refine E_region (EL_mw up0 rfl rfl ?_)
 refine EL_mw up0 rfl rfl ?_
 refine EL_p (.int .i64 ((x0).length : Int)) (P_lenM Tryz.underlying25 rfl mp0) rfl ?_
 refine EL_mw ((.func (.func ff1) fa1 fc1)) rfl rfl ?_
 obtain ⟨y2, hy2, h⟩ := bsome h
 refine EL_do .plain rfl (D_callM (g := g0) (i := 1) (vs := [up0, .int .i64 ((x0).length : Int), (.func (.func ff1) fa1 fc1)]) en78 (.cons rfl (.cons rfl (.cons rfl .nil))) (wk78 mp0 (FnV2.ch ⟨_, _, _, rfl, fen1, fcl1⟩ hfr.ch) hy2) fun g1 w1_ v1 hs hr => ?_)
 obtain ⟨hrv, b1⟩ := hr
 have hfr := hfr.stp hs
 subst hrv
 refine EL_nil ?_
 obtain rfl := sinj h
 exact end0n rfl rfl ⟨_, hfr, rfl, o0.back b1⟩
def f55 (x0 : FaultLoom) (x1 : List FaultDamage) (x2 : Int) : Option (Int) :=
 jn (σ := Unit) (fun _ =>
  jn (σ := Unit) (fun _ =>
   some ((0 : Int))
   ) fun d3 =>
  (f91 ((1 : Int)) ((120 : Int)) (([x2] : List Int))).bind fun j1 =>
  bif (!j1) then
   some ((3 : Int))
  else
   d3 ()
  ) fun k6 =>
 (f59 x0 x1).bind fun y9 =>
 bif (y9 != (0 : Int)) then
  some (y9)
 else
  k6 ()
theorem en55 : Enters Tryz.prog 55 := enters_of Tryz.func55 (by kernel_rfl) rfl
theorem wk55 {gI : Gh} {wI : World} {x0 : FaultLoom} {x1 : List FaultDamage} {x2 : Int} {up0 : Value} (rp0 : RV gI.m wI x0 up0) {up1 : Value} (rp1 : RV gI.m wI x1 up1) {r : Int} (h : f55 x0 x1 x2 = some r) : Fn Tryz.prog 55 #[up0, up1, .int .i64 (x2)] gI wI (fun _ _ v => v = .int .i64 (r)) := by
 unfold f55 at h
 refine fn_of_E Tryz.func55 rfl (Nat.le_of_ble_eq_true rfl) fun g0 hm hfr => ?_
 have rp0 : RV g0.m wI x0 up0 := hm ▸ rp0
 have rp1 : RV g0.m wI x1 up1 := hm ▸ rp1
 show E _ 18 none _ _ _ _ _
 refine E_seq (E_region (EL_do .plain rfl (D_box (g := g0) rfl rp0 fun g1 w1 p1 hs q1 => ?_)))
 have hfr := hfr.ext hs
 have rp1 := rp1.ext hs
 refine EL_at (.int .i64 (0)) rfl rfl ?_
 refine EL_nil (thn_n (E_joinC h (fun (s : Unit) e w => ∃ (g : Gh) , Fr gI wI g w ∧ e 2 = .int .i64 (x2)) (fun X6 k6 hk6 h => ?_) ?_))
 ·refine E_seq (E_region (EL_do .plain rfl (D_load (g := g1) Tryz.isAgg31 Tryz.sizeOf31 rfl q1 fun v7 r7 => ?_)))
  refine EL_mw up1 rfl rfl ?_
  obtain ⟨y9, o3, h⟩ := bsome h
  refine EL_do .plain rfl (D_call (g := g1) (vs := [v7, up1]) en59 (.cons rfl (.cons rfl .nil)) (wk59 r7 rp1 o3) fun g8 w8_ v8 hs hr => ?_)
  have hfr := hfr.ext hs
  subst hr
  refine EL_at (.int .i64 (y9)) rfl rfl ?_
  refine EL_nil (thn_n (E_seq (E_region (EL_mw (.int .i64 (y9)) rfl rfl ?_))))
  refine EL_in (.bool ((y9 != (0 : Int)))) rfl rfl rfl rfl ?_
  refine EL_nil (thn_n ?_)
  rcases csome h with ⟨o0, h⟩ | ⟨o0, h⟩
  ·refine E_ct o0 rfl ?_
   refine E_seq (E_region (EL_mw (.int .i64 (y9)) rfl rfl ?_))
   refine EL_at (.int .i64 (y9)) rfl rfl ?_
   refine EL_nil (thn_n (E_ret (thn_r ?_)))
   obtain rfl := sinj h
   exact end1 rfl rfl (show _ = .int .i64 (y9) from rfl) ⟨_, hfr, rfl⟩
  ·refine E_cf o0 rfl ?_
   exact E_skip (thn_n (hk6 () _ _ ⟨g8, hfr, rfl⟩ h))
 ·rintro _ q5 i6 ⟨u3, hfr, z2⟩ h
  refine E_joinC h (fun (s : Unit) e w => ∃ (g : Gh) , Fr gI wI g w) (fun X16 d3 i3 h => ?_) ?_
  ·refine E_seq (E_region (EL_mv z2 rfl ?_))
   refine EL_do .plain rfl (D_buildSlice (g := u3) 3015 (xs := ([x2] : List Int)) (vs := [.int .i64 (x2)]) Tryz.underlying25 Tryz.sizeOf3 Tryz.zeroValue3 rfl rfl (.cons rfl .nil) (RVs.cons (RV_int.2 rfl) RVs.nil) rfl rfl fun z3 j6 z4 hs o17 i5 hxt hfl => ?_)
   have hfr := hfr.stp hs
   obtain ⟨j1, j3, h⟩ := bsome h
   refine EL_do .plain rfl (D_call (g := z3) (vs := [.int .i64 (1), .int .i64 (120), z4]) en91 (.cons rfl (.cons rfl (.cons rfl .nil))) (wk91 i5 j3) fun l5 t5 v6 hs hr => ?_)
   have hfr := hfr.ext hs
   subst hr
   refine EL_p (.bool (!j1)) (P_not rfl) rfl ?_
   refine EL_nil (thn_n ?_)
   rcases csome h with ⟨u0, h⟩ | ⟨u0, h⟩
   ·refine E_ct u0 rfl ?_
    refine E_seq (E_region (EL_at (.int .i64 (3)) rfl rfl ?_))
    refine EL_nil (thn_n (E_ret (thn_r ?_)))
    obtain rfl := sinj h
    exact end1 rfl rfl (show _ = .int .i64 (3) from rfl) ⟨_, hfr, rfl⟩
   ·refine E_cf u0 rfl ?_
    exact E_skip (thn_n (i3 () _ _ ⟨l5, hfr⟩ h))
  ·rintro _ x5 x6 ⟨y6, hfr⟩ h
   refine E_seq (E_region (EL_at (.int .i64 (0)) rfl rfl ?_))
   refine EL_nil (thn_n (E_ret ?_))
   obtain rfl := sinj h
   exact end1 rfl rfl (show _ = .int .i64 (0) from rfl) ⟨_, hfr, rfl⟩
def f60 (x0 : PayTable) : Option (PaySheet × Int) :=
 (f98 x0).bind fun y5 =>
 Option.bind (α := Int) (
  Option.bind (α := Bool) (
   bif (y5.2 == (0 : Int)) then
    (f99 (y5.1)).bind fun j3 =>
    some ((decide (((j3).length : Int) > (0 : Int))))
   else
    some (false)
   ) fun d3 =>
  bif d3 then
   some ((7 : Int))
  else
   some (y5.2)
  ) fun i3 =>
 some (y5.1, i3)
theorem en60 : Enters Tryz.prog 60 := enters_of Tryz.func60 (by kernel_rfl) rfl
theorem wk60 {gI : Gh} {wI : World} {x0 : PayTable} {up0 : Value} (rp0 : RV gI.m wI x0 up0) {r : PaySheet × Int} (h : f60 x0 = some r) : Fn Tryz.prog 60 #[up0] gI wI (fun m w v => ∃ y0 y1, v = .tuple #[y0, y1] ∧ RV m w (r.1) y0 ∧ y1 = .int .i64 (r.2)) := by
 unfold f60 at h
 refine fn_of_E Tryz.func60 rfl (Nat.le_of_ble_eq_true rfl) fun g0 hm hfr => ?_
 have rp0 : RV g0.m wI x0 up0 := hm ▸ rp0
 show E _ 21 none _ _ _ _ _
 refine E_seq (E_region (EL_do .plain rfl (D_box (g := g0) rfl rp0 fun g1 w1 p1 hs q1 => ?_)))
 have hfr := hfr.ext hs
 refine EL_do .plain rfl (D_allocOc (g := g1) 2002 (⟨⟨[], [], [], 0⟩⟩ : PaySheet) Tryz.zeroValue147 (fun m w => ⟨_, (rep_two rep_nil (rep_two rep_nil (rep_two rep_nil rep_int))), rfl⟩) fun g2 w2 p2 hs b2 cb => ?_)
 have hfr := hfr.stp hs
 have q1 := q1.stp hs
 have o0 : OSF 2002 60200 0 g2 w2 25 147 ([] : List (List Int)) p2 := cb.osf (by rfl)
 have u0 : OSF 2002 60201 1 g2 w2 3 147 ([] : List Int) p2 := cb.osf (by rfl)
 have j1 : OSF 2002 60202 2 g2 w2 3 147 ([] : List Int) p2 := cb.osf (by rfl)
 clear cb
 refine EL_at (.int .i64 (0)) rfl rfl ?_
 refine EL_nil (thn_n (E_seq (E_region (EL_do .plain rfl (D_load (g := g2) Tryz.isAgg112 Tryz.sizeOf112 rfl q1 fun v3 r3 => ?_)))))
 obtain ⟨y5, hy5, h⟩ := bsome h
 refine EL_do .plain rfl (D_call (g := g2) (vs := [v3]) en98 (.cons rfl .nil) (wk98 r3 hy5) fun g4 w4_ v4 hs hr => ?_)
 have hfr := hfr.ext hs
 have o0 := o0.ext hs
 have u0 := u0.ext hs
 have j1 := j1.ext hs
 have b2 := b2.ext hs
 obtain ⟨u3, v7, rfl, z3, rfl⟩ := hr
 refine EL_mw (.tuple #[u3, .int .i64 (y5.2)]) rfl rfl ?_
 refine EL_p u3 (P_extract rfl rfl) rfl ?_
 refine EL_p (.int .i64 (y5.2)) (P_extract rfl rfl) rfl ?_
 refine EL_do .plain rfl (D_allocOc (g := g4) 2004 (⟨⟨[], [], [], 0⟩⟩ : PaySheet) Tryz.zeroValue147 (fun m w => ⟨_, (rep_two rep_nil (rep_two rep_nil (rep_two rep_nil rep_int))), rfl⟩) fun g6 w6 p6 hs b6 cb => ?_)
 have hfr := hfr.stp hs
 have o0 := o0.stp hs rfl
 have u0 := u0.stp hs rfl
 have j1 := j1.stp hs rfl
 have b2 := b2.stp hs rfl
 have z3 := z3.stp hs
 have c8 : OSF 2004 60400 0 g6 w6 25 147 ([] : List (List Int)) p6 := cb.osf (by rfl)
 have e8 : OSF 2004 60401 1 g6 w6 3 147 ([] : List Int) p6 := cb.osf (by rfl)
 have g8 : OSF 2004 60402 2 g6 w6 3 147 ([] : List Int) p6 := cb.osf (by rfl)
 clear cb
 refine EL_do .plain rfl (D_storeOc (g := g6) (v := u3) Tryz.sizeOf147 rfl b6 rfl z3 fun g7 w7 hs b7 cb => ?_)
 clear cb
 have hfr := hfr.stp hs
 have o0 := o0.stp hs rfl
 have u0 := u0.stp hs rfl
 have j1 := j1.stp hs rfl
 have b2 := b2.stp hs rfl
 refine EL_at (.int .i64 (y5.2)) rfl rfl ?_
 refine EL_nil (thn_n ?_)
 obtain ⟨i3, hx, h⟩ := bsome h
 refine E_join (fun e w => ∃ (g : Gh) , Fr gI wI g w ∧ e 2 = p2 ∧ OB 2002 g w 147 ((⟨⟨[], [], [], 0⟩⟩ : PaySheet) : PaySheet) p2 ∧ OSF 2002 60200 0 g w 25 147 ((((⟨⟨[], [], [], 0⟩⟩ : PaySheet)).PayTable).Rows) p2 ∧ OSF 2002 60201 1 g w 3 147 ((((⟨⟨[], [], [], 0⟩⟩ : PaySheet)).PayTable).Across) p2 ∧ OSF 2002 60202 2 g w 3 147 ((((⟨⟨[], [], [], 0⟩⟩ : PaySheet)).PayTable).Down) p2 ∧ e 4 = p6 ∧ OB 2004 g w 147 (y5.1 : PaySheet) p6 ∧ e 5 = .int .i64 (i3)) (fun Q' hQ => ?_) (fun i8 m8 hR => ?_)
 ·replace h := hx
  clear hx
  obtain ⟨d3, hx, h⟩ := bsome h
  refine E_join (fun e w => ∃ (g : Gh) , Fr gI wI g w ∧ e 2 = p2 ∧ OB 2002 g w 147 ((⟨⟨[], [], [], 0⟩⟩ : PaySheet) : PaySheet) p2 ∧ OSF 2002 60200 0 g w 25 147 ((((⟨⟨[], [], [], 0⟩⟩ : PaySheet)).PayTable).Rows) p2 ∧ OSF 2002 60201 1 g w 3 147 ((((⟨⟨[], [], [], 0⟩⟩ : PaySheet)).PayTable).Across) p2 ∧ OSF 2002 60202 2 g w 3 147 ((((⟨⟨[], [], [], 0⟩⟩ : PaySheet)).PayTable).Down) p2 ∧ e 4 = p6 ∧ OB 2004 g w 147 (y5.1 : PaySheet) p6 ∧ e 5 = .int .i64 (y5.2) ∧ e 18 = .bool (d3)) (fun Q' hQ => ?_) (fun k8 n8 hR => ?_)
  ·replace h := hx
   clear hx
   refine E_region (EL_mw (.int .i64 (y5.2)) rfl rfl ?_)
   refine EL_in (.bool ((y5.2 == (0 : Int)))) rfl rfl rfl rfl ?_
   refine EL_mw (.bool ((y5.2 == (0 : Int)))) rfl rfl ?_
   rcases csome h with ⟨z2, h⟩ | ⟨z2, h⟩
   ·refine EL_do (.yes2 rfl rfl z2) rfl (D_loadO (g := g7) Tryz.isAgg147 Tryz.sizeOf147 rfl b7 fun i7 j7 => ?_)
    obtain ⟨j3, d7, h⟩ := bsome h
    refine EL_do (.yes2 rfl rfl z2) rfl (D_call (g := g7) (vs := [i7]) en99 (.cons rfl .nil) (wk99 j7 d7) fun m7 l8 o8 hs hr => ?_)
    have hfr := hfr.ext hs
    have o0 := o0.ext hs
    have u0 := u0.ext hs
    have j1 := j1.ext hs
    have b2 := b2.ext hs
    have b7 := b7.ext hs
    have n7 := hr
    refine EL_y (.int .i64 ((j3).length : Int)) (P_len Tryz.underlying184 rfl n7) rfl rfl z2 rfl ?_
    refine EL_y (.bool ((decide (((j3).length : Int) > (0 : Int))))) (P_int rfl rfl rfl) rfl rfl z2 rfl ?_
    refine EL_p (.bool ((decide (((j3).length : Int) > (0 : Int))))) (P_pick (b := (y5.2 == (0 : Int))) rfl (pick_t z2 rfl)) rfl ?_
    refine EL_nil ?_
    obtain rfl := sinj h
    exact hQ _ _ ⟨m7, hfr, rfl, b2, o0, u0, j1, rfl, b7, rfl, rfl⟩
   ·refine EL_s rfl rfl z2 rfl rfl ?_
    iterate 3 refine EL_s rfl rfl z2 rfl rfl ?_
    refine EL_p (.bool false) (P_pick (b := (y5.2 == (0 : Int))) rfl (pick_f z2 rfl)) rfl ?_
    refine EL_nil ?_
    obtain rfl := sinj h
    exact hQ _ _ ⟨g7, hfr, rfl, b2, o0, u0, j1, rfl, b7, rfl, rfl⟩
  ·clear hx
   obtain ⟨a7, hfr, i5, l5, u2_0_26, u2_1_26, u2_2_26, q5, t5, i6, o3⟩ := hR
   rcases csome h with ⟨z4, h⟩ | ⟨z4, h⟩
   ·refine E_cond_true (Eq.trans (show ev _ _ = .bool (d3) from o3) (congrArg Value.bool z4)) ?_
    refine E_region (EL_at (.int .i64 (7)) rfl rfl ?_)
    refine EL_nil ?_
    obtain rfl := sinj h
    exact hQ _ _ ⟨a7, hfr, i5, l5, u2_0_26, u2_1_26, u2_2_26, q5, t5, rfl⟩
   ·refine E_cond_false (Eq.trans (show ev _ _ = .bool (d3) from o3) (congrArg Value.bool z4)) ?_
    refine E_skip ?_
    obtain rfl := sinj h
    exact hQ _ _ ⟨a7, hfr, i5, l5, u2_0_26, u2_1_26, u2_2_26, q5, t5, i6⟩
 ·clear hx
  obtain ⟨c7, hfr, x5, j6, u2_0_28, u2_1_28, u2_2_28, v6, x6, y6⟩ := hR
  refine E_seq (E_region (EL_do .plain rfl (D_loadO (g := c7) Tryz.isAgg147 Tryz.sizeOf147 v6 x6 fun o7 u7 => ?_)))
  refine EL_mv y6 rfl ?_
  refine EL_do .plain rfl (D_storeOc (g := c7) (v := o7) Tryz.sizeOf147 x5 j6 rfl u7 fun q8 r8 hs b30 cb => ?_)
  clear cb
  have hfr := hfr.stp hs
  refine EL_at (.int .i64 (i3)) rfl rfl ?_
  refine EL_nil (thn_n (E_ret ?_))
  obtain rfl := sinj h
  obtain ⟨ad31, cv31, hp31, e7, cr31⟩ := ob_read Tryz.isAgg147 Tryz.sizeOf147 b30
  exact endm_ct rfl rfl ((show _ = p2 from x5).trans hp31) e7 (show _ = .int .i64 (i3) from rfl) ⟨_, hfr, _, _, rfl, cr31, rfl⟩
def f86 (x0 : List FaultDamage) (x1 : FaultDamage → FaultDamage → Option Int) : Option ((List FaultDamage)) :=
 (f116 x0 (((x0).length : Int)) x1).bind fun y2 =>
 some (y2)
theorem en86 : Enters Tryz.prog 86 := enters_of Tryz.func86 (by kernel_rfl) rfl
theorem wk86 {iI : Nat} {gI : Gh} {wI : World} {x0 : List FaultDamage} {x1 : FaultDamage → FaultDamage → Option Int} {up0 : Value} (mp0 : OM iI gI wI 39 x0 up0) {up1 : Value} (rp1 : FnV2 Tryz.prog x1 up1 gI wI) {r : (List FaultDamage)} (h : f86 x0 x1 = some r) : FnM Tryz.prog 86 #[up0, up1] iI gI wI (fun g w v => v = .tuple #[] ∧ OM iI g w 39 r up0) := by
 unfold f86 at h
 refine fnM_of_E Tryz.func86 rfl (Nat.le_of_ble_eq_true rfl) fun g0 hm hfr => ?_
 have o0 := mp0
 replace mp0 := mp0.enter
 rw [← hm] at mp0
 replace hm : g0.m = gI.m := by rw [hm]
 obtain ⟨ff1, fa1, fc1, rfl, fen1, fcl1⟩ := rp1
 show E _ 9 none _ _ _ _ _
 refine E_region (EL_mw up0 rfl rfl ?_)
 refine EL_mw up0 rfl rfl ?_
 refine EL_p (.int .i64 ((x0).length : Int)) (P_lenM Tryz.underlying41 rfl mp0) rfl ?_
 refine EL_mw ((.func (.func ff1) fa1 fc1)) rfl rfl ?_
 obtain ⟨y2, hy2, h⟩ := bsome h
 refine EL_do .plain rfl (D_callM (g := g0) (i := 1) (vs := [up0, .int .i64 ((x0).length : Int), (.func (.func ff1) fa1 fc1)]) en116 (.cons rfl (.cons rfl (.cons rfl .nil))) (wk116 mp0 (FnV2.ch ⟨_, _, _, rfl, fen1, fcl1⟩ hfr.ch) hy2) fun g1 w1_ v1 hs hr => ?_)
 obtain ⟨hrv, b1⟩ := hr
 have hfr := hfr.stp hs
 subst hrv
 refine EL_nil ?_
 obtain rfl := sinj h
 exact end0n rfl rfl ⟨_, hfr, rfl, o0.back b1⟩
def f11 (x0 : PayList) (x1 : PayPiece) : Option (Int × Int × Int × Int) :=
 (f30 x0 x1).bind fun y6 =>
 jn (σ := Unit) (fun _ =>
  (f31 (y6.1) x1).bind fun u0 =>
  (f32 (y6.1) u0 ((x1).Faults)).bind fun d3 =>
  (f33 (y6.1) x1 ((x1).Faults)).bind fun i3 =>
  some (u0, d3, i3, (0 : Int))
  ) fun i5 =>
 bif (y6.2 != (0 : Int)) then
  some ((0 : Int), (0 : Int), (0 : Int), y6.2)
 else
  i5 ()
theorem en11 : Enters Tryz.prog 11 := enters_of Tryz.func11 (by kernel_rfl) rfl
theorem wk11 {gI : Gh} {wI : World} {x0 : PayList} {x1 : PayPiece} {up0 : Value} (rp0 : RV gI.m wI x0 up0) {up1 : Value} (rp1 : RV gI.m wI x1 up1) {r : Int × Int × Int × Int} (h : f11 x0 x1 = some r) : Fn Tryz.prog 11 #[up0, up1] gI wI (fun m w v => ∃ y0 y1 y2 y3, v = .tuple #[y0, y1, y2, y3] ∧ y0 = .int .i64 (r.1) ∧ y1 = .int .i64 (r.2.1) ∧ y2 = .int .i64 (r.2.2.1) ∧ y3 = .int .i64 (r.2.2.2)) := by
 unfold f11 at h
 refine fn_of_E Tryz.func11 rfl (Nat.le_of_ble_eq_true rfl) fun g0 hm hfr => ?_
 have rp0 : RV g0.m wI x0 up0 := hm ▸ rp0
 have rp1 : RV g0.m wI x1 up1 := hm ▸ rp1
 show E _ 32 none _ _ _ _ _
 refine E_seq (E_region (EL_do .plain rfl (D_box (g := g0) rfl rp0 fun g1 w1 p1 hs q1 => ?_)))
 have hfr := hfr.ext hs
 have rp1 := rp1.ext hs
 refine EL_do .plain rfl (D_box (g := g1) rfl rp1 fun g2 w2 p2 hs q2 => ?_)
 have hfr := hfr.ext hs
 have q1 := q1.ext hs
 iterate 4 refine EL_at (.int .i64 (0)) rfl rfl ?_
 refine EL_nil (thn_n (E_seq (E_region (EL_do .plain rfl (D_load (g := g2) Tryz.isAgg35 Tryz.sizeOf35 rfl q1 fun v3 r3 => ?_)))))
 refine EL_do .plain rfl (D_load (g := g2) Tryz.isAgg53 Tryz.sizeOf53 rfl q2 fun v4 r4 => ?_)
 obtain ⟨y6, i7, h⟩ := bsome h
 refine EL_do .plain rfl (D_call (g := g2) (vs := [v3, v4]) en30 (.cons rfl (.cons rfl .nil)) (wk30 r3 r4 i7) fun g5 w5_ v5 hs hr => ?_)
 have hfr := hfr.ext hs
 have q2 := q2.ext hs
 obtain ⟨o3, n8, rfl, u3, rfl⟩ := hr
 refine EL_mw (.tuple #[o3, .int .i64 (y6.2)]) rfl rfl ?_
 refine EL_p o3 (P_extract rfl rfl) rfl ?_
 refine EL_p (.int .i64 (y6.2)) (P_extract rfl rfl) rfl ?_
 refine EL_do .plain rfl (D_allocOc (g := g5) 2008 (⟨⟨[], [], 0, 0⟩⟩ : PayPayList) Tryz.zeroValue96 (fun m w => ⟨_, (rep_two rep_nil (rep_two rep_nil (rep_two rep_int rep_int))), rfl⟩) fun g7 w7 p7 hs b7 cb => ?_)
 have hfr := hfr.stp hs
 have q2 := q2.stp hs
 have u3 := u3.stp hs
 have o8 : OSF 2008 60800 0 g7 w7 82 96 ([] : List PayRate) p7 := cb.osf (by rfl)
 have q8 : OSF 2008 60801 1 g7 w7 3 96 ([] : List Int) p7 := cb.osf (by rfl)
 clear cb
 refine EL_do .plain rfl (D_storeOc (g := g7) (v := o3) Tryz.sizeOf96 rfl b7 rfl u3 fun g8 w8 hs b8 cb => ?_)
 clear cb
 have hfr := hfr.stp hs
 have q2 := q2.stp hs
 refine EL_at (.int .i64 (y6.2)) rfl rfl ?_
 refine EL_nil (thn_n (E_joinC h (fun (s : Unit) e w => ∃ (g : Gh) , Fr gI wI g w ∧ e 3 = p2 ∧ PT g.m w (x1 : PayPiece) p2 ∧ e 8 = p7 ∧ OB 2008 g w 96 (y6.1 : PayPayList) p7) (fun X10 i5 x5 h => ?_) ?_))
 ·refine E_seq (E_region (EL_mw (.int .i64 (y6.2)) rfl rfl ?_))
  refine EL_in (.bool ((y6.2 != (0 : Int)))) rfl rfl rfl rfl ?_
  refine EL_nil (thn_n ?_)
  rcases csome h with ⟨z3, h⟩ | ⟨z3, h⟩
  ·refine E_ct z3 rfl ?_
   refine E_seq (E_region (EL_mw (.int .i64 (y6.2)) rfl rfl ?_))
   iterate 3 refine EL_at (.int .i64 (0)) rfl rfl ?_
   refine EL_at (.int .i64 (y6.2)) rfl rfl ?_
   refine EL_nil (thn_n (E_ret (thn_r ?_)))
   obtain rfl := sinj h
   exact end4 rfl rfl (show _ = .int .i64 (0) from rfl) (show _ = .int .i64 (0) from rfl) (show _ = .int .i64 (0) from rfl) (show _ = .int .i64 (y6.2) from rfl) ⟨_, hfr, _, _, _, _, rfl, rfl, rfl, rfl, rfl⟩
  ·refine E_cf z3 rfl ?_
   exact E_skip (thn_n (x5 () _ _ ⟨g8, hfr, rfl, q2, rfl, b8⟩ h))
 ·rintro _ r8 v8 ⟨z4, hfr, z2, o0, j3, j1⟩ h
  refine E_seq (E_region (EL_do .plain rfl (D_loadO (g := z4) Tryz.isAgg96 Tryz.sizeOf96 j3 j1 fun j7 m7 => ?_)))
  refine EL_do .plain rfl (D_load (g := z4) Tryz.isAgg53 Tryz.sizeOf53 z2 o0 fun n7 o7 => ?_)
  obtain ⟨u0, i6, h⟩ := bsome h
  refine EL_do .plain rfl (D_call (g := z4) (vs := [j7, n7]) en31 (.cons rfl (.cons rfl .nil)) (wk31 m7 o7 i6) fun u7 t8 x8 hs hr => ?_)
  have hfr := hfr.ext hs
  have o0 := o0.ext hs
  have j1 := j1.ext hs
  subst hr
  refine EL_at (.int .i64 (u0)) rfl rfl ?_
  refine EL_nil (thn_n (E_seq (L_loadO0 (x := .tmp 8) Tryz.isAgg96 Tryz.sizeOf96 j1 fun l5 v7 j6 => ?_)))
  have c8 := PT_field (part_PayPiece_4).1 o0
  refine L_load (x := .tmp 24) Tryz.isAgg3 Tryz.sizeOf3 c8 fun y8 e8 v6 => ?_
  obtain rfl := RV_int.1 e8
  obtain ⟨d3, x6, h⟩ := bsome h
  refine L_loadO0 (x := .tmp 8) Tryz.isAgg96 Tryz.sizeOf96 j1 fun q5 i8 a7 => ?_
  refine L_load (x := .tmp 3) Tryz.isAgg53 Tryz.sizeOf53 o0 fun t5 k8 c7 => ?_
  have l8 := PT_field (part_PayPiece_4).1 o0
  refine L_load (x := .tmp 29) Tryz.isAgg3 Tryz.sizeOf3 l8 fun a9 m8 d7 => ?_
  obtain rfl := RV_int.1 m8
  obtain ⟨i3, e7, h⟩ := bsome h
  refine E_drawL (g := u7) (n := 15) [(5, (fun v g w => v = .int .i64 (d3))), (10, (fun v g w => v = .int .i64 (i3)))] [0, 1, 2, 3, 4, 5, 6, 7, 8, 9, 10, 11, 12, 13, 14] rfl mixed (by kernel_rfl) (⟨fun _ => up_eq _, fun _ => up_eq _, trivial⟩) ?_
  refine L_p (.int .i64 (u0)) rfl rfl (P_move rfl) ?_
  refine L_ld (c := l5) rfl rfl .plain (fun _ _ h => ⟨h.ch, fun b hb _ => h.below.block b hb⟩) j6 j3 ?_
  refine L_p (.int .i64 (u0)) rfl rfl (P_move rfl) ?_
  refine L_p (fPtr p2 4) rfl rfl (P_fieldAddr at_53_4 z2 (PT.ptr o0)) ?_
  refine L_ld (c := .int .i64 ((x1).Faults)) rfl rfl .plain (fun _ _ h => h.ch) v6 rfl ?_
  refine L_do (φ := fun v g w => v = .int .i64 (d3)) rfl rfl .plain (fun g w hd => D_call (g := g) (vs := [l5, .int .i64 (u0), .int .i64 ((x1).Faults)]) en32 (.cons rfl (.cons rfl (.cons rfl .nil))) (wk32 (v7.ext hd.1) x6) fun g' w' v hs hr => ⟨g', hs, hr⟩) (fun d9 hv => ?_)
  obtain ⟨_, _, _, rfl⟩ := hv
  refine L_ld (c := q5) rfl rfl .plain (fun _ _ h => ⟨h.ch, fun b hb _ => h.below.block b hb⟩) a7 j3 ?_
  refine L_ld (c := t5) rfl rfl .plain (fun _ _ h => h.ch) c7 z2 ?_
  refine L_p (fPtr p2 4) rfl rfl (P_fieldAddr at_53_4 z2 (PT.ptr o0)) ?_
  refine L_ld (c := .int .i64 ((x1).Faults)) rfl rfl .plain (fun _ _ h => h.ch) d7 rfl ?_
  refine L_do (φ := fun v g w => v = .int .i64 (i3)) rfl rfl .plain (fun g w hd => D_call (g := g) (vs := [q5, t5, .int .i64 ((x1).Faults)]) en33 (.cons rfl (.cons rfl (.cons rfl .nil))) (wk33 (i8.ext hd.1) (k8.ext hd.1) e7) fun g' w' v hs hr => ⟨g', hs, hr⟩) (fun e9 hv => ?_)
  obtain ⟨_, _, _, rfl⟩ := hv
  refine L_p (.int .i64 (u0)) rfl rfl (P_assign rfl) ?_
  refine L_p (.int .i64 (d3)) rfl rfl (P_assign rfl) ?_
  refine L_p (.int .i64 (i3)) rfl rfl (P_assign rfl) ?_
  refine L_p (.int .i64 (0)) rfl rfl (P_assign rfl) ?_
  refine L_nl fun i9 k9 hs => ?_
  have hfr := hfr.ext hs
  clear hs
  refine EL_nil (thn_n (E_ret ?_))
  obtain rfl := sinj h
  exact end4 rfl rfl (show _ = .int .i64 (u0) from rfl) (show _ = .int .i64 (d3) from rfl) (show _ = .int .i64 (i3) from rfl) (show _ = .int .i64 (0) from rfl) ⟨_, hfr, _, _, _, _, rfl, rfl, rfl, rfl, rfl⟩
def f20 (x0 : Int) (x1 : List Int) : Option ((List Int) × Int) :=
 Option.bind (α := Int) (
  lp (σ := Int × Int) (fun hG (j7, z2) =>
   bif (decide (z2 < ((x1).length : Int))) then
    Option.bind (α := Int) (
     (idx x1 z2).bind fun k8 =>
     some ((w64 (j7 + (min64 (max64 k8 (0 : Int)) (1000 : Int)))))
     ) fun l8 =>
    hG (l8, (w64 (z2 + (1 : Int))))
   else
    some (j7)
   ) big ((0 : Int), (0 : Int))
  ) fun i3 =>
 jn (σ := (List Int)) (fun tB =>
  (mks 8 (0 : Int) (((x1).length : Int))).bind fun xA =>
  Option.bind (α := (List Int) × Int × (List Int)) (
   lp (σ := (List Int) × Int × (List Int) × Int) (fun gD (v8, x6, e7, o0) =>
    bif (decide (o0 < ((x1).length : Int))) then
     Option.bind (α := (List Int) × Int × (List Int)) (
      (idx x1 o0).bind fun x8 =>
      (quo64 (w64 (x0 * x8)) i3).bind fun y158 =>
      (apnd 8 v8 (([y158] : List Int))).bind fun y161 =>
      (idx e7 o0).bind fun nG =>
      (idx y161 o0).bind fun iA =>
      some (y161, (w64 (x6 - iA)), (List.set e7 (Int.toNat o0) o0))
      ) fun (m7, n7, g7) =>
     gD (m7, n7, g7, (w64 (o0 + (1 : Int))))
    else
     some (v8, x6, e7)
    ) big (tB, x0, xA, (0 : Int))
   ) fun (y8, j3, c8) =>
  (f46 c8 ((fun a0 a1 => f47 a0 a1 x0 x1 i3))).bind fun iD =>
  Option.bind (α := (List Int)) (
   (cut iD 0 j3).bind fun v6 =>
   lp (σ := (List Int) × Int) (fun jD (y6, u0) =>
    bif (decide (u0 < ((v6).length : Int))) then
     Option.bind (α := (List Int)) (
      (idx v6 u0).bind fun a7 =>
      (idx y6 a7).bind fun jA =>
      (idx y6 a7).bind fun oG =>
      some ((List.set y6 (Int.toNat a7) ((w64 (jA + (1 : Int))))))
      ) fun o7 =>
     jD (o7, (w64 (u0 + (1 : Int))))
    else
     some (y6)
    ) big (y8, (0 : Int))
   ) fun a9 =>
  some (a9, (0 : Int))
  ) fun iG =>
 (f45 ((0 : Int)) ((1000000000 : Int)) (([x0] : List Int))).bind fun vB =>
 bif (!vB) then
  some (([] : List Int), (3 : Int))
 else
  bif (decide (((x1).length : Int) > (10 : Int))) then
   some (([] : List Int), (5 : Int))
  else
   Option.bind (α := Bool) (
    (f45 ((0 : Int)) ((1000 : Int)) x1).bind fun yA =>
    bif (!yA) then
     some ((!yA))
    else
     some ((i3 == (0 : Int)))
    ) fun b7 =>
   bif b7 then
    some (([] : List Int), (2 : Int))
   else
    iG (([] : List Int))
theorem en20 : Enters Tryz.prog 20 := enters_of Tryz.func20 (by kernel_rfl) rfl
theorem wk20 {gI : Gh} {wI : World} {x0 : Int} {x1 : List Int} {up1 : Value} (rp1 : RV gI.m wI x1 up1) {r : (List Int) × Int} (h : f20 x0 x1 = some r) : Fn Tryz.prog 20 #[.int .i64 (x0), up1] gI wI (fun m w v => ∃ y0 y1, v = .tuple #[y0, y1] ∧ RV m w (r.1) y0 ∧ y1 = .int .i64 (r.2)) := by
 unfold f20 at h
 refine fn_of_E Tryz.func20 rfl (Nat.le_of_ble_eq_true rfl) fun g0 hm hfr => ?_
 have rp1 : RV g0.m wI x1 up1 := hm ▸ rp1
 show E _ 91 none _ _ _ _ _
 refine E_seq (E_region (EL_do .plain rfl (D_box (g := g0) rfl (RV_int.2 rfl) fun g1 w1 p1 hs q1 => ?_)))
 have hfr := hfr.ext hs
 have rp1 := rp1.ext hs
 refine EL_do .plain rfl (D_box (g := g1) rfl rp1 fun g2 w2 p2 hs q2 => ?_)
 have hfr := hfr.ext hs
 have q1 := q1.ext hs
 refine EL_at (.slice none 0 0) rfl rfl ?_
 have b3 : OA 4004 g2 w2 3 ([] : List Int) (.slice none 0 0) := OA.nil
 refine EL_at (.int .i64 (0)) rfl rfl ?_
 refine EL_nil (thn_n (E_seq (E_region (EL_do .plain rfl (D_allocOc (g := g2) 2006 (0 : Int) Tryz.zeroValue3 (fun m w => ⟨_, rep_int, rfl⟩) fun g4 w4 p4 hs b4 cb => ?_)))))
 have hfr := hfr.stp hs
 have q1 := q1.stp hs
 have q2 := q2.stp hs
 have b3 := b3.stp hs rfl
 clear cb
 refine EL_do .plain rfl (D_storeOc (g := g4) (v := .int .i64 (0)) Tryz.sizeOf3 rfl b4 rfl (RV_int.2 rfl) fun g5 w5 hs b5 cb => ?_)
 clear cb
 have hfr := hfr.stp hs
 have q1 := q1.stp hs
 have q2 := q2.stp hs
 have b3 := b3.stp hs rfl
 refine EL_nil (thn_n ?_)
 obtain ⟨i3, hx, h⟩ := bsome h
 refine E_join (fun e w => ∃ (g : Gh) , Fr gI wI g w ∧ e 2 = p1 ∧ PT g.m w (x0 : Int) p1 ∧ e 3 = p2 ∧ PT g.m w (x1 : List Int) p2 ∧ e 4 = .slice none 0 0 ∧ OA 4004 g w 3 (([] : List Int) : List Int) (Value.slice none 0 0) ∧ e 6 = p4 ∧ OB 2006 g w 3 (i3 : Int) p4) (fun Q' hQ => ?_) (fun tI yJ hR => ?_)
 ·replace h := hx
  clear hx
  refine E_seq (E_region (EL_do .plain rfl (D_load (g := g5) Tryz.isAgg25 Tryz.sizeOf25 rfl q2 fun zA jG => ?_)))
  refine EL_p (.int .i64 ((x1).length : Int)) (P_len Tryz.underlying25 rfl jG) rfl ?_
  refine EL_mw (.int .i64 (0)) rfl rfl ?_
  refine EL_nil (thn_n (E_block ?_))
  refine E_lp h (fun (s : Int × Int) e w => ∃ (g : Gh) , Fr gI wI g w ∧ e 2 = p1 ∧ PT g.m w (x0 : Int) p1 ∧ e 3 = p2 ∧ PT g.m w (x1 : List Int) p2 ∧ e 4 = .slice none 0 0 ∧ OA 4004 g w 3 (([] : List Int) : List Int) (Value.slice none 0 0) ∧ e 6 = p4 ∧ OB 2006 g w 3 (s.1 : Int) p4 ∧ e 15 = zA ∧ RV g.m w (x1 : List Int) zA ∧ e 16 = .int .i64 (((x1).length : Int)) ∧ e 17 = .int .i64 (s.2)) ⟨g5, hfr, rfl, q1, rfl, q2, rfl, b3, rfl, b5, rfl, jG, rfl, rfl⟩ (fun X22 hG pG => ?_)
  rintro ⟨j7, z2⟩ uI zJ ⟨xB, hfr, yB, m8, zB, n8, aC, o8, q8, kA, aB, c7, bB, d9⟩ h
  refine E_seq (E_region (EL_in (.bool ((decide (z2 < ((x1).length : Int))))) d9 bB rfl rfl ?_))
  refine EL_nil (thn_n (E_seq ?_))
  rcases csome h with ⟨kB, h⟩ | ⟨kB, h⟩
  ·refine E_ct kB rfl ?_
   refine E_skip (thn_n ?_)
   obtain ⟨l8, hx, h⟩ := bsome h
   refine E_join (fun e w => ∃ (g : Gh) , Fr gI wI g w ∧ e 2 = p1 ∧ PT g.m w (x0 : Int) p1 ∧ e 3 = p2 ∧ PT g.m w (x1 : List Int) p2 ∧ e 4 = .slice none 0 0 ∧ OA 4004 g w 3 (([] : List Int) : List Int) (Value.slice none 0 0) ∧ e 6 = p4 ∧ OB 2006 g w 3 (l8 : Int) p4 ∧ e 15 = zA ∧ RV g.m w (x1 : List Int) zA ∧ e 16 = .int .i64 (((x1).length : Int)) ∧ e 17 = .int .i64 (z2)) (fun Q' hQ => ?_) (fun vI aK hR => ?_)
   ·replace h := hx
    clear hx
    refine E_block ?_
    refine E_seq (E_region ?_)
    obtain ⟨k8, kD, h⟩ := bsome h
    refine EL_p (ePtr zA z2 1) (P_indexAddr (α := Int) Tryz.underlying25 Tryz.sizeOf3 aB c7 d9 kD) rfl ?_
    have oH := PT_idx c7 kD
    refine EL_do .plain rfl (D_load (g := xB) Tryz.isAgg3 Tryz.sizeOf3 rfl oH fun bK pH => ?_)
    obtain rfl := RV_int.1 pH
    refine EL_at (.int .i64 (k8)) rfl rfl ?_
    refine EL_nil (thn_n (E_region (EL_do .plain rfl (D_loadO (g := xB) Tryz.isAgg3 Tryz.sizeOf3 q8 kA fun cK qH => ?_))))
    obtain rfl := RV_int.1 qH
    refine EL_mw (.int .i64 (k8)) rfl rfl ?_
    refine EL_p (.int .i64 (max64 k8 (0 : Int))) (P_max rfl rfl) rfl ?_
    refine EL_p (.int .i64 (min64 (max64 k8 (0 : Int)) (1000 : Int))) (P_min rfl rfl) rfl ?_
    refine EL_p (.int .i64 ((w64 (j7 + (min64 (max64 k8 (0 : Int)) (1000 : Int)))))) (P_int rfl rfl rfl) rfl ?_
    refine EL_do .plain rfl (D_storeOc (g := xB) (v := .int .i64 ((w64 (j7 + (min64 (max64 k8 (0 : Int)) (1000 : Int)))))) Tryz.sizeOf3 q8 kA rfl (RV_int.2 rfl) fun sH dK hs b34 cb => ?_)
    clear cb
    have hfr := hfr.stp hs
    have m8 := m8.stp hs
    have n8 := n8.stp hs
    have o8 := o8.stp hs rfl
    have c7 := c7.stp hs
    refine EL_nil (blk_n ?_)
    obtain rfl := sinj h
    exact hQ _ _ ⟨sH, hfr, yB, m8, zB, n8, aC, o8, q8, b34, aB, c7, bB, d9⟩
   ·clear hx
    obtain ⟨tH, hfr, yE, zE, cF, dF, eF, iF, nF, oF, lD, mD, nD, oD⟩ := hR
    refine E_region (EL_in (.int .i64 ((w64 (z2 + (1 : Int))))) oD rfl rfl rfl ?_)
    refine EL_mw (.int .i64 ((w64 (z2 + (1 : Int))))) rfl rfl ?_
    exact EL_nil (thn_n (pG (l8, (w64 (z2 + (1 : Int)))) _ _ ⟨tH, hfr, yE, zE, cF, dF, eF, iF, nF, oF, lD, mD, nD, rfl⟩ h))
  ·refine E_cf kB rfl ?_
   refine E_exit ?_
   refine thn_e ?_
   refine thn_e ?_
   refine blk_hit ?_
   obtain rfl := sinj h
   exact hQ _ _ ⟨xB, hfr, yB, m8, zB, n8, aC, o8, q8, kA⟩
 ·clear hx
  obtain ⟨kG, hfr, lA, q5, r8, z4, cC, i6, mA, t5⟩ := hR
  refine E_joinC h (fun (s : (List Int)) e w => ∃ (g : Gh) (v4 : Value), Fr gI wI g w ∧ e 2 = p1 ∧ PT g.m w (x0 : Int) p1 ∧ e 3 = p2 ∧ PT g.m w (x1 : List Int) p2 ∧ e 4 = v4 ∧ OA 4004 g w 3 (s : List Int) v4 ∧ e 6 = p4 ∧ OB 2006 g w 3 (i3 : Int) p4) (fun X62 iG qG h => ?_) ?_
  ·refine E_block ?_
   refine E_seq (E_region (EL_do .plain rfl (D_load (g := kG) Tryz.isAgg3 Tryz.sizeOf3 lA q5 fun eK uH => ?_)))
   obtain rfl := RV_int.1 uH
   refine EL_do .plain rfl (D_buildSlice (g := kG) 3029 (xs := ([x0] : List Int)) (vs := [.int .i64 (x0)]) Tryz.underlying25 Tryz.sizeOf3 Tryz.zeroValue3 rfl rfl (.cons rfl .nil) (RVs.cons (RV_int.2 rfl) RVs.nil) rfl rfl fun vH lK xH hs o65 yH hxt hfl => ?_)
   have hfr := hfr.stp hs
   have q5 := q5.stp hs
   have z4 := z4.stp hs
   have i6 := i6.stp hs rfl
   have t5 := t5.stp hs rfl
   obtain ⟨vB, rG, h⟩ := bsome h
   refine EL_do .plain rfl (D_call (g := vH) (vs := [.int .i64 (0), .int .i64 (1000000000), xH]) en45 (.cons rfl (.cons rfl (.cons rfl .nil))) (wk45 yH rG) fun cB sD mK hs hr => ?_)
   have hfr := hfr.ext hs
   have q5 := q5.ext hs
   have z4 := z4.ext hs
   have i6 := i6.ext hs
   have t5 := t5.ext hs
   subst hr
   refine EL_p (.bool (!vB)) (P_not rfl) rfl ?_
   refine EL_at (.bool (!vB)) rfl rfl ?_
   refine EL_nil (thn_n ?_)
   rcases csome h with ⟨lB, h⟩ | ⟨lB, h⟩
   ·refine E_ct lB rfl ?_
    refine E_seq (E_region (EL_at (.slice none 0 0) rfl rfl ?_))
    have b69 : OA 4004 cB sD 3 ([] : List Int) (.slice none 0 0) := OA.nil
    refine EL_at (.int .i64 (3)) rfl rfl ?_
    refine EL_nil (thn_n (E_ret (blk_r ?_)))
    refine thn_r ?_
    obtain ⟨gp70, hs, rp70⟩ := OM.pub (b69.toM)
    have hfr := hfr.stp hs
    obtain rfl := sinj h
    exact end2 rfl rfl (show _ = .slice none 0 0 from rfl) (show _ = .int .i64 (3) from rfl) ⟨_, hfr, _, _, rfl, rp70, rfl⟩
   ·refine E_cf lB rfl ?_
    refine E_seq (E_region (EL_do .plain rfl (D_load (g := cB) Tryz.isAgg25 Tryz.sizeOf25 r8 z4 fun nK zH => ?_)))
    refine EL_p (.int .i64 ((x1).length : Int)) (P_len Tryz.underlying25 rfl zH) rfl ?_
    refine EL_in (.bool ((decide (((x1).length : Int) > (10 : Int))))) rfl rfl rfl rfl ?_
    refine EL_at (.bool ((decide (((x1).length : Int) > (10 : Int))))) rfl rfl ?_
    refine EL_nil (thn_n ?_)
    rcases csome h with ⟨mB, h⟩ | ⟨mB, h⟩
    ·refine E_ct mB rfl ?_
     refine E_seq (E_region (EL_at (.slice none 0 0) rfl rfl ?_))
     have b73 : OA 4004 cB sD 3 ([] : List Int) (.slice none 0 0) := OA.nil
     refine EL_at (.int .i64 (5)) rfl rfl ?_
     refine EL_nil (thn_n (E_ret (blk_r ?_)))
     refine thn_r ?_
     obtain ⟨gp74, hs, rp74⟩ := OM.pub (b73.toM)
     have hfr := hfr.stp hs
     obtain rfl := sinj h
     exact end2 rfl rfl (show _ = .slice none 0 0 from rfl) (show _ = .int .i64 (5) from rfl) ⟨_, hfr, _, _, rfl, rp74, rfl⟩
    ·refine E_cf mB rfl ?_
     obtain ⟨b7, hx, h⟩ := bsome h
     refine E_join (fun e w => ∃ (g : Gh) , Fr gI wI g w ∧ e 2 = p1 ∧ PT g.m w (x0 : Int) p1 ∧ e 3 = p2 ∧ PT g.m w (x1 : List Int) p2 ∧ e 4 = .slice none 0 0 ∧ OA 4004 g w 3 (([] : List Int) : List Int) (Value.slice none 0 0) ∧ e 6 = p4 ∧ OB 2006 g w 3 (i3 : Int) p4 ∧ e 36 = .bool (b7)) (fun Q' hQ => ?_) (fun xI aI hR => ?_)
     ·replace h := hx
      clear hx
      refine E_seq (E_region (EL_do .plain rfl (D_load (g := cB) Tryz.isAgg25 Tryz.sizeOf25 r8 z4 fun bI cI => ?_)))
      obtain ⟨yA, sG, h⟩ := bsome h
      refine EL_do .plain rfl (D_call (g := cB) (vs := [.int .i64 (0), .int .i64 (1000), bI]) en45 (.cons rfl (.cons rfl (.cons rfl .nil))) (wk45 cI sG) fun tD yI oK hs hr => ?_)
      have hfr := hfr.ext hs
      have q5 := q5.ext hs
      have z4 := z4.ext hs
      have i6 := i6.ext hs
      have t5 := t5.ext hs
      subst hr
      refine EL_p (.bool (!yA)) (P_not rfl) rfl ?_
      refine EL_at (.bool (!yA)) rfl rfl ?_
      refine EL_nil (thn_n ?_)
      rcases csome h with ⟨nB, h⟩ | ⟨nB, h⟩
      ·refine E_ct nB rfl ?_
       refine E_skip ?_
       obtain rfl := sinj h
       exact hQ _ _ ⟨tD, hfr, lA, q5, r8, z4, cC, i6, mA, t5, rfl⟩
      ·refine E_cf nB rfl ?_
       refine E_region (EL_do .plain rfl (D_loadO (g := tD) Tryz.isAgg3 Tryz.sizeOf3 mA t5 fun pK dI => ?_))
       obtain rfl := RV_int.1 dI
       refine EL_in (.bool ((i3 == (0 : Int)))) rfl rfl rfl rfl ?_
       refine EL_at (.bool ((i3 == (0 : Int)))) rfl rfl ?_
       refine EL_nil ?_
       obtain rfl := sinj h
       exact hQ _ _ ⟨tD, hfr, lA, q5, r8, z4, cC, i6, mA, t5, rfl⟩
     ·clear hx
      obtain ⟨lG, hfr, pF, qF, rF, sF, tF, uF, vF, xF, dB⟩ := hR
      rcases csome h with ⟨oB, h⟩ | ⟨oB, h⟩
      ·refine E_cond_true (Eq.trans (show ev _ _ = .bool (b7) from dB) (congrArg Value.bool oB)) ?_
       refine E_seq (E_region (EL_at (.slice none 0 0) rfl rfl ?_))
       have b87 : OA 4004 lG aI 3 ([] : List Int) (.slice none 0 0) := OA.nil
       refine EL_at (.int .i64 (2)) rfl rfl ?_
       refine EL_nil (thn_n (E_ret (blk_r ?_)))
       refine thn_r ?_
       obtain ⟨gp88, hs, rp88⟩ := OM.pub (b87.toM)
       have hfr := hfr.stp hs
       obtain rfl := sinj h
       exact end2 rfl rfl (show _ = .slice none 0 0 from rfl) (show _ = .int .i64 (2) from rfl) ⟨_, hfr, _, _, rfl, rp88, rfl⟩
      ·refine E_cond_false (Eq.trans (show ev _ _ = .bool (b7) from dB) (congrArg Value.bool oB)) ?_
       exact E_skip (blk_n (thn_n (qG (([] : List Int)) _ _ ⟨lG, (.slice none 0 0), hfr, pF, qF, rF, sF, tF, uF, vF, xF⟩ h)))
  ·rintro tB zI qK ⟨iI, yF, hfr, dC, t8, nA, u7, zF, oA, aG, pA⟩ h
   refine E_seq (L_load (x := .tmp 2) Tryz.isAgg3 Tryz.sizeOf3 t8 fun sK jI tG => ?_)
   obtain rfl := RV_int.1 jI
   refine L_load (x := .tmp 3) Tryz.isAgg25 Tryz.sizeOf25 u7 fun kI lI uG => ?_
   obtain ⟨xA, vG, h⟩ := bsome h
   refine E_drawL (g := iI) (n := 6) [(3, (fun v g w => OM 9045 g w 3 xA v))] [0, 1, 2, 3, 4, 5] rfl mixed (by kernel_rfl) (⟨fun _ => up_om, trivial⟩) ?_
   refine L_ld (c := .int .i64 (x0)) rfl rfl .plain (fun _ _ h => h.ch) tG dC ?_
   refine L_ld (c := kI) rfl rfl .plain (fun _ _ h => h.ch) uG nA ?_
   refine L_p (.int .i64 ((x1).length : Int)) rfl rfl (P_len Tryz.underlying25 rfl lI) ?_
   refine L_do (φ := fun v g w => OM 9045 g w 3 xA v) rfl rfl .plain (fun g w hd => D_makeSliceX (g := g) 9045 (0 : Int) rfl Tryz.underlying25 info_3 rfl (fun _ _ => rfl) rfl rfl vG fun g' w' v hs b => ⟨g', hs, b⟩) (fun l5 hv => ?_)
   clear hv
   refine L_p (.int .i64 (x0)) rfl rfl (P_assign rfl) ?_
   refine L_p l5 rfl rfl (P_assign rfl) ?_
   refine L_nil fun mG tK hall => ?_
   have hs := hall.1
   have hfr := hfr.ext hs
   have t8 := t8.ext hs
   have u7 := u7.ext hs
   have oA := oA.ext hs
   have pA := pA.ext hs
   have b104 := (word_all (A := fun g w => OM 9045 g w 3 xA l5) 3 rfl hall)
   clear hs hall
   refine EL_nil (thn_n ?_)
   obtain ⟨⟨y8, j3, c8⟩, hx, h⟩ := bsome h
   refine E_join (fun e w => ∃ (g : Gh) (v4 : Value), Fr gI wI g w ∧ e 2 = p1 ∧ PT g.m w (x0 : Int) p1 ∧ e 3 = p2 ∧ PT g.m w (x1 : List Int) p2 ∧ e 4 = v4 ∧ OA 4004 g w 3 (y8 : List Int) v4 ∧ e 6 = p4 ∧ OB 2006 g w 3 (i3 : Int) p4 ∧ e 9 = .int .i64 (j3) ∧ e 10 = l5 ∧ OM 9045 g w 3 (c8 : List Int) l5) (fun Q' hQ => ?_) (fun mI aJ hR => ?_)
   ·replace h := hx
    clear hx
    refine E_seq (E_region (EL_do .plain rfl (D_load (g := mG) Tryz.isAgg25 Tryz.sizeOf25 nA u7 fun e9 uD => ?_)))
    refine EL_p (.int .i64 ((x1).length : Int)) (P_len Tryz.underlying25 rfl uD) rfl ?_
    refine EL_mw (.int .i64 (0)) rfl rfl ?_
    refine EL_nil (thn_n (E_block ?_))
    refine E_lp h (fun (s : (List Int) × Int × (List Int) × Int) e w => ∃ (g : Gh) (v4 : Value), Fr gI wI g w ∧ e 2 = p1 ∧ PT g.m w (x0 : Int) p1 ∧ e 3 = p2 ∧ PT g.m w (x1 : List Int) p2 ∧ e 4 = v4 ∧ OA 4004 g w 3 (s.1 : List Int) v4 ∧ e 6 = p4 ∧ OB 2006 g w 3 (i3 : Int) p4 ∧ e 9 = .int .i64 (s.2.1) ∧ e 10 = l5 ∧ OM 9045 g w 3 (s.2.2.1 : List Int) l5 ∧ e 46 = e9 ∧ RV g.m w (x1 : List Int) e9 ∧ e 47 = .int .i64 (((x1).length : Int)) ∧ e 48 = .int .i64 (s.2.2.2)) ⟨mG, (yF), hfr, dC, t8, nA, u7, zF, oA, aG, pA, rfl, rfl, b104, rfl, uD, rfl, rfl⟩ (fun X137 gD bG => ?_)
    rintro ⟨v8, x6, e7, o0⟩ nI bJ ⟨i9, vD, hfr, k9, o3, eB, i5, iB, v7, l9, u3, jB, e8, z3, u9, j1, y9, i7⟩ h
    refine E_seq (E_region (EL_in (.bool ((decide (o0 < ((x1).length : Int))))) i7 y9 rfl rfl ?_))
    refine EL_nil (thn_n (E_seq ?_))
    rcases csome h with ⟨qA, h⟩ | ⟨qA, h⟩
    ·refine E_ct qA rfl ?_
     refine E_skip (thn_n ?_)
     obtain ⟨⟨m7, n7, g7⟩, hx, h⟩ := bsome h
     refine E_join (fun e w => ∃ (g : Gh) (v4 : Value), Fr gI wI g w ∧ e 2 = p1 ∧ PT g.m w (x0 : Int) p1 ∧ e 3 = p2 ∧ PT g.m w (x1 : List Int) p2 ∧ e 4 = v4 ∧ OA 4004 g w 3 (m7 : List Int) v4 ∧ e 6 = p4 ∧ OB 2006 g w 3 (i3 : Int) p4 ∧ e 9 = .int .i64 (n7) ∧ e 10 = l5 ∧ OM 9045 g w 3 (g7 : List Int) l5 ∧ e 46 = e9 ∧ RV g.m w (x1 : List Int) e9 ∧ e 47 = .int .i64 (((x1).length : Int)) ∧ e 48 = .int .i64 (o0)) (fun Q' hQ => ?_) (fun oI cJ hR => ?_)
     ·replace h := hx
      clear hx
      refine E_block ?_
      refine E_seq (E_region (EL_mv i7 rfl ?_))
      obtain ⟨x8, eC, h⟩ := bsome h
      refine EL_p (ePtr e9 o0 1) (P_indexAddr (α := Int) Tryz.underlying25 Tryz.sizeOf3 u9 j1 i7 eC) rfl ?_
      have xG := PT_idx j1 eC
      refine EL_do .plain rfl (D_load (g := i9) Tryz.isAgg3 Tryz.sizeOf3 rfl xG fun dJ yG => ?_)
      obtain rfl := RV_int.1 yG
      refine EL_at (.int .i64 (o0)) rfl rfl ?_
      refine EL_at (.int .i64 (x8)) rfl rfl ?_
      refine EL_nil (thn_n (E_seq (E_region (EL_mv e8 rfl ?_))))
      refine EL_mw (.int .i64 (o0)) rfl rfl ?_
      refine EL_mv iB rfl ?_
      refine EL_do .plain rfl (D_load (g := i9) Tryz.isAgg3 Tryz.sizeOf3 k9 o3 fun eJ zG => ?_)
      obtain rfl := RV_int.1 zG
      refine EL_mw (.int .i64 (x8)) rfl rfl ?_
      refine EL_in (.int .i64 ((w64 (x0 * x8)))) rfl rfl rfl rfl ?_
      refine EL_do .plain rfl (D_loadO (g := i9) Tryz.isAgg3 Tryz.sizeOf3 l9 u3 fun gJ aH => ?_)
      obtain rfl := RV_int.1 aH
      obtain ⟨y158, cG, h⟩ := bsome h
      refine EL_p (.int .i64 (y158)) (P_int rfl rfl (congrArg (Option.map (Value.int .i64)) cG)) rfl ?_
      refine EL_do .plain rfl (D_buildSlice (g := i9) 3061 (xs := ([y158] : List Int)) (vs := [.int .i64 (y158)]) Tryz.underlying25 Tryz.sizeOf3 Tryz.zeroValue3 rfl rfl (.cons rfl .nil) (RVs.cons (RV_int.2 rfl) RVs.nil) rfl rfl fun bH iJ jJ hs o159 cH hxt hfl => ?_)
      have hfr := hfr.stp hs
      have o3 := o3.stp hs
      have i5 := i5.stp hs
      have v7 := v7.stp hs rfl
      have u3 := u3.stp hs rfl
      have z3 := z3.stp hs rfl
      have j1 := j1.stp hs
      obtain ⟨y161, dG, h⟩ := bsome h
      refine EL_do .plain rfl (D_appendA (g := bH) plain_int (i := 4004) Tryz.underlying25 info_3 rfl rfl v7 rfl cH dG fun dH kJ rA hs b160 => ?_)
      have hfr := hfr.stp hs
      have o3 := o3.stp hs
      have i5 := i5.stp hs
      have u3 := u3.stp hs rfl
      have z3 := z3.stp hs rfl
      have j1 := j1.stp hs
      refine EL_mw (.int .i64 (o0)) rfl rfl ?_
      refine EL_at rA rfl rfl ?_
      obtain ⟨nG, iC, h⟩ := bsome h
      refine EL_p (ePtr l5 o0 1) (P_indexAddrM (α := Int) Tryz.underlying25 Tryz.sizeOf3 rfl z3 rfl iC) rfl ?_
      refine EL_do .plain rfl (D_storeM (g := dH) (α := Int) (a' := o0) Tryz.sizeOf3 rfl z3 iC rfl (RV_int.2 rfl) fun xD lJ hs b163 => ?_)
      have hfr := hfr.stp hs
      have o3 := o3.stp hs
      have i5 := i5.stp hs
      have b160 := b160.stp hs rfl
      have u3 := u3.stp hs rfl
      have j1 := j1.stp hs
      refine EL_nil (thn_n (E_region (EL_mv jB rfl ?_)))
      refine EL_mw rA rfl rfl ?_
      refine EL_mw (.int .i64 (o0)) rfl rfl ?_
      obtain ⟨iA, jC, h⟩ := bsome h
      refine EL_p (ePtr rA o0 1) (P_indexAddrM (α := Int) Tryz.underlying25 Tryz.sizeOf3 rfl (b160.toM) rfl jC) rfl ?_
      refine EL_do .plain rfl (D_loadM (g := xD) Tryz.isAgg3 Tryz.sizeOf3 rfl (b160.toM) jC fun mJ gH => ?_)
      obtain rfl := RV_int.1 gH
      refine EL_in (.int .i64 ((w64 (x6 - iA)))) rfl rfl rfl rfl ?_
      refine EL_at (.int .i64 ((w64 (x6 - iA)))) rfl rfl ?_
      refine EL_nil (blk_n ?_)
      obtain ⟨rfl, rfl, rfl⟩ := pairs3 h
      exact hQ _ _ ⟨xD, (rA), hfr, k9, o3, eB, i5, rfl, b160, l9, u3, rfl, e8, b163, u9, j1, y9, i7⟩
     ·clear hx
      obtain ⟨iH, yD, hfr, zD, aE, bE, cE, dE, eE, gE, iE, jE, rC, tC, uC, vC, xC, yC⟩ := hR
      refine E_region (EL_in (.int .i64 ((w64 (o0 + (1 : Int))))) yC rfl rfl rfl ?_)
      refine EL_mw (.int .i64 ((w64 (o0 + (1 : Int))))) rfl rfl ?_
      exact EL_nil (thn_n (bG (m7, n7, g7, (w64 (o0 + (1 : Int)))) _ _ ⟨iH, (yD), hfr, zD, aE, bE, cE, dE, eE, gE, iE, jE, rC, tC, uC, vC, xC, rfl⟩ h))
    ·refine E_cf qA rfl ?_
     refine E_exit ?_
     refine thn_e ?_
     refine thn_e ?_
     refine blk_hit ?_
     obtain ⟨rfl, rfl, rfl⟩ := pairs3 h
     exact hQ _ _ ⟨i9, (vD), hfr, k9, o3, eB, i5, iB, v7, l9, u3, jB, e8, z3⟩
   ·clear hx
    obtain ⟨nJ, d3, hfr, kE, n9, lE, o9, mE, x5, nE, oE, rE, z9, g8⟩ := hR
    refine E_seq (E_region (EL_mv z9 rfl ?_))
    obtain ⟨gp168, hs, rp168⟩ := OB.pub oE
    have hfr := hfr.stp hs
    have n9 := n9.stp hs
    have o9 := o9.stp hs
    have x5 := x5.stp hs rfl
    have g8 := g8.stp hs rfl
    refine EL_p ((.func (.func 47) #[] #[p1, p2, p4])) (P_makeFunc (capf_0_3 (show ev _ _ = p1 from kE) (show ev _ _ = p2 from lE) (show ev _ _ = p4 from nE))) rfl ?_
    obtain ⟨iD, eG, h⟩ := bsome h
    refine EL_do .plain rfl (D_callM (g := gp168) (i := 9045) (vs := [l5, (.func (.func 47) #[] #[p1, p2, p4])]) en46 (.cons rfl (.cons rfl .nil)) (wk46 g8 ⟨47, #[], #[p1, p2, p4], rfl, en47, fun g' w' hch a0 a1 b0 b1 r hu0 hu1 hr => by obtain rfl := RV_int.1 hu0; obtain rfl := RV_int.1 hu1; exact Fn.mono (wk47  (n9.ch hch) (o9.ch hch) (rp168.ch hch) hr) fun _ _ _ h => RV_int.2 h⟩ eG) fun oJ pI pJ hs hr => ?_)
    obtain ⟨hrv, b169⟩ := hr
    have hfr := hfr.stp hs
    have x5 := x5.stp hs rfl
    subst hrv
    refine EL_nil (thn_n ?_)
    obtain ⟨a9, hx, h⟩ := bsome h
    refine E_join (fun e w => ∃ (g : Gh) , Fr gI wI g w ∧ e 4 = d3 ∧ OA 4004 g w 3 (a9 : List Int) d3) (fun Q' hQ => ?_) (fun qI qJ hR => ?_)
    ·replace h := hx
     clear hx
     refine E_seq (E_region (EL_mv z9 rfl ?_))
     refine EL_mv rE rfl ?_
     obtain ⟨gp192, hs, rp192⟩ := OM.pub b169
     have hfr := hfr.stp hs
     have x5 := x5.stp hs rfl
     obtain ⟨v6, kC, h⟩ := bsome h
     have sE := RV_cut rp192 kC
     refine EL_p ((cutV l5 (Int.toNat 0) (Int.toNat j3) 1)) (P_slice Tryz.underlying25 Tryz.sizeOf3 rfl rp192 rfl rfl kC) rfl ?_
     refine EL_p (.int .i64 ((v6).length : Int)) (P_len Tryz.underlying25 rfl sE) rfl ?_
     refine EL_mw (.int .i64 (0)) rfl rfl ?_
     refine EL_nil (thn_n (E_block ?_))
     refine E_lp h (fun (s : (List Int) × Int) e w => ∃ (g : Gh) , Fr gI wI g w ∧ e 4 = d3 ∧ OA 4004 g w 3 (s.1 : List Int) d3 ∧ e 77 = (cutV l5 (Int.toNat 0) (Int.toNat j3) 1) ∧ RV g.m w (v6 : List Int) (cutV l5 (Int.toNat 0) (Int.toNat j3) 1) ∧ e 78 = .int .i64 (((v6).length : Int)) ∧ e 79 = .int .i64 (s.2)) ⟨gp192, hfr, mE, x5, rfl, sE, rfl, rfl⟩ (fun X195 jD gG => ?_)
     rintro ⟨y6, u0⟩ rI rJ ⟨sA, hfr, t9, d7, bA, j6, gA, i8⟩ h
     refine E_seq (E_region (EL_in (.bool ((decide (u0 < ((v6).length : Int))))) i8 gA rfl rfl ?_))
     refine EL_nil (thn_n (E_seq ?_))
     rcases csome h with ⟨uA, h⟩ | ⟨uA, h⟩
     ·refine E_ct uA rfl ?_
      refine E_skip (thn_n ?_)
      obtain ⟨o7, hx, h⟩ := bsome h
      refine E_join (fun e w => ∃ (g : Gh) , Fr gI wI g w ∧ e 4 = d3 ∧ OA 4004 g w 3 (o7 : List Int) d3 ∧ e 77 = (cutV l5 (Int.toNat 0) (Int.toNat j3) 1) ∧ RV g.m w (v6 : List Int) (cutV l5 (Int.toNat 0) (Int.toNat j3) 1) ∧ e 78 = .int .i64 (((v6).length : Int)) ∧ e 79 = .int .i64 (u0)) (fun Q' hQ => ?_) (fun sI sJ hR => ?_)
      ·replace h := hx
       clear hx
       refine E_block ?_
       refine E_seq (E_region ?_)
       obtain ⟨a7, lC, h⟩ := bsome h
       refine EL_p (ePtr ((cutV l5 (Int.toNat 0) (Int.toNat j3) 1)) u0 1) (P_indexAddr (α := Int) Tryz.underlying25 Tryz.sizeOf3 bA j6 i8 lC) rfl ?_
       have jH := PT_idx j6 lC
       refine EL_do .plain rfl (D_load (g := sA) Tryz.isAgg3 Tryz.sizeOf3 rfl jH fun tJ kH => ?_)
       obtain rfl := RV_int.1 kH
       refine EL_at (.int .i64 (a7)) rfl rfl ?_
       refine EL_nil (thn_n (E_region (EL_mv t9 rfl ?_)))
       refine EL_mw (.int .i64 (a7)) rfl rfl ?_
       obtain ⟨jA, mC, h⟩ := bsome h
       refine EL_p (ePtr d3 a7 1) (P_indexAddrM (α := Int) Tryz.underlying25 Tryz.sizeOf3 rfl (d7.toM) rfl mC) rfl ?_
       refine EL_do .plain rfl (D_loadM (g := sA) Tryz.isAgg3 Tryz.sizeOf3 rfl (d7.toM) mC fun uJ lH => ?_)
       obtain rfl := RV_int.1 lH
       refine EL_in (.int .i64 ((w64 (jA + (1 : Int))))) rfl rfl rfl rfl ?_
       obtain ⟨oG, qC, h⟩ := bsome h
       refine EL_p (ePtr d3 a7 1) (P_indexAddrM (α := Int) Tryz.underlying25 Tryz.sizeOf3 rfl (d7.toM) rfl qC) rfl ?_
       refine EL_do .plain rfl (D_storeA (g := sA) (α := Int) (a' := ((w64 (jA + (1 : Int))))) Tryz.sizeOf3 rfl d7 qC rfl (RV_int.2 rfl) fun mH vJ hs b211 => ?_)
       have hfr := hfr.stp hs
       have j6 := j6.stp hs
       refine EL_nil (blk_n ?_)
       obtain rfl := sinj h
       exact hQ _ _ ⟨mH, hfr, t9, b211, bA, j6, gA, i8⟩
      ·clear hx
       obtain ⟨nH, hfr, tE, uE, aD, bD, cD, eD⟩ := hR
       refine E_region (EL_in (.int .i64 ((w64 (u0 + (1 : Int))))) eD rfl rfl rfl ?_)
       refine EL_mw (.int .i64 ((w64 (u0 + (1 : Int))))) rfl rfl ?_
       exact EL_nil (thn_n (gG (o7, (w64 (u0 + (1 : Int)))) _ _ ⟨nH, hfr, tE, uE, aD, bD, cD, rfl⟩ h))
     ·refine E_cf uA rfl ?_
      refine E_exit ?_
      refine thn_e ?_
      refine thn_e ?_
      refine blk_hit ?_
      obtain rfl := sinj h
      exact hQ _ _ ⟨sA, hfr, t9, d7⟩
    ·clear hx
     obtain ⟨xJ, hfr, vE, xE⟩ := hR
     refine E_seq (E_region (EL_mv vE rfl ?_))
     refine EL_at d3 rfl rfl ?_
     refine EL_at (.int .i64 (0)) rfl rfl ?_
     refine EL_nil (thn_n (E_ret ?_))
     obtain ⟨gp214, hs, rp214⟩ := OM.pub (xE.toM)
     have hfr := hfr.stp hs
     obtain rfl := sinj h
     exact end2 rfl rfl (show _ = d3 from rfl) (show _ = .int .i64 (0) from rfl) ⟨_, hfr, _, _, rfl, rp214, rfl⟩
end Go.Proofs.YtcjpochjapnoaaaGreat
