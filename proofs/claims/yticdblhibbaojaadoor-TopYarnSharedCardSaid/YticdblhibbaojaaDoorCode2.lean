import Derived.Test.YticdblhibbaojaaDoorCode1
set_option maxRecDepth 8000
set_option maxHeartbeats 4000000
namespace Go.Proofs.YticdblhibbaojaaDoor
open Go.RowKit
def f61 : Nat → (List Int) → (Int) → (Int) → (Int) → (Int → Int → Option Int) → Option ((List Int))
 | 0, _, _, _, _, _ => none
 | n + 1, x0, x1, x2, x3, x4 =>
  jn (σ := (List Int)) (fun vB =>
   jn (σ := (List Int)) (fun nB =>
    (shr64 ((wu64 (w64 (x1 + x3)))) ((1 : Int))).bind fun l5 =>
    Option.bind (α := Int × Int) (
     bif (decide (x2 > (w64 l5))) then
      some ((w64 ((w64 ((w64 l5) + x2)) - x3)), (w64 l5))
     else
      some (x1, x2)
     ) fun (yF, aG) =>
    Option.bind (α := Int) (
     lp (σ := Int × Int) (fun xN (l8, l9) =>
      jn (σ := Unit) (fun _ =>
       (shr64 ((wu64 (w64 (l8 + l9)))) ((1 : Int))).bind fun g8 =>
       (idx nB (w64 ((w64 ((w64 ((w64 l5) + x2)) - (1 : Int))) - (w64 g8)))).bind fun zJ =>
       (idx nB (w64 g8)).bind fun aK =>
       (x4 zJ aK).bind fun bG =>
       bif (!(decide (bG < (0 : Int)))) then
        xN ((w64 ((w64 g8) + (1 : Int))), l9)
       else
        xN (l8, (w64 g8))
       ) fun nP =>
      bif (decide (l8 < l9)) then
       nP ()
      else
       some (l8)
      ) big (yF, aG)
     ) fun o0 =>
    Option.bind (α := (List Int)) (
     Option.bind (α := Bool) (
      bif (decide (o0 < x2)) then
       some ((decide (x2 < (w64 ((w64 ((w64 l5) + x2)) - o0)))))
      else
       some (false)
      ) fun zD =>
     bif zD then
      (f78 nB o0 x2 ((w64 ((w64 ((w64 l5) + x2)) - o0))) x4).bind fun oP =>
      some (oP)
     else
      some (nB)
     ) fun mE =>
    Option.bind (α := (List Int)) (
     Option.bind (α := Bool) (
      bif (decide (x1 < o0)) then
       some ((decide (o0 < (w64 l5))))
      else
       some (false)
      ) fun aE =>
     bif aE then
      (f61 n mE x1 o0 ((w64 l5)) x4).bind fun pP =>
      some (pP)
     else
      some (mE)
     ) fun oE =>
    Option.bind (α := Bool) (
     bif (decide ((w64 l5) < (w64 ((w64 ((w64 l5) + x2)) - o0)))) then
      some ((decide ((w64 ((w64 ((w64 l5) + x2)) - o0)) < x3)))
     else
      some (false)
     ) fun bE =>
    bif bE then
     (f61 n oE ((w64 l5)) ((w64 ((w64 ((w64 l5) + x2)) - o0))) x3 x4).bind fun sP =>
     some (sP)
    else
     some (oE)
    ) fun tP =>
   bif ((w64 (x3 - x2)) == (1 : Int)) then
    Option.bind (α := Int) (
     lp (σ := Int × Int) (fun yN (n8, n9) =>
      jn (σ := Unit) (fun _ =>
       (shr64 ((wu64 (w64 (n8 + n9)))) ((1 : Int))).bind fun lB =>
       (idx vB x2).bind fun bK =>
       (idx vB (w64 lB)).bind fun cK =>
       (x4 bK cK).bind fun cG =>
       bif (!(decide (cG < (0 : Int)))) then
        yN ((w64 ((w64 lB) + (1 : Int))), n9)
       else
        yN (n8, (w64 lB))
       ) fun uP =>
      bif (decide (n8 < n9)) then
       uP ()
      else
       some (n8)
      ) big (x1, x2)
     ) fun yB =>
    Option.bind (α := (List Int)) (
     lp (σ := (List Int) × Int) (fun vP (zB, t5) =>
      jn (σ := Unit) (fun _ =>
       Option.bind (α := (List Int)) (
        (idx zB (w64 (t5 - (1 : Int)))).bind fun zG =>
        (idx zB t5).bind fun dK =>
        (idx zB t5).bind fun zT =>
        (idx ((List.set zB (Int.toNat t5) zG)) (w64 (t5 - (1 : Int)))).bind fun aU =>
        some ((List.set ((List.set zB (Int.toNat t5) zG)) (Int.toNat (w64 (t5 - (1 : Int)))) dK))
        ) fun cF =>
       vP (cF, (w64 (t5 - (1 : Int))))
       ) fun xP =>
      bif (decide (t5 > yB)) then
       xP ()
      else
       some (zB)
      ) big (vB, x2)
     ) fun aH =>
    some (aH)
   else
    tP (vB)
   ) fun yP =>
  bif ((w64 (x2 - x1)) == (1 : Int)) then
   Option.bind (α := Int) (
    lp (σ := Int × Int) (fun zN (v8, aB) =>
     jn (σ := Unit) (fun _ =>
      (shr64 ((wu64 (w64 (v8 + aB)))) ((1 : Int))).bind fun mB =>
      (idx x0 (w64 mB)).bind fun lK =>
      (idx x0 x1).bind fun mK =>
      (x4 lK mK).bind fun cH =>
      bif (decide (cH < (0 : Int))) then
       zN ((w64 ((w64 mB) + (1 : Int))), aB)
      else
       zN (v8, (w64 mB))
      ) fun zP =>
     bif (decide (v8 < aB)) then
      zP ()
     else
      some (v8)
     ) big (x2, x3)
    ) fun oB =>
   Option.bind (α := (List Int)) (
    lp (σ := (List Int) × Int) (fun bQ (cC, i6) =>
     jn (σ := Unit) (fun _ =>
      Option.bind (α := (List Int)) (
       (idx cC (w64 (i6 + (1 : Int)))).bind fun gH =>
       (idx cC i6).bind fun nK =>
       (idx cC i6).bind fun bU =>
       (idx ((List.set cC (Int.toNat i6) gH)) (w64 (i6 + (1 : Int)))).bind fun cU =>
       some ((List.set ((List.set cC (Int.toNat i6) gH)) (Int.toNat (w64 (i6 + (1 : Int)))) nK))
       ) fun dF =>
      bQ (dF, (w64 (i6 + (1 : Int))))
      ) fun cQ =>
     bif (decide (i6 < (w64 (oB - (1 : Int))))) then
      cQ ()
     else
      some (cC)
     ) big (x0, x1)
    ) fun jH =>
   some (jH)
  else
   yP (x0)
theorem en61 : Enters Tryd.prog 61 := enters_of Tryd.func61 (by kernel_rfl) rfl
theorem wk61 (n : Nat) : ∀ {iI : Nat} {gI : Gh} {wI : World} {x0 : List Int} {x1 : Int} {x2 : Int} {x3 : Int} {x4 : Int → Int → Option Int} {up0 : Value} (mp0 : OM iI gI wI 3 x0 up0) {up4 : Value} (rp4 : FnV2 Tryd.prog x4 up4 gI wI) {r : (List Int)} (h : f61 n x0 x1 x2 x3 x4 = some r), FnM Tryd.prog 61 #[up0, .int .i64 (x1), .int .i64 (x2), .int .i64 (x3), up4] iI gI wI (fun g w v => v = .tuple #[] ∧ OM iI g w 3 r up0) := by
 induction n with
 | zero => intros; rename_i h; cases h
 | succ n ih =>
 intro iI gI wI x0 x1 x2 x3 x4 up0 mp0 up4 rp4 r h;simp only [f61] at h;refine fnM_of_E Tryd.func61 rfl (Nat.le_of_ble_eq_true rfl) fun g0 hm hfr => ?_;have yG := mp0;replace mp0 := mp0.enter;rw [← hm] at mp0
 replace hm : g0.m = gI.m := by rw [hm]
 obtain ⟨ff4, fa4, fc4, rfl, fen4, fcl4⟩ := rp4;show E _ 220 none _ _ _ _ _;refine E_joinC h (fun (s : (List Int)) e w => ∃ (g : Gh) , FrM iI gI wI g w ∧ e 0 = up0 ∧ OM 1 g w 3 (s : List Int) up0 ∧ e 1 = .int .i64 (x1) ∧ e 2 = .int .i64 (x2) ∧ e 3 = .int .i64 (x3) ∧ e 4 = (.func (.func ff4) fa4 fc4)) (fun X203 yP eS h => ?_) ?_
 ·refine E_seq (E_region (EL_mw (.int .i64 (x2)) rfl rfl ?_))
  refine EL_mw (.int .i64 (x1)) rfl rfl ?_;refine EL_in (.int .i64 ((w64 (x2 - x1)))) rfl rfl rfl rfl ?_;refine EL_in (.bool (((w64 (x2 - x1)) == (1 : Int)))) rfl rfl rfl rfl ?_;refine EL_nil (thn_n ?_);rcases csome h with ⟨oK, h⟩ | ⟨oK, h⟩
  ·refine E_ct oK rfl ?_
   refine E_seq (E_region (EL_mw (.int .i64 (x2)) rfl rfl ?_));refine EL_at (.int .i64 (x2)) rfl rfl ?_;refine EL_nil (thn_n (E_seq (E_region (EL_mw (.int .i64 (x3)) rfl rfl ?_))));refine EL_at (.int .i64 (x3)) rfl rfl ?_;refine EL_nil (thn_n ?_);obtain ⟨oB, hx, h⟩ := bsome h;refine E_join (fun e w => ∃ (g : Gh) , FrM iI gI wI g w ∧ e 0 = up0 ∧ OM 1 g w 3 (x0 : List Int) up0 ∧ e 1 = .int .i64 (x1) ∧ e 10 = .int .i64 (oB)) (fun Q' hQ => ?_) (fun nV tW hR => ?_)
   ·replace h := hx
    clear hx;refine E_block ?_;refine E_lp h (fun (s : Int × Int) e w => ∃ (g : Gh) , FrM iI gI wI g w ∧ e 0 = up0 ∧ OM 1 g w 3 (x0 : List Int) up0 ∧ e 1 = .int .i64 (x1) ∧ e 4 = (.func (.func ff4) fa4 fc4) ∧ e 10 = .int .i64 (s.1) ∧ e 11 = .int .i64 (s.2)) ⟨g0, hfr, rfl, mp0, rfl, rfl, rfl, rfl⟩ (fun X243 zN aO => ?_);rintro ⟨v8, aB⟩ oV uW ⟨dQ, hfr, gL, iL, jL, eQ, eG, bI⟩ h;refine E_joinC h (fun (s : Unit) e w => ∃ (g : Gh) , FrM iI gI wI g w ∧ e 0 = up0 ∧ OM 1 g w 3 (x0 : List Int) up0 ∧ e 1 = .int .i64 (x1) ∧ e 4 = (.func (.func ff4) fa4 fc4) ∧ e 10 = .int .i64 (v8) ∧ e 11 = .int .i64 (aB)) (fun X246 zP gS h => ?_) ?_
    ·refine E_seq (E_region (EL_mv eG rfl ?_))
     refine EL_mv bI rfl ?_;refine EL_in (.bool ((decide (v8 < aB)))) rfl rfl rfl rfl ?_;refine EL_nil (thn_n ?_);rcases csome h with ⟨pK, h⟩ | ⟨pK, h⟩
     ·refine E_ct pK rfl ?_
      exact E_skip (thn_n (gS () _ _ ⟨dQ, hfr, gL, iL, jL, eQ, eG, bI⟩ h))
     ·refine E_cf pK rfl ?_
      refine E_exit ?_;refine thn_e ?_;refine thn_e ?_;refine blk_hit ?_;obtain rfl := sinj h;exact hQ _ _ ⟨dQ, hfr, gL, iL, jL, eG⟩
    ·rintro _ pV vW ⟨dU, hfr, eF, uC, kH, lH, dI, jI⟩ h
     refine E_block ?_;refine E_seq (E_region (EL_mv dI rfl ?_));refine EL_mv jI rfl ?_;refine EL_in (.int .i64 ((w64 (v8 + aB)))) rfl rfl rfl rfl ?_;refine EL_p (.int .u64 (wu64 (w64 (v8 + aB)))) (P_intu64 Tryd.underlying3 Tryd.underlying83 rfl) rfl ?_;obtain ⟨mB, iS, h⟩ := bsome h;refine EL_p (.int .u64 (mB)) (P_shrU rfl rfl iS) rfl ?_;refine EL_p (.int .i64 ((w64 mB))) (P_u64int Tryd.underlying83 Tryd.underlying3 rfl) rfl ?_;refine EL_at (.int .i64 ((w64 mB))) rfl rfl ?_;refine EL_nil (thn_n (E_seq ?_));obtain ⟨lK, bO, h⟩ := bsome h;refine L_loadM (x := .tmp 43) Tryd.isAgg3 Tryd.sizeOf3 uC bO fun xW eU jS => ?_;obtain rfl := RV_int.1 eU;obtain ⟨mK, cO, h⟩ := bsome h;refine L_loadM (x := .tmp 47) Tryd.isAgg3 Tryd.sizeOf3 uC cO fun yW gU lS => ?_;obtain rfl := RV_int.1 gU;obtain ⟨cH, mS, h⟩ := bsome h;refine E_drawL (g := dU) (n := 11) [(9, (fun v g w => v = .int .i64 (cH)))] [0, 1, 2, 3, 4, 5, 6, 7, 8, 9, 10] rfl mixed (by kernel_rfl) (⟨fun _ => up_eq _, trivial⟩) ?_;refine L_p ((.func (.func ff4) fa4 fc4)) rfl rfl (P_move lH) ?_;refine L_p up0 rfl rfl (P_move eF) ?_;refine L_p (.int .i64 ((w64 mB))) rfl rfl (P_move rfl) ?_;refine L_p (ePtr up0 (w64 mB) 1) rfl rfl (P_indexAddrM (α := Int) Tryd.underlying34 Tryd.sizeOf3 rfl uC rfl bO) ?_;refine L_ld (c := .int .i64 (lK)) rfl rfl .plain (fun _ _ h => ⟨h.ch, fun b hb _ => h.below.block b hb⟩) jS rfl ?_;refine L_p up0 rfl rfl (P_move eF) ?_;refine L_p (.int .i64 (x1)) rfl rfl (P_move kH) ?_;refine L_p (ePtr up0 x1 1) rfl rfl (P_indexAddrM (α := Int) Tryd.underlying34 Tryd.sizeOf3 rfl uC rfl cO) ?_;refine L_ld (c := .int .i64 (mK)) rfl rfl .plain (fun _ _ h => ⟨h.ch, fun b hb _ => h.below.block b hb⟩) lS rfl ?_;refine L_do (φ := fun v g w => v = .int .i64 (cH)) rfl rfl .plain (fun g w hd => D_callv (g := g) (vs := [.int .i64 (lK), .int .i64 (mK)]) rfl fen4 (.cons rfl (.cons rfl .nil)) (fcl4 _ _ (hfr.ext hd.1).ch _ _ _ _ _  (RV_int.2 rfl) (RV_int.2 rfl) mS) fun g' w' v hs hr => ⟨g', hs, RV_int.1 hr⟩) (fun zW hv => ?_);obtain ⟨_, _, _, rfl⟩ := hv;refine L_p (.bool ((decide (cH < (0 : Int))))) rfl rfl (P_int rfl rfl rfl) ?_;refine L_nl fun gQ aX hs => ?_;have hfr := hfr.ext hs;have uC := uC.ext hs;clear hs;refine EL_nil (thn_n ?_);rcases csome h with ⟨qK, h⟩ | ⟨qK, h⟩
     ·refine E_ct qK rfl ?_
      refine E_region (EL_mw (.int .i64 ((w64 mB))) rfl rfl ?_);refine EL_in (.int .i64 ((w64 ((w64 mB) + (1 : Int))))) rfl rfl rfl rfl ?_;refine EL_at (.int .i64 ((w64 ((w64 mB) + (1 : Int))))) rfl rfl ?_;exact EL_nil (blk_n (thn_n (aO ((w64 ((w64 mB) + (1 : Int))), aB) _ _ ⟨gQ, hfr, eF, uC, kH, lH, rfl, jI⟩ h)))
     ·refine E_cf qK rfl ?_
      refine E_region (EL_mw (.int .i64 ((w64 mB))) rfl rfl ?_);refine EL_at (.int .i64 ((w64 mB))) rfl rfl ?_;exact EL_nil (blk_n (thn_n (aO (v8, (w64 mB)) _ _ ⟨gQ, hfr, eF, uC, kH, lH, dI, rfl⟩ h)))
   ·clear hx
    obtain ⟨iU, hfr, iQ, jQ, kQ, uO⟩ := hR;obtain ⟨jH, hx, h⟩ := bsome h;refine E_join (fun e w => ∃ (g : Gh) , FrM iI gI wI g w ∧ e 0 = up0 ∧ OM 1 g w 3 (jH : List Int) up0) (fun Q' hQ => ?_) (fun qV bX hR => ?_)
    ·replace h := hx
     clear hx;refine E_seq (E_region (EL_mv kQ rfl ?_));refine EL_at (.int .i64 (x1)) rfl rfl ?_;refine EL_nil (thn_n (E_block ?_));refine E_lp h (fun (s : (List Int) × Int) e w => ∃ (g : Gh) , FrM iI gI wI g w ∧ e 0 = up0 ∧ OM 1 g w 3 (s.1 : List Int) up0 ∧ e 10 = .int .i64 (oB) ∧ e 13 = .int .i64 (s.2)) ⟨iU, hfr, iQ, jQ, uO, rfl⟩ (fun X343 bQ nS => ?_);rintro ⟨cC, i6⟩ rV cX ⟨lQ, hfr, lL, mL, kI, lI⟩ h;refine E_joinC h (fun (s : Unit) e w => ∃ (g : Gh) , FrM iI gI wI g w ∧ e 0 = up0 ∧ OM 1 g w 3 (cC : List Int) up0 ∧ e 10 = .int .i64 (oB) ∧ e 13 = .int .i64 (i6)) (fun X346 cQ oS h => ?_) ?_
     ·refine E_seq (E_region (EL_mv lI rfl ?_))
      refine EL_mv kI rfl ?_;refine EL_in (.int .i64 ((w64 (oB - (1 : Int))))) rfl rfl rfl rfl ?_;refine EL_p (.bool ((decide (i6 < (w64 (oB - (1 : Int))))))) (P_int rfl rfl rfl) rfl ?_;refine EL_nil (thn_n ?_);rcases csome h with ⟨sK, h⟩ | ⟨sK, h⟩
      ·refine E_ct sK rfl ?_
       exact E_skip (thn_n (oS () _ _ ⟨lQ, hfr, lL, mL, kI, lI⟩ h))
      ·refine E_cf sK rfl ?_
       refine E_exit ?_;refine thn_e ?_;refine thn_e ?_;refine blk_hit ?_;obtain rfl := sinj h;exact hQ _ _ ⟨lQ, hfr, lL, mL⟩
     ·rintro _ sV jU ⟨mQ, hfr, rE, vC, vO, iE⟩ h
      obtain ⟨dF, hx, h⟩ := bsome h;refine E_join (fun e w => ∃ (g : Gh) , FrM iI gI wI g w ∧ e 0 = up0 ∧ OM 1 g w 3 (dF : List Int) up0 ∧ e 10 = .int .i64 (oB) ∧ e 13 = .int .i64 (i6)) (fun Q' hQ => ?_) (fun tV dX hR => ?_)
      ·replace h := hx
       clear hx;refine E_block ?_;obtain ⟨gH, dO, h⟩ := bsome h;refine L_loadM (x := .tmp 69) Tryd.isAgg3 Tryd.sizeOf3 vC dO fun eX kU pS => ?_;obtain rfl := RV_int.1 kU;obtain ⟨nK, eO, h⟩ := bsome h;refine L_loadM (x := .tmp 73) Tryd.isAgg3 Tryd.sizeOf3 vC eO fun gX lU qS => ?_;obtain rfl := RV_int.1 lU;obtain ⟨bU, gO, h⟩ := bsome h;refine E_drawTL (g := mQ) (n := 15) [2, 3, 4] [] [0, 1, 2, 3, 4, 5, 6, 7, 8, 9, 10, 11, 12, 13, 14] rfl mixed (by kernel_rfl) trivial rfl ?_;refine L_p up0 rfl rfl (P_move rE) ?_;refine L_p (.int .i64 (i6)) rfl rfl (P_move iE) ?_;refine L_purL (c := up0) rfl rfl .plain (P_move rE) ?_;refine L_purL (c := .int .i64 (i6)) rfl rfl .plain (P_move iE) ?_;refine L_purL (c := .int .i64 ((w64 (i6 + (1 : Int))))) rfl rfl .plain (P_int rfl rfl rfl) ?_;refine L_p up0 rfl rfl (P_move rE) ?_;refine L_p (.int .i64 (i6)) rfl rfl (P_move iE) ?_;refine L_p (.int .i64 ((w64 (i6 + (1 : Int))))) rfl rfl (P_int rfl rfl rfl) ?_;refine L_p (ePtr up0 (w64 (i6 + (1 : Int))) 1) rfl rfl (P_indexAddrM (α := Int) Tryd.underlying34 Tryd.sizeOf3 rfl vC rfl dO) ?_;refine L_ld (c := .int .i64 (gH)) rfl rfl .plain (fun _ _ h => ⟨h.ch, fun b hb _ => h.below.block b hb⟩) pS rfl ?_;refine L_p up0 rfl rfl (P_move rE) ?_;refine L_p (.int .i64 (i6)) rfl rfl (P_move iE) ?_;refine L_p (ePtr up0 i6 1) rfl rfl (P_indexAddrM (α := Int) Tryd.underlying34 Tryd.sizeOf3 rfl vC rfl eO) ?_;refine L_ld (c := .int .i64 (nK)) rfl rfl .plain (fun _ _ h => ⟨h.ch, fun b hb _ => h.below.block b hb⟩) qS rfl ?_;refine L_p (ePtr up0 i6 1) rfl rfl (P_indexAddrM (α := Int) Tryd.underlying34 Tryd.sizeOf3 rfl vC rfl gO) ?_;refine L_nl fun nQ mU hs => ?_;have hlt : Lt mQ.m jU nQ mU := hs.ch;have hfr := hfr.ext hs;have vC := vC.ext hs;clear hs;refine TL_do hlt.w .plain rfl (D_storeM (g := nQ) (α := Int) (a' := gH) Tryd.sizeOf3 rfl vC gO rfl (RV_int.2 rfl) fun nU iX hs b400 => ?_);have hfr := hfr.stp hs;have hlt := hlt.stp hs;obtain ⟨cU, jO, h⟩ := bsome h;refine TL_pur hlt.w (v := ePtr up0 (w64 (i6 + (1 : Int))) 1) (P_indexAddrM (α := Int) Tryd.underlying34 Tryd.sizeOf3 rfl b400 rfl jO) .plain rfl ?_;refine TL_do hlt.w .plain rfl (D_storeM (g := nU) (α := Int) (a' := nK) Tryd.sizeOf3 rfl b400 jO rfl (RV_int.2 rfl) fun oU jX hs b402 => ?_);have hfr := hfr.stp hs;have hlt := hlt.stp hs;refine TL_nil hlt.w ?_;clear hlt;refine blk_n ?_;obtain rfl := sinj h;exact hQ _ _ ⟨oU, hfr, rE, b402, vO, iE⟩
      ·clear hx
       obtain ⟨pU, hfr, oQ, pQ, xO, yO⟩ := hR;refine E_region (EL_mv yO rfl ?_);refine EL_in (.int .i64 ((w64 (i6 + (1 : Int))))) rfl rfl rfl rfl ?_;refine EL_at (.int .i64 ((w64 (i6 + (1 : Int))))) rfl rfl ?_;exact EL_nil (thn_n (nS (dF, (w64 (i6 + (1 : Int)))) _ _ ⟨pU, hfr, oQ, pQ, xO, rfl⟩ h))
    ·clear hx
     obtain ⟨kX, hfr, lV, qQ⟩ := hR;refine E_ret (thn_r ?_);obtain rfl := sinj h;exact end0 rfl rfl ⟨_, hfr, rfl, yG.back qQ⟩
  ·refine E_cf oK rfl ?_
   exact E_skip (thn_n (eS (x0) _ _ ⟨g0, hfr, rfl, mp0, rfl, rfl, rfl, rfl⟩ h))
 ·rintro vB uV lX ⟨rQ, hfr, nL, oL, xL, rF, yL, zL⟩ h
  refine E_joinC h (fun (s : (List Int)) e w => ∃ (g : Gh) , FrM iI gI wI g w ∧ e 0 = up0 ∧ OM 1 g w 3 (s : List Int) up0 ∧ e 1 = .int .i64 (x1) ∧ e 2 = .int .i64 (x2) ∧ e 3 = .int .i64 (x3) ∧ e 4 = (.func (.func ff4) fa4 fc4)) (fun X609 tP rS h => ?_) ?_
  ·refine E_seq (E_region (EL_mv yL rfl ?_))
   refine EL_mv rF rfl ?_;refine EL_in (.int .i64 ((w64 (x3 - x2)))) rfl rfl rfl rfl ?_;refine EL_in (.bool (((w64 (x3 - x2)) == (1 : Int)))) rfl rfl rfl rfl ?_;refine EL_nil (thn_n ?_);rcases csome h with ⟨tK, h⟩ | ⟨tK, h⟩
   ·refine E_ct tK rfl ?_
    refine E_seq (E_region (EL_mv xL rfl ?_));refine EL_at (.int .i64 (x1)) rfl rfl ?_;refine EL_nil (thn_n (E_seq (E_region (EL_mv rF rfl ?_))));refine EL_at (.int .i64 (x2)) rfl rfl ?_;refine EL_nil (thn_n ?_);obtain ⟨yB, hx, h⟩ := bsome h;refine E_join (fun e w => ∃ (g : Gh) , FrM iI gI wI g w ∧ e 0 = up0 ∧ OM 1 g w 3 (vB : List Int) up0 ∧ e 2 = .int .i64 (x2) ∧ e 14 = .int .i64 (yB)) (fun Q' hQ => ?_) (fun vV mX hR => ?_)
    ·replace h := hx
     clear hx;refine E_block ?_;refine E_lp h (fun (s : Int × Int) e w => ∃ (g : Gh) , FrM iI gI wI g w ∧ e 0 = up0 ∧ OM 1 g w 3 (vB : List Int) up0 ∧ e 2 = .int .i64 (x2) ∧ e 4 = (.func (.func ff4) fa4 fc4) ∧ e 14 = .int .i64 (s.1) ∧ e 15 = .int .i64 (s.2)) ⟨rQ, hfr, nL, oL, rF, zL, rfl, rfl⟩ (fun X650 yN kO => ?_);rintro ⟨n8, n9⟩ xV nX ⟨sQ, hfr, aM, bM, cM, tQ, gG, mI⟩ h;refine E_joinC h (fun (s : Unit) e w => ∃ (g : Gh) , FrM iI gI wI g w ∧ e 0 = up0 ∧ OM 1 g w 3 (vB : List Int) up0 ∧ e 2 = .int .i64 (x2) ∧ e 4 = (.func (.func ff4) fa4 fc4) ∧ e 14 = .int .i64 (n8) ∧ e 15 = .int .i64 (n9)) (fun X653 uP sS h => ?_) ?_
     ·refine E_seq (E_region (EL_mv gG rfl ?_))
      refine EL_mv mI rfl ?_;refine EL_in (.bool ((decide (n8 < n9)))) rfl rfl rfl rfl ?_;refine EL_nil (thn_n ?_);rcases csome h with ⟨uK, h⟩ | ⟨uK, h⟩
      ·refine E_ct uK rfl ?_
       exact E_skip (thn_n (sS () _ _ ⟨sQ, hfr, aM, bM, cM, tQ, gG, mI⟩ h))
      ·refine E_cf uK rfl ?_
       refine E_exit ?_;refine thn_e ?_;refine thn_e ?_;refine blk_hit ?_;obtain rfl := sinj h;exact hQ _ _ ⟨sQ, hfr, aM, bM, cM, gG⟩
     ·rintro _ yV oX ⟨qU, hfr, sF, bD, mH, nH, nI, pI⟩ h
      refine E_block ?_;refine E_seq (E_region (EL_mv nI rfl ?_));refine EL_mv pI rfl ?_;refine EL_in (.int .i64 ((w64 (n8 + n9)))) rfl rfl rfl rfl ?_;refine EL_p (.int .u64 (wu64 (w64 (n8 + n9)))) (P_intu64 Tryd.underlying3 Tryd.underlying83 rfl) rfl ?_;obtain ⟨lB, tS, h⟩ := bsome h;refine EL_p (.int .u64 (lB)) (P_shrU rfl rfl tS) rfl ?_;refine EL_p (.int .i64 ((w64 lB))) (P_u64int Tryd.underlying83 Tryd.underlying3 rfl) rfl ?_;refine EL_at (.int .i64 ((w64 lB))) rfl rfl ?_;refine EL_nil (thn_n (E_seq ?_));obtain ⟨bK, lO, h⟩ := bsome h;refine L_loadM (x := .tmp 95) Tryd.isAgg3 Tryd.sizeOf3 bD lO fun pX rU uS => ?_;obtain rfl := RV_int.1 rU;obtain ⟨cK, mO, h⟩ := bsome h;refine L_loadM (x := .tmp 99) Tryd.isAgg3 Tryd.sizeOf3 bD mO fun qX sU vS => ?_;obtain rfl := RV_int.1 sU;obtain ⟨cG, xS, h⟩ := bsome h;refine E_drawL (g := qU) (n := 12) [(9, (fun v g w => v = .int .i64 (cG)))] [0, 1, 2, 3, 4, 5, 6, 7, 8, 9, 10, 11] rfl mixed (by kernel_rfl) (⟨fun _ => up_eq _, trivial⟩) ?_;refine L_p ((.func (.func ff4) fa4 fc4)) rfl rfl (P_move nH) ?_;refine L_p up0 rfl rfl (P_move sF) ?_;refine L_p (.int .i64 (x2)) rfl rfl (P_move mH) ?_;refine L_p (ePtr up0 x2 1) rfl rfl (P_indexAddrM (α := Int) Tryd.underlying34 Tryd.sizeOf3 rfl bD rfl lO) ?_;refine L_ld (c := .int .i64 (bK)) rfl rfl .plain (fun _ _ h => ⟨h.ch, fun b hb _ => h.below.block b hb⟩) uS rfl ?_;refine L_p up0 rfl rfl (P_move sF) ?_;refine L_p (.int .i64 ((w64 lB))) rfl rfl (P_move rfl) ?_;refine L_p (ePtr up0 (w64 lB) 1) rfl rfl (P_indexAddrM (α := Int) Tryd.underlying34 Tryd.sizeOf3 rfl bD rfl mO) ?_;refine L_ld (c := .int .i64 (cK)) rfl rfl .plain (fun _ _ h => ⟨h.ch, fun b hb _ => h.below.block b hb⟩) vS rfl ?_;refine L_do (φ := fun v g w => v = .int .i64 (cG)) rfl rfl .plain (fun g w hd => D_callv (g := g) (vs := [.int .i64 (bK), .int .i64 (cK)]) rfl fen4 (.cons rfl (.cons rfl .nil)) (fcl4 _ _ (hfr.ext hd.1).ch _ _ _ _ _  (RV_int.2 rfl) (RV_int.2 rfl) xS) fun g' w' v hs hr => ⟨g', hs, RV_int.1 hr⟩) (fun rX hv => ?_);obtain ⟨_, _, _, rfl⟩ := hv;refine L_p (.bool ((decide (cG < (0 : Int))))) rfl rfl (P_int rfl rfl rfl) ?_;refine L_p (.bool (!(decide (cG < (0 : Int))))) rfl rfl (P_not rfl) ?_;refine L_nl fun uQ sX hs => ?_;have hfr := hfr.ext hs;have bD := bD.ext hs;clear hs;refine EL_nil (thn_n ?_);rcases csome h with ⟨vK, h⟩ | ⟨vK, h⟩
      ·refine E_ct vK rfl ?_
       refine E_region (EL_mw (.int .i64 ((w64 lB))) rfl rfl ?_);refine EL_in (.int .i64 ((w64 ((w64 lB) + (1 : Int))))) rfl rfl rfl rfl ?_;refine EL_at (.int .i64 ((w64 ((w64 lB) + (1 : Int))))) rfl rfl ?_;exact EL_nil (blk_n (thn_n (kO ((w64 ((w64 lB) + (1 : Int))), n9) _ _ ⟨uQ, hfr, sF, bD, mH, nH, rfl, pI⟩ h)))
      ·refine E_cf vK rfl ?_
       refine E_region (EL_mw (.int .i64 ((w64 lB))) rfl rfl ?_);refine EL_at (.int .i64 ((w64 lB))) rfl rfl ?_;exact EL_nil (blk_n (thn_n (kO (n8, (w64 lB)) _ _ ⟨uQ, hfr, sF, bD, mH, nH, nI, rfl⟩ h)))
    ·clear hx
     obtain ⟨tU, hfr, vQ, xQ, yQ, zO⟩ := hR;obtain ⟨aH, hx, h⟩ := bsome h;refine E_join (fun e w => ∃ (g : Gh) , FrM iI gI wI g w ∧ e 0 = up0 ∧ OM 1 g w 3 (aH : List Int) up0) (fun Q' hQ => ?_) (fun zV tX hR => ?_)
     ·replace h := hx
      clear hx;refine E_seq (E_region (EL_mv yQ rfl ?_));refine EL_at (.int .i64 (x2)) rfl rfl ?_;refine EL_nil (thn_n (E_block ?_));refine E_lp h (fun (s : (List Int) × Int) e w => ∃ (g : Gh) , FrM iI gI wI g w ∧ e 0 = up0 ∧ OM 1 g w 3 (s.1 : List Int) up0 ∧ e 14 = .int .i64 (yB) ∧ e 17 = .int .i64 (s.2)) ⟨tU, hfr, vQ, xQ, zO, rfl⟩ (fun X751 vP yS => ?_);rintro ⟨zB, t5⟩ aW uX ⟨zQ, hfr, dM, eM, qI, sI⟩ h;refine E_joinC h (fun (s : Unit) e w => ∃ (g : Gh) , FrM iI gI wI g w ∧ e 0 = up0 ∧ OM 1 g w 3 (zB : List Int) up0 ∧ e 14 = .int .i64 (yB) ∧ e 17 = .int .i64 (t5)) (fun X754 xP zS h => ?_) ?_
      ·refine E_seq (E_region (EL_mv sI rfl ?_))
       refine EL_mv qI rfl ?_;refine EL_in (.bool ((decide (t5 > yB)))) rfl rfl rfl rfl ?_;refine EL_nil (thn_n ?_);rcases csome h with ⟨xK, h⟩ | ⟨xK, h⟩
       ·refine E_ct xK rfl ?_
        exact E_skip (thn_n (zS () _ _ ⟨zQ, hfr, dM, eM, qI, sI⟩ h))
       ·refine E_cf xK rfl ?_
        refine E_exit ?_;refine thn_e ?_;refine thn_e ?_;refine blk_hit ?_;obtain rfl := sinj h;exact hQ _ _ ⟨zQ, hfr, dM, eM⟩
      ·rintro _ bW uU ⟨aR, hfr, uE, cD, aP, lE⟩ h
       obtain ⟨cF, hx, h⟩ := bsome h;refine E_join (fun e w => ∃ (g : Gh) , FrM iI gI wI g w ∧ e 0 = up0 ∧ OM 1 g w 3 (cF : List Int) up0 ∧ e 14 = .int .i64 (yB) ∧ e 17 = .int .i64 (t5)) (fun Q' hQ => ?_) (fun cW vX hR => ?_)
       ·replace h := hx
        clear hx;refine E_block ?_;obtain ⟨zG, nO, h⟩ := bsome h;refine L_loadM (x := .tmp 121) Tryd.isAgg3 Tryd.sizeOf3 cD nO fun xX vU eT => ?_;obtain rfl := RV_int.1 vU;obtain ⟨dK, oO, h⟩ := bsome h;refine L_loadM (x := .tmp 125) Tryd.isAgg3 Tryd.sizeOf3 cD oO fun yX xU lT => ?_;obtain rfl := RV_int.1 xU;obtain ⟨zT, pO, h⟩ := bsome h;refine E_drawTL (g := aR) (n := 15) [2, 3, 4] [] [0, 1, 2, 3, 4, 5, 6, 7, 8, 9, 10, 11, 12, 13, 14] rfl mixed (by kernel_rfl) trivial rfl ?_;refine L_p up0 rfl rfl (P_move uE) ?_;refine L_p (.int .i64 (t5)) rfl rfl (P_move lE) ?_;refine L_purL (c := up0) rfl rfl .plain (P_move uE) ?_;refine L_purL (c := .int .i64 (t5)) rfl rfl .plain (P_move lE) ?_;refine L_purL (c := .int .i64 ((w64 (t5 - (1 : Int))))) rfl rfl .plain (P_int rfl rfl rfl) ?_;refine L_p up0 rfl rfl (P_move uE) ?_;refine L_p (.int .i64 (t5)) rfl rfl (P_move lE) ?_;refine L_p (.int .i64 ((w64 (t5 - (1 : Int))))) rfl rfl (P_int rfl rfl rfl) ?_;refine L_p (ePtr up0 (w64 (t5 - (1 : Int))) 1) rfl rfl (P_indexAddrM (α := Int) Tryd.underlying34 Tryd.sizeOf3 rfl cD rfl nO) ?_;refine L_ld (c := .int .i64 (zG)) rfl rfl .plain (fun _ _ h => ⟨h.ch, fun b hb _ => h.below.block b hb⟩) eT rfl ?_;refine L_p up0 rfl rfl (P_move uE) ?_;refine L_p (.int .i64 (t5)) rfl rfl (P_move lE) ?_;refine L_p (ePtr up0 t5 1) rfl rfl (P_indexAddrM (α := Int) Tryd.underlying34 Tryd.sizeOf3 rfl cD rfl oO) ?_;refine L_ld (c := .int .i64 (dK)) rfl rfl .plain (fun _ _ h => ⟨h.ch, fun b hb _ => h.below.block b hb⟩) lT rfl ?_;refine L_p (ePtr up0 t5 1) rfl rfl (P_indexAddrM (α := Int) Tryd.underlying34 Tryd.sizeOf3 rfl cD rfl pO) ?_;refine L_nl fun bR yU hs => ?_;have hlt : Lt aR.m uU bR yU := hs.ch;have hfr := hfr.ext hs;have cD := cD.ext hs;clear hs;refine TL_do hlt.w .plain rfl (D_storeM (g := bR) (α := Int) (a' := zG) Tryd.sizeOf3 rfl cD pO rfl (RV_int.2 rfl) fun zU zX hs b808 => ?_);have hfr := hfr.stp hs;have hlt := hlt.stp hs;obtain ⟨aU, qO, h⟩ := bsome h;refine TL_pur hlt.w (v := ePtr up0 (w64 (t5 - (1 : Int))) 1) (P_indexAddrM (α := Int) Tryd.underlying34 Tryd.sizeOf3 rfl b808 rfl qO) .plain rfl ?_;refine TL_do hlt.w .plain rfl (D_storeM (g := zU) (α := Int) (a' := dK) Tryd.sizeOf3 rfl b808 qO rfl (RV_int.2 rfl) fun aV aY hs b810 => ?_);have hfr := hfr.stp hs;have hlt := hlt.stp hs;refine TL_nil hlt.w ?_;clear hlt;refine blk_n ?_;obtain rfl := sinj h;exact hQ _ _ ⟨aV, hfr, uE, b810, aP, lE⟩
       ·clear hx
        obtain ⟨bV, hfr, dR, eR, bP, cP⟩ := hR;refine E_region (EL_mv cP rfl ?_);refine EL_in (.int .i64 ((w64 (t5 - (1 : Int))))) rfl rfl rfl rfl ?_;refine EL_at (.int .i64 ((w64 (t5 - (1 : Int))))) rfl rfl ?_;exact EL_nil (thn_n (yS (cF, (w64 (t5 - (1 : Int)))) _ _ ⟨bV, hfr, dR, eR, bP, rfl⟩ h))
     ·clear hx
      obtain ⟨bY, hfr, mV, gR⟩ := hR;refine E_ret (thn_r ?_);obtain rfl := sinj h;exact end0 rfl rfl ⟨_, hfr, rfl, yG.back gR⟩
   ·refine E_cf tK rfl ?_
    exact E_skip (thn_n (rS (vB) _ _ ⟨rQ, hfr, nL, oL, xL, rF, yL, zL⟩ h))
  ·rintro nB dW cY ⟨iR, hfr, iM, jM, tF, vE, uF, kM⟩ h
   refine E_seq (E_region (EL_mv tF rfl ?_));refine EL_mv uF rfl ?_;refine EL_in (.int .i64 ((w64 (x1 + x3)))) rfl rfl rfl rfl ?_;refine EL_p (.int .u64 (wu64 (w64 (x1 + x3)))) (P_intu64 Tryd.underlying3 Tryd.underlying83 rfl) rfl ?_;obtain ⟨l5, mT, h⟩ := bsome h;refine EL_p (.int .u64 (l5)) (P_shrU rfl rfl mT) rfl ?_;refine EL_p (.int .i64 ((w64 l5))) (P_u64int Tryd.underlying83 Tryd.underlying3 rfl) rfl ?_;refine EL_at (.int .i64 ((w64 l5))) rfl rfl ?_;refine EL_nil (thn_n (E_seq (E_region (EL_mw (.int .i64 ((w64 l5))) rfl rfl ?_))));refine EL_mv vE rfl ?_;refine EL_in (.int .i64 ((w64 ((w64 l5) + x2)))) rfl rfl rfl rfl ?_;refine EL_at (.int .i64 ((w64 ((w64 l5) + x2)))) rfl rfl ?_;refine EL_nil (thn_n (E_seq (E_region (EL_at (.int .i64 (0)) rfl rfl ?_))));refine EL_at (.int .i64 (0)) rfl rfl ?_;refine EL_nil (thn_n ?_);obtain ⟨⟨yF, aG⟩, hx, h⟩ := bsome h;refine E_join (fun e w => ∃ (g : Gh) , FrM iI gI wI g w ∧ e 0 = up0 ∧ OM 1 g w 3 (nB : List Int) up0 ∧ e 1 = .int .i64 (x1) ∧ e 2 = .int .i64 (x2) ∧ e 3 = .int .i64 (x3) ∧ e 4 = (.func (.func ff4) fa4 fc4) ∧ e 18 = .int .i64 ((w64 l5)) ∧ e 19 = .int .i64 ((w64 ((w64 l5) + x2))) ∧ e 20 = .int .i64 (yF) ∧ e 21 = .int .i64 (aG)) (fun Q' hQ => ?_) (fun eW dY hR => ?_)
   ·replace h := hx
    clear hx;refine E_seq (E_region (EL_mv vE rfl ?_));refine EL_mw (.int .i64 ((w64 l5))) rfl rfl ?_;refine EL_in (.bool ((decide (x2 > (w64 l5))))) rfl rfl rfl rfl ?_;refine EL_nil (thn_n ?_);rcases csome h with ⟨yK, h⟩ | ⟨yK, h⟩
    ·refine E_ct yK rfl ?_
     refine E_seq (E_region (EL_mw (.int .i64 ((w64 ((w64 l5) + x2)))) rfl rfl ?_));refine EL_mv uF rfl ?_;refine EL_p (.int .i64 ((w64 ((w64 ((w64 l5) + x2)) - x3)))) (P_int rfl rfl rfl) rfl ?_;refine EL_p (.int .i64 ((w64 ((w64 ((w64 l5) + x2)) - x3)))) (P_assign rfl) rfl ?_;refine EL_nil (thn_n (E_region (EL_mw (.int .i64 ((w64 l5))) rfl rfl ?_)));refine EL_at (.int .i64 ((w64 l5))) rfl rfl ?_;refine EL_nil ?_;obtain ⟨rfl, rfl⟩ := pairs2 h;exact hQ _ _ ⟨iR, hfr, iM, jM, tF, vE, uF, kM, rfl, rfl, rfl, rfl⟩
    ·refine E_cf yK rfl ?_
     refine E_seq (E_region (EL_mv tF rfl ?_));refine EL_at (.int .i64 (x1)) rfl rfl ?_;refine EL_nil (thn_n (E_region (EL_mv vE rfl ?_)));refine EL_at (.int .i64 (x2)) rfl rfl ?_;refine EL_nil ?_;obtain ⟨rfl, rfl⟩ := pairs2 h;exact hQ _ _ ⟨iR, hfr, iM, jM, tF, vE, uF, kM, rfl, rfl, rfl, rfl⟩
   ·clear hx
    obtain ⟨cV, hfr, jR, lR, mR, nR, oR, pR, dP, jJ, eP, gP⟩ := hR;refine E_seq (E_region (EL_mv jJ rfl ?_));refine EL_p (.int .i64 ((w64 ((w64 ((w64 l5) + x2)) - (1 : Int))))) (P_int rfl rfl rfl) rfl ?_;refine EL_p (.int .i64 ((w64 ((w64 ((w64 l5) + x2)) - (1 : Int))))) (P_assign rfl) rfl ?_;refine EL_nil (thn_n ?_);obtain ⟨o0, hx, h⟩ := bsome h;refine E_join (fun e w => ∃ (g : Gh) , FrM iI gI wI g w ∧ e 0 = up0 ∧ OM 1 g w 3 (nB : List Int) up0 ∧ e 1 = .int .i64 (x1) ∧ e 2 = .int .i64 (x2) ∧ e 3 = .int .i64 (x3) ∧ e 4 = (.func (.func ff4) fa4 fc4) ∧ e 18 = .int .i64 ((w64 l5)) ∧ e 19 = .int .i64 ((w64 ((w64 l5) + x2))) ∧ e 20 = .int .i64 (o0)) (fun Q' hQ => ?_) (fun gW eY hR => ?_)
    ·replace h := hx
     clear hx;refine E_block ?_;refine E_lp h (fun (s : Int × Int) e w => ∃ (g : Gh) , FrM iI gI wI g w ∧ e 0 = up0 ∧ OM 1 g w 3 (nB : List Int) up0 ∧ e 1 = .int .i64 (x1) ∧ e 2 = .int .i64 (x2) ∧ e 3 = .int .i64 (x3) ∧ e 4 = (.func (.func ff4) fa4 fc4) ∧ e 18 = .int .i64 ((w64 l5)) ∧ e 19 = .int .i64 ((w64 ((w64 l5) + x2))) ∧ e 20 = .int .i64 (s.1) ∧ e 21 = .int .i64 (s.2) ∧ e 22 = .int .i64 ((w64 ((w64 ((w64 l5) + x2)) - (1 : Int))))) ⟨cV, hfr, jR, lR, mR, nR, oR, pR, dP, jJ, eP, gP, rfl⟩ (fun X864 xN rO => ?_);rintro ⟨l8, l9⟩ iW gY ⟨qR, hfr, pM, qM, rM, sM, tM, uM, kJ, lJ, iG, mJ, iP⟩ h;refine E_joinC h (fun (s : Unit) e w => ∃ (g : Gh) , FrM iI gI wI g w ∧ e 0 = up0 ∧ OM 1 g w 3 (nB : List Int) up0 ∧ e 1 = .int .i64 (x1) ∧ e 2 = .int .i64 (x2) ∧ e 3 = .int .i64 (x3) ∧ e 4 = (.func (.func ff4) fa4 fc4) ∧ e 18 = .int .i64 ((w64 l5)) ∧ e 19 = .int .i64 ((w64 ((w64 l5) + x2))) ∧ e 20 = .int .i64 (l8) ∧ e 21 = .int .i64 (l9) ∧ e 22 = .int .i64 ((w64 ((w64 ((w64 l5) + x2)) - (1 : Int))))) (fun X867 nP nT h => ?_) ?_
     ·refine E_seq (E_region (EL_mv iG rfl ?_))
      refine EL_mv mJ rfl ?_;refine EL_in (.bool ((decide (l8 < l9)))) rfl rfl rfl rfl ?_;refine EL_nil (thn_n ?_);rcases csome h with ⟨zK, h⟩ | ⟨zK, h⟩
      ·refine E_ct zK rfl ?_
       exact E_skip (thn_n (nT () _ _ ⟨qR, hfr, pM, qM, rM, sM, tM, uM, kJ, lJ, iG, mJ, iP⟩ h))
      ·refine E_cf zK rfl ?_
       refine E_exit ?_;refine thn_e ?_;refine thn_e ?_;refine blk_hit ?_;obtain rfl := sinj h;exact hQ _ _ ⟨qR, hfr, pM, qM, rM, sM, tM, uM, kJ, lJ, iG⟩
     ·rintro _ jW iY ⟨dV, hfr, vF, lD, vM, xM, bN, oH, nJ, oJ, pJ, qJ, jG⟩ h
      refine E_block ?_;refine E_seq (E_region (EL_mv pJ rfl ?_));refine EL_mv qJ rfl ?_;refine EL_in (.int .i64 ((w64 (l8 + l9)))) rfl rfl rfl rfl ?_;refine EL_p (.int .u64 (wu64 (w64 (l8 + l9)))) (P_intu64 Tryd.underlying3 Tryd.underlying83 rfl) rfl ?_;obtain ⟨g8, oT, h⟩ := bsome h;refine EL_p (.int .u64 (g8)) (P_shrU rfl rfl oT) rfl ?_;refine EL_p (.int .i64 ((w64 g8))) (P_u64int Tryd.underlying83 Tryd.underlying3 rfl) rfl ?_;refine EL_at (.int .i64 ((w64 g8))) rfl rfl ?_;refine EL_nil (thn_n (E_seq ?_));obtain ⟨zJ, sO, h⟩ := bsome h;refine L_loadM (x := .tmp 163) Tryd.isAgg3 Tryd.sizeOf3 lD sO fun jY eV pT => ?_;obtain rfl := RV_int.1 eV;obtain ⟨aK, tO, h⟩ := bsome h;refine L_loadM (x := .tmp 167) Tryd.isAgg3 Tryd.sizeOf3 lD tO fun kY gV sT => ?_;obtain rfl := RV_int.1 gV;obtain ⟨bG, tT, h⟩ := bsome h;refine E_drawL (g := dV) (n := 14) [(11, (fun v g w => v = .int .i64 (bG)))] [0, 1, 2, 3, 4, 5, 6, 7, 8, 9, 10, 11, 12, 13] rfl mixed (by kernel_rfl) (⟨fun _ => up_eq _, trivial⟩) ?_;refine L_p ((.func (.func ff4) fa4 fc4)) rfl rfl (P_move oH) ?_;refine L_p up0 rfl rfl (P_move vF) ?_;refine L_p (.int .i64 ((w64 ((w64 ((w64 l5) + x2)) - (1 : Int))))) rfl rfl (P_move jG) ?_;refine L_p (.int .i64 ((w64 g8))) rfl rfl (P_move rfl) ?_;refine L_p (.int .i64 ((w64 ((w64 ((w64 ((w64 l5) + x2)) - (1 : Int))) - (w64 g8))))) rfl rfl (P_int rfl rfl rfl) ?_;refine L_p (ePtr up0 (w64 ((w64 ((w64 ((w64 l5) + x2)) - (1 : Int))) - (w64 g8))) 1) rfl rfl (P_indexAddrM (α := Int) Tryd.underlying34 Tryd.sizeOf3 rfl lD rfl sO) ?_;refine L_ld (c := .int .i64 (zJ)) rfl rfl .plain (fun _ _ h => ⟨h.ch, fun b hb _ => h.below.block b hb⟩) pT rfl ?_;refine L_p up0 rfl rfl (P_move vF) ?_;refine L_p (.int .i64 ((w64 g8))) rfl rfl (P_move rfl) ?_;refine L_p (ePtr up0 (w64 g8) 1) rfl rfl (P_indexAddrM (α := Int) Tryd.underlying34 Tryd.sizeOf3 rfl lD rfl tO) ?_;refine L_ld (c := .int .i64 (aK)) rfl rfl .plain (fun _ _ h => ⟨h.ch, fun b hb _ => h.below.block b hb⟩) sT rfl ?_;refine L_do (φ := fun v g w => v = .int .i64 (bG)) rfl rfl .plain (fun g w hd => D_callv (g := g) (vs := [.int .i64 (zJ), .int .i64 (aK)]) rfl fen4 (.cons rfl (.cons rfl .nil)) (fcl4 _ _ (hfr.ext hd.1).ch _ _ _ _ _  (RV_int.2 rfl) (RV_int.2 rfl) tT) fun g' w' v hs hr => ⟨g', hs, RV_int.1 hr⟩) (fun mY hv => ?_);obtain ⟨_, _, _, rfl⟩ := hv;refine L_p (.bool ((decide (bG < (0 : Int))))) rfl rfl (P_int rfl rfl rfl) ?_;refine L_p (.bool (!(decide (bG < (0 : Int))))) rfl rfl (P_not rfl) ?_;refine L_nl fun rR nY hs => ?_;have hfr := hfr.ext hs;have lD := lD.ext hs;clear hs;refine EL_nil (thn_n ?_);rcases csome h with ⟨aL, h⟩ | ⟨aL, h⟩
      ·refine E_ct aL rfl ?_
       refine E_region (EL_mw (.int .i64 ((w64 g8))) rfl rfl ?_);refine EL_in (.int .i64 ((w64 ((w64 g8) + (1 : Int))))) rfl rfl rfl rfl ?_;refine EL_at (.int .i64 ((w64 ((w64 g8) + (1 : Int))))) rfl rfl ?_;exact EL_nil (blk_n (thn_n (rO ((w64 ((w64 g8) + (1 : Int))), l9) _ _ ⟨rR, hfr, vF, lD, vM, xM, bN, oH, nJ, oJ, rfl, qJ, jG⟩ h)))
      ·refine E_cf aL rfl ?_
       refine E_region (EL_mw (.int .i64 ((w64 g8))) rfl rfl ?_);refine EL_at (.int .i64 ((w64 g8))) rfl rfl ?_;exact EL_nil (blk_n (thn_n (rO (l8, (w64 g8)) _ _ ⟨rR, hfr, vF, lD, vM, xM, bN, oH, nJ, oJ, pJ, rfl, jG⟩ h)))
    ·clear hx
     obtain ⟨tR, hfr, cN, dN, eN, xF, gN, iN, rJ, jP, xE⟩ := hR;refine E_seq (E_region (EL_mv jP rfl ?_));refine EL_mv xE rfl ?_;refine EL_p (.int .i64 ((w64 ((w64 ((w64 l5) + x2)) - o0)))) (P_int rfl rfl rfl) rfl ?_;refine EL_p (.int .i64 ((w64 ((w64 ((w64 l5) + x2)) - o0)))) (P_assign rfl) rfl ?_;refine EL_nil (thn_n ?_);obtain ⟨mE, hx, h⟩ := bsome h;refine E_join (fun e w => ∃ (g : Gh) , FrM iI gI wI g w ∧ e 0 = up0 ∧ OM 1 g w 3 (mE : List Int) up0 ∧ e 1 = .int .i64 (x1) ∧ e 3 = .int .i64 (x3) ∧ e 4 = (.func (.func ff4) fa4 fc4) ∧ e 18 = .int .i64 ((w64 l5)) ∧ e 20 = .int .i64 (o0) ∧ e 24 = .int .i64 ((w64 ((w64 ((w64 l5) + x2)) - o0)))) (fun Q' hQ => ?_) (fun kW oY hR => ?_)
     ·replace h := hx
      clear hx;obtain ⟨zD, hx, h⟩ := bsome h;refine E_join (fun e w => ∃ (g : Gh) , FrM iI gI wI g w ∧ e 0 = up0 ∧ OM 1 g w 3 (nB : List Int) up0 ∧ e 1 = .int .i64 (x1) ∧ e 2 = .int .i64 (x2) ∧ e 3 = .int .i64 (x3) ∧ e 4 = (.func (.func ff4) fa4 fc4) ∧ e 18 = .int .i64 ((w64 l5)) ∧ e 20 = .int .i64 (o0) ∧ e 24 = .int .i64 ((w64 ((w64 ((w64 l5) + x2)) - o0))) ∧ e 185 = .bool (zD)) (fun Q' hQ => ?_) (fun lW pY hR => ?_)
      ·replace h := hx
       clear hx;refine E_region (EL_mv xE rfl ?_);refine EL_mv xF rfl ?_;refine EL_in (.bool ((decide (o0 < x2)))) rfl rfl rfl rfl ?_;refine EL_mw (.bool ((decide (o0 < x2)))) rfl rfl ?_;rcases csome h with ⟨nD, h⟩ | ⟨nD, h⟩
       ·refine EL_y (.int .i64 (x2)) (P_move xF) rfl rfl nD rfl ?_
        refine EL_y (.int .i64 ((w64 ((w64 ((w64 l5) + x2)) - o0)))) (P_move rfl) rfl rfl nD rfl ?_;refine EL_y (.bool ((decide (x2 < (w64 ((w64 ((w64 l5) + x2)) - o0)))))) (P_int rfl rfl rfl) rfl rfl nD rfl ?_;refine EL_p (.bool ((decide (x2 < (w64 ((w64 ((w64 l5) + x2)) - o0)))))) (P_pick (b := (decide (o0 < x2))) rfl (pick_t nD rfl)) rfl ?_;refine EL_nil ?_;obtain rfl := sinj h;exact hQ _ _ ⟨tR, hfr, cN, dN, eN, xF, gN, iN, rJ, xE, rfl, rfl⟩
       ·refine EL_s rfl rfl nD rfl rfl ?_
        refine EL_s rfl rfl nD rfl rfl ?_;refine EL_s rfl rfl nD rfl rfl ?_;refine EL_p (.bool false) (P_pick (b := (decide (o0 < x2))) rfl (pick_f nD rfl)) rfl ?_;refine EL_nil ?_;obtain rfl := sinj h;exact hQ _ _ ⟨tR, hfr, cN, dN, eN, xF, gN, iN, rJ, xE, rfl, rfl⟩
      ·clear hx
       obtain ⟨uR, hfr, pH, jN, kN, vR, lN, qH, sJ, kG, lG, sH⟩ := hR;rcases csome h with ⟨bL, h⟩ | ⟨bL, h⟩
       ·refine E_cond_true (Eq.trans (show ev _ _ = .bool (zD) from sH) (congrArg Value.bool bL)) ?_
        refine E_region (EL_mv pH rfl ?_);refine EL_mv kG rfl ?_;refine EL_mv vR rfl ?_;refine EL_p (.int .i64 ((w64 ((w64 ((w64 l5) + x2)) - o0)))) (P_move lG) rfl ?_;refine EL_mv qH rfl ?_;obtain ⟨oP, uT, h⟩ := bsome h;refine EL_do .plain rfl (D_callM (g := uR) (i := 1) (vs := [up0, .int .i64 (o0), .int .i64 (x2), .int .i64 ((w64 ((w64 ((w64 l5) + x2)) - o0))), (.func (.func ff4) fa4 fc4)]) en78 (.cons rfl (.cons rfl (.cons rfl (.cons rfl (.cons rfl .nil))))) (wk78 jN (FnV2.ch ⟨_, _, _, rfl, fen4, fcl4⟩ hfr.ch) uT) fun iV mW qY hs hr => ?_);obtain ⟨hrv, b921⟩ := hr;have hfr := hfr.stp hs;subst hrv;refine EL_nil ?_;obtain rfl := sinj h;exact hQ _ _ ⟨iV, hfr, pH, b921, kN, lN, qH, sJ, kG, lG⟩
       ·refine E_cond_false (Eq.trans (show ev _ _ = .bool (zD) from sH) (congrArg Value.bool bL)) ?_
        refine E_skip ?_;obtain rfl := sinj h;exact hQ _ _ ⟨uR, hfr, pH, jN, kN, lN, qH, sJ, kG, lG⟩
     ·clear hx
      obtain ⟨xR, hfr, mN, nN, tH, oN, pN, mG, yE, vJ⟩ := hR;obtain ⟨oE, hx, h⟩ := bsome h;refine E_join (fun e w => ∃ (g : Gh) , FrM iI gI wI g w ∧ e 0 = up0 ∧ OM 1 g w 3 (oE : List Int) up0 ∧ e 3 = .int .i64 (x3) ∧ e 4 = (.func (.func ff4) fa4 fc4) ∧ e 18 = .int .i64 ((w64 l5)) ∧ e 24 = .int .i64 ((w64 ((w64 ((w64 l5) + x2)) - o0)))) (fun Q' hQ => ?_) (fun nW uY hR => ?_)
      ·replace h := hx
       clear hx;obtain ⟨aE, hx, h⟩ := bsome h;refine E_join (fun e w => ∃ (g : Gh) , FrM iI gI wI g w ∧ e 0 = up0 ∧ OM 1 g w 3 (mE : List Int) up0 ∧ e 1 = .int .i64 (x1) ∧ e 3 = .int .i64 (x3) ∧ e 4 = (.func (.func ff4) fa4 fc4) ∧ e 18 = .int .i64 ((w64 l5)) ∧ e 20 = .int .i64 (o0) ∧ e 24 = .int .i64 ((w64 ((w64 ((w64 l5) + x2)) - o0))) ∧ e 199 = .bool (aE)) (fun Q' hQ => ?_) (fun oW vY hR => ?_)
       ·replace h := hx
        clear hx;refine E_region (EL_mv tH rfl ?_);refine EL_mv yE rfl ?_;refine EL_in (.bool ((decide (x1 < o0)))) rfl rfl rfl rfl ?_;refine EL_mw (.bool ((decide (x1 < o0)))) rfl rfl ?_;rcases csome h with ⟨oD, h⟩ | ⟨oD, h⟩
        ·refine EL_y (.int .i64 (o0)) (P_move yE) rfl rfl oD rfl ?_
         refine EL_y (.int .i64 ((w64 l5))) (P_move mG) rfl rfl oD rfl ?_;refine EL_y (.bool ((decide (o0 < (w64 l5))))) (P_int rfl rfl rfl) rfl rfl oD rfl ?_;refine EL_p (.bool ((decide (o0 < (w64 l5))))) (P_pick (b := (decide (x1 < o0))) rfl (pick_t oD rfl)) rfl ?_;refine EL_nil ?_;obtain rfl := sinj h;exact hQ _ _ ⟨xR, hfr, mN, nN, tH, oN, pN, mG, yE, vJ, rfl⟩
        ·refine EL_s rfl rfl oD rfl rfl ?_
         refine EL_s rfl rfl oD rfl rfl ?_;refine EL_s rfl rfl oD rfl rfl ?_;refine EL_p (.bool false) (P_pick (b := (decide (x1 < o0))) rfl (pick_f oD rfl)) rfl ?_;refine EL_nil ?_;obtain rfl := sinj h;exact hQ _ _ ⟨xR, hfr, mN, nN, tH, oN, pN, mG, yE, vJ, rfl⟩
       ·clear hx
        obtain ⟨yR, hfr, uH, qN, zR, rN, xH, sG, kP, xJ, yH⟩ := hR;rcases csome h with ⟨dL, h⟩ | ⟨dL, h⟩
        ·refine E_cond_true (Eq.trans (show ev _ _ = .bool (aE) from yH) (congrArg Value.bool dL)) ?_
         refine E_region (EL_mv uH rfl ?_);refine EL_mv zR rfl ?_;refine EL_mv kP rfl ?_;refine EL_mv sG rfl ?_;refine EL_mv xH rfl ?_;obtain ⟨pP, xT, h⟩ := bsome h;refine EL_do .plain rfl (D_callM (g := yR) (i := 1) (vs := [up0, .int .i64 (x1), .int .i64 (o0), .int .i64 ((w64 l5)), (.func (.func ff4) fa4 fc4)]) en61 (.cons rfl (.cons rfl (.cons rfl (.cons rfl (.cons rfl .nil))))) (ih qN (FnV2.ch ⟨_, _, _, rfl, fen4, fcl4⟩ hfr.ch) xT) fun jV pW xY hs hr => ?_);obtain ⟨hrv, b934⟩ := hr;have hfr := hfr.stp hs;subst hrv;refine EL_nil ?_;obtain rfl := sinj h;exact hQ _ _ ⟨jV, hfr, uH, b934, rN, xH, sG, xJ⟩
        ·refine E_cond_false (Eq.trans (show ev _ _ = .bool (aE) from yH) (congrArg Value.bool dL)) ?_
         refine E_skip ?_;obtain rfl := sinj h;exact hQ _ _ ⟨yR, hfr, uH, qN, rN, xH, sG, xJ⟩
      ·clear hx
       obtain ⟨aS, hfr, sN, tN, zH, uN, xG, zE⟩ := hR;obtain ⟨bE, hx, h⟩ := bsome h;refine E_join (fun e w => ∃ (g : Gh) , FrM iI gI wI g w ∧ e 0 = up0 ∧ OM 1 g w 3 (oE : List Int) up0 ∧ e 3 = .int .i64 (x3) ∧ e 4 = (.func (.func ff4) fa4 fc4) ∧ e 18 = .int .i64 ((w64 l5)) ∧ e 24 = .int .i64 ((w64 ((w64 ((w64 l5) + x2)) - o0))) ∧ e 213 = .bool (bE)) (fun Q' hQ => ?_) (fun qW yY hR => ?_)
       ·replace h := hx
        clear hx;refine E_region (EL_mv xG rfl ?_);refine EL_p (.int .i64 ((w64 ((w64 ((w64 l5) + x2)) - o0)))) (P_move zE) rfl ?_;refine EL_p (.bool ((decide ((w64 l5) < (w64 ((w64 ((w64 l5) + x2)) - o0)))))) (P_int rfl rfl rfl) rfl ?_;refine EL_p (.bool ((decide ((w64 l5) < (w64 ((w64 ((w64 l5) + x2)) - o0)))))) (P_move rfl) rfl ?_;rcases csome h with ⟨yD, h⟩ | ⟨yD, h⟩
        ·refine EL_y (.int .i64 ((w64 ((w64 ((w64 l5) + x2)) - o0)))) (P_move zE) rfl rfl yD rfl ?_
         refine EL_y (.int .i64 (x3)) (P_move zH) rfl rfl yD rfl ?_;refine EL_y (.bool ((decide ((w64 ((w64 ((w64 l5) + x2)) - o0)) < x3)))) (P_int rfl rfl rfl) rfl rfl yD rfl ?_;refine EL_p (.bool ((decide ((w64 ((w64 ((w64 l5) + x2)) - o0)) < x3)))) (P_pick (b := (decide ((w64 l5) < (w64 ((w64 ((w64 l5) + x2)) - o0))))) rfl (pick_t yD rfl)) rfl ?_;refine EL_nil ?_;obtain rfl := sinj h;exact hQ _ _ ⟨aS, hfr, sN, tN, zH, uN, xG, zE, rfl⟩
        ·refine EL_s rfl rfl yD rfl rfl ?_
         refine EL_s rfl rfl yD rfl rfl ?_;refine EL_s rfl rfl yD rfl rfl ?_;refine EL_p (.bool false) (P_pick (b := (decide ((w64 l5) < (w64 ((w64 ((w64 l5) + x2)) - o0))))) rfl (pick_f yD rfl)) rfl ?_;refine EL_nil ?_;obtain rfl := sinj h;exact hQ _ _ ⟨aS, hfr, sN, tN, zH, uN, xG, zE, rfl⟩
       ·clear hx
        obtain ⟨kV, hfr, bS, vN, cS, dS, lP, mP, aI⟩ := hR;rcases csome h with ⟨eL, h⟩ | ⟨eL, h⟩
        ·refine E_cond_true (Eq.trans (show ev _ _ = .bool (bE) from aI) (congrArg Value.bool eL)) ?_
         refine E_region (EL_mv bS rfl ?_);refine EL_mv lP rfl ?_;refine EL_p (.int .i64 ((w64 ((w64 ((w64 l5) + x2)) - o0)))) (P_move mP) rfl ?_;refine EL_mv cS rfl ?_;refine EL_mv dS rfl ?_;obtain ⟨sP, yT, h⟩ := bsome h;refine EL_do .plain rfl (D_callM (g := kV) (i := 1) (vs := [up0, .int .i64 ((w64 l5)), .int .i64 ((w64 ((w64 ((w64 l5) + x2)) - o0))), .int .i64 (x3), (.func (.func ff4) fa4 fc4)]) en61 (.cons rfl (.cons rfl (.cons rfl (.cons rfl (.cons rfl .nil))))) (ih vN (FnV2.ch ⟨_, _, _, rfl, fen4, fcl4⟩ hfr.ch) yT) fun zY sW aZ hs hr => ?_);obtain ⟨hrv, b941⟩ := hr;have hfr := hfr.stp hs;subst hrv;refine EL_nil ?_;obtain rfl := sinj h;exact end0n rfl rfl ⟨_, hfr, rfl, yG.back b941⟩
        ·refine E_cond_false (Eq.trans (show ev _ _ = .bool (bE) from aI) (congrArg Value.bool eL)) ?_
         refine E_skip ?_;obtain rfl := sinj h;exact end0n rfl rfl ⟨_, hfr, rfl, yG.back vN⟩
def f69 (x0 : PayPayList) : Option (Bool) :=
 jn (σ := Unit) (fun _ =>
  some ((decide (((((x0).PayList).Rates).length : Int) > (0 : Int))))
  ) fun oE =>
 lp (σ := Int × Int × Int) (fun rE (lB, mB, t5) =>
  bif (decide (t5 < ((((x0).PayList).Rates).length : Int))) then
   jn (σ := Int × Int) (fun (nB, oB) =>
    rE (nB, oB, (w64 (t5 + (1 : Int))))
    ) fun uE =>
   (idx (((x0).PayList).Rates) t5).bind fun i6 =>
   jn (σ := Unit) (fun _ =>
    uE ((w64 ((i6).From + (1 : Int))), (1000 : Int))
    ) fun vE =>
   Option.bind (α := Bool) (
    (f17 lB mB (([(i6).From] : List Int))).bind fun n9 =>
    bif (!n9) then
     some (true)
    else
     (f17 ((0 : Int)) ((10000 : Int)) (([(i6).Rate] : List Int))).bind fun cC =>
     some ((!cC))
    ) fun l8 =>
   bif l8 then
    some (false)
   else
    vE ()
  else
   oE ()
  ) big ((0 : Int), (0 : Int), (0 : Int))
theorem en69 : Enters Tryd.prog 69 := enters_of Tryd.func69 (by kernel_rfl) rfl
theorem wk69 {gI : Gh} {wI : World} {x0 : PayPayList} {up0 : Value} (rp0 : RV gI.m wI x0 up0) {r : Bool} (h : f69 x0 = some r) : Fn Tryd.prog 69 #[up0] gI wI (fun _ _ v => v = .bool (r)) := by
 unfold f69 at h;refine fn_of_E Tryd.func69 rfl (Nat.le_of_ble_eq_true rfl) fun g0 hm hfr => ?_;have rp0 : RV g0.m wI x0 up0 := hm ▸ rp0;show E _ 38 none _ _ _ _ _;refine E_seq (E_region (EL_do .plain rfl (D_box (g := g0) rfl rp0 fun g1 w1 p1 hs q1 => ?_)));have hfr := hfr.ext hs;refine EL_at (.bool false) rfl rfl ?_;refine EL_nil (thn_n (E_seq (E_region (EL_at (.int .i64 (0)) rfl rfl ?_))));refine EL_at (.int .i64 (0)) rfl rfl ?_;refine EL_nil (thn_n (E_joinC h (fun (s : Unit) e w => ∃ (g : Gh) , Fr gI wI g w ∧ e 1 = p1 ∧ PT g.m w (x0 : PayPayList) p1) (fun X125 oE yG h => ?_) ?_))
 ·refine E_seq (E_region (EL_p (fPtr p1 0) (P_fieldAddr at_91_0 rfl (PT.ptr q1)) rfl ?_))
  have xE := PT_field (part_PayPayList_0).1 q1;refine EL_p (fPtr (fPtr p1 0) 0) (P_fieldAddr at_58_0 rfl (PT.ptr xE)) rfl ?_;have kH := PT_field (part_PayList_0).1 xE;refine EL_do .plain rfl (D_load (g := g1) Tryd.isAgg56 Tryd.sizeOf56 rfl kH fun n8 yE => ?_);refine EL_p (.int .i64 ((((x0).PayList).Rates).length : Int)) (P_len Tryd.underlying56 rfl yE) rfl ?_;refine EL_mw (.int .i64 (0)) rfl rfl ?_;refine EL_nil (thn_n (E_block ?_));refine E_lp h (fun (s : Int × Int × Int) e w => ∃ (g : Gh) , Fr gI wI g w ∧ e 1 = p1 ∧ PT g.m w (x0 : PayPayList) p1 ∧ e 3 = .int .i64 (s.1) ∧ e 4 = .int .i64 (s.2.1) ∧ e 9 = n8 ∧ RV g.m w (((x0).PayList).Rates : List PayRate) n8 ∧ e 10 = .int .i64 (((((x0).PayList).Rates).length : Int)) ∧ e 11 = .int .i64 (s.2.2)) ⟨g1, hfr, rfl, q1, rfl, rfl, rfl, yE, rfl, rfl⟩ (fun X129 rE zG => ?_);rintro ⟨lB, mB, t5⟩ lI kJ ⟨lD, hfr, vB, l5, zE, cF, yB, o0, aB, v8⟩ h;refine E_seq (E_region (EL_p (.bool ((decide (t5 < ((((x0).PayList).Rates).length : Int))))) (P_int v8 aB rfl) rfl ?_));refine EL_nil (thn_n (E_seq ?_));rcases csome h with ⟨uC, h⟩ | ⟨uC, h⟩
  ·refine E_ct uC rfl ?_
   refine E_skip (thn_n (E_joinC h (fun (s : Int × Int) e w => ∃ (g : Gh) , Fr gI wI g w ∧ e 1 = p1 ∧ PT g.m w (x0 : PayPayList) p1 ∧ e 3 = .int .i64 (s.1) ∧ e 4 = .int .i64 (s.2) ∧ e 9 = n8 ∧ RV g.m w (((x0).PayList).Rates : List PayRate) n8 ∧ e 10 = .int .i64 (((((x0).PayList).Rates).length : Int)) ∧ e 11 = .int .i64 (t5)) (fun X189 uE aH h => ?_) ?_))
   ·refine E_block ?_
    refine E_seq (E_region ?_);obtain ⟨i6, yD, h⟩ := bsome h;refine EL_p (ePtr n8 t5 2) (P_indexAddr (α := PayRate) Tryd.underlying56 Tryd.sizeOf55 yB o0 v8 yD) rfl ?_;have lH := PT_idx o0 yD;refine EL_do .plain rfl (D_load (g := lD) Tryd.isAgg55 Tryd.sizeOf55 rfl lH fun mH nD => ?_);refine EL_do .plain rfl (D_allocOc (g := lD) 2006 (⟨0, 0⟩ : PayRate) Tryd.zeroValue55 (fun m w => ⟨_, (rep_two rep_int rep_int), rfl⟩) fun nH lJ l9 hs b193 cb => ?_);have hfr := hfr.stp hs;have l5 := l5.stp hs;have o0 := o0.stp hs;have nD := nD.stp hs;clear cb;refine EL_do .plain rfl (D_storeOc (g := nH) (v := mH) Tryd.sizeOf55 rfl b193 rfl nD fun dF mJ hs b194 cb => ?_);clear cb;have hfr := hfr.stp hs;have l5 := l5.stp hs;have o0 := o0.stp hs;refine EL_nil (thn_n (E_joinC h (fun (s : Unit) e w => ∃ (g : Gh) , Fr gI wI g w ∧ e 1 = p1 ∧ PT g.m w (x0 : PayPayList) p1 ∧ e 6 = l9 ∧ OB 2006 g w 55 (i6 : PayRate) l9 ∧ e 9 = n8 ∧ RV g.m w (((x0).PayList).Rates : List PayRate) n8 ∧ e 10 = .int .i64 (((((x0).PayList).Rates).length : Int)) ∧ e 11 = .int .i64 (t5)) (fun X219 vE cH h => ?_) ?_))
    ·obtain ⟨l8, hx, h⟩ := bsome h
     refine E_join (fun e w => ∃ (g : Gh) , Fr gI wI g w ∧ e 1 = p1 ∧ PT g.m w (x0 : PayPayList) p1 ∧ e 6 = l9 ∧ OB 2006 g w 55 (i6 : PayRate) l9 ∧ e 9 = n8 ∧ RV g.m w (((x0).PayList).Rates : List PayRate) n8 ∧ e 10 = .int .i64 (((((x0).PayList).Rates).length : Int)) ∧ e 11 = .int .i64 (t5) ∧ e 28 = .bool (l8)) (fun Q' hQ => ?_) (fun mI nJ hR => ?_)
     ·replace h := hx
      clear hx;refine E_region (EL_mv zE rfl ?_);refine EL_mv cF rfl ?_;refine EL_p (fPtr l9 0) (P_fieldAddr at_55_0 rfl (OB.ptr b194)) rfl ?_;refine EL_do .plain rfl (D_loadF (g := dF) part_PayRate_0.1 Tryd.isAgg3 Tryd.sizeOf3 rfl b194 fun oJ oH => ?_);obtain rfl := RV_int.1 oH;refine EL_do .plain rfl (D_buildSlice (g := dF) 3019 (xs := ([(i6).From] : List Int)) (vs := [.int .i64 ((i6).From)]) Tryd.underlying34 Tryd.sizeOf3 Tryd.zeroValue3 rfl rfl (.cons rfl .nil) (RVs.cons (RV_int.2 rfl) RVs.nil) rfl rfl fun pH pJ qH hs o233 sH hxt hfl => ?_);have hfr := hfr.stp hs;have l5 := l5.stp hs;have o0 := o0.stp hs;have b194 := b194.stp hs rfl;obtain ⟨n9, gH, h⟩ := bsome h;refine EL_do .plain rfl (D_call (g := pH) (vs := [.int .i64 (lB), .int .i64 (mB), qH]) en17 (.cons rfl (.cons rfl (.cons rfl .nil))) (wk17 sH gH) fun oD nI qJ hs hr => ?_);have hfr := hfr.ext hs;have l5 := l5.ext hs;have o0 := o0.ext hs;have b194 := b194.ext hs;subst hr;refine EL_p (.bool (!n9)) (P_not rfl) rfl ?_;refine EL_mw (.bool (!n9)) rfl rfl ?_;rcases csome h with ⟨g8, h⟩ | ⟨g8, h⟩
      ·refine EL_s rfl rfl g8 rfl rfl ?_
       iterate 4 refine EL_s rfl rfl g8 rfl rfl ?_
       refine EL_p (.bool true) (P_pick (b := (!n9)) rfl (pick_t g8 rfl)) rfl ?_;refine EL_nil ?_;obtain rfl := sinj h;exact hQ _ _ ⟨oD, hfr, vB, l5, rfl, b194, yB, o0, aB, v8, rfl⟩
      ·refine EL_y (fPtr l9 1) (P_fieldAddr at_55_1 rfl (OB.ptr b194)) rfl rfl g8 rfl ?_
       refine EL_do (.yes2 rfl rfl g8) rfl (D_loadF (g := oD) part_PayRate_1.1 Tryd.isAgg3 Tryd.sizeOf3 rfl b194 fun rJ tH => ?_);obtain rfl := RV_int.1 tH;refine EL_do (.yes2 rfl rfl g8) rfl (D_buildSlice (g := oD) 3025 (xs := ([(i6).Rate] : List Int)) (vs := [.int .i64 ((i6).Rate)]) Tryd.underlying34 Tryd.sizeOf3 Tryd.zeroValue3 rfl rfl (.cons rfl .nil) (RVs.cons (RV_int.2 rfl) RVs.nil) rfl rfl fun uH sJ xH hs o239 yH hxt hfl => ?_);have hfr := hfr.stp hs;have l5 := l5.stp hs;have o0 := o0.stp hs;have b194 := b194.stp hs rfl;obtain ⟨cC, jH, h⟩ := bsome h;refine EL_do (.yes2 rfl rfl g8) rfl (D_call (g := uH) (vs := [.int .i64 (0), .int .i64 (10000), xH]) en17 (.cons rfl (.cons rfl (.cons rfl .nil))) (wk17 yH jH) fun zH pI vJ hs hr => ?_);have hfr := hfr.ext hs;have l5 := l5.ext hs;have o0 := o0.ext hs;have b194 := b194.ext hs;subst hr;refine EL_y (.bool (!cC)) (P_not rfl) rfl rfl g8 rfl ?_;refine EL_p (.bool (!cC)) (P_pick (b := (!n9)) rfl (pick_f g8 rfl)) rfl ?_;refine EL_nil ?_;obtain rfl := sinj h;exact hQ _ _ ⟨zH, hfr, vB, l5, rfl, b194, yB, o0, aB, v8, rfl⟩
     ·clear hx
      obtain ⟨aI, hfr, eF, rF, sF, tF, uF, vF, zD, aE, zB⟩ := hR;rcases csome h with ⟨vC, h⟩ | ⟨vC, h⟩
      ·refine E_cond_true (Eq.trans (show ev _ _ = .bool (l8) from zB) (congrArg Value.bool vC)) ?_
       refine E_seq (E_region (EL_at (.bool false) rfl rfl ?_));refine EL_nil (thn_n (E_ret (thn_r ?_)));refine blk_r ?_;refine thn_r ?_;refine thn_r ?_;refine blk_r ?_;refine thn_r ?_;obtain rfl := sinj h;exact end1 rfl rfl (show _ = .bool false from rfl) ⟨_, hfr, rfl⟩
      ·refine E_cond_false (Eq.trans (show ev _ _ = .bool (l8) from zB) (congrArg Value.bool vC)) ?_
       exact E_skip (thn_n (cH () _ _ ⟨aI, hfr, eF, rF, sF, tF, uF, vF, zD, aE⟩ h))
    ·rintro _ qI xJ ⟨xF, hfr, yF, aG, bG, bD, cG, eG, bE, iE⟩ h
     refine E_region (EL_p (fPtr l9 0) (P_fieldAddr at_55_0 bG (OB.ptr bD)) rfl ?_);refine EL_do .plain rfl (D_loadF (g := xF) part_PayRate_0.1 Tryd.isAgg3 Tryd.sizeOf3 rfl bD fun zJ bI => ?_);obtain rfl := RV_int.1 bI;refine EL_in (.int .i64 ((w64 ((i6).From + (1 : Int))))) rfl rfl rfl rfl ?_;refine EL_at (.int .i64 ((w64 ((i6).From + (1 : Int))))) rfl rfl ?_;refine EL_at (.int .i64 (1000)) rfl rfl ?_;exact EL_nil (blk_n (thn_n (aH ((w64 ((i6).From + (1 : Int))), (1000 : Int)) _ _ ⟨xF, hfr, yF, aG, rfl, rfl, cG, eG, bE, iE⟩ h)))
   ·rintro ⟨nB, oB⟩ sI aK ⟨dI, hfr, gG, iG, jG, kG, lG, mG, lE, mE⟩ h
    refine E_region (EL_in (.int .i64 ((w64 (t5 + (1 : Int))))) mE rfl rfl rfl ?_);refine EL_mw (.int .i64 ((w64 (t5 + (1 : Int))))) rfl rfl ?_;exact EL_nil (thn_n (zG (nB, oB, (w64 (t5 + (1 : Int)))) _ _ ⟨dI, hfr, gG, iG, jG, kG, lG, mG, lE, rfl⟩ h))
  ·refine E_cf uC rfl ?_
   refine E_exit ?_;refine thn_e ?_;refine thn_e ?_;refine blk_hit ?_;exact thn_n (yG () _ _ ⟨lD, hfr, vB, l5⟩ h)
 ·rintro _ jJ bK ⟨iI, hfr, sG, cD⟩ h
  refine E_seq (E_region (EL_p (fPtr p1 0) (P_fieldAddr at_91_0 sG (PT.ptr cD)) rfl ?_));have xG := PT_field (part_PayPayList_0).1 cD;refine EL_p (fPtr (fPtr p1 0) 0) (P_fieldAddr at_58_0 rfl (PT.ptr xG)) rfl ?_;have jI := PT_field (part_PayList_0).1 xG;refine EL_do .plain rfl (D_load (g := iI) Tryd.isAgg56 Tryd.sizeOf56 rfl jI fun cK kI => ?_);refine EL_p (.int .i64 ((((x0).PayList).Rates).length : Int)) (P_len Tryd.underlying56 rfl kI) rfl ?_;refine EL_p (.bool ((decide (((((x0).PayList).Rates).length : Int) > (0 : Int))))) (P_int rfl rfl rfl) rfl ?_;refine EL_p (.bool ((decide (((((x0).PayList).Rates).length : Int) > (0 : Int))))) (P_assign rfl) rfl ?_;refine EL_nil (thn_n (E_ret ?_));obtain rfl := sinj h;exact end1 rfl rfl (show _ = .bool ((decide (((((x0).PayList).Rates).length : Int) > (0 : Int)))) from rfl) ⟨_, hfr, rfl⟩
def f70 (x0 : List Int) : Option (Bool) :=
 (f17 ((0 : Int)) ((1000 : Int)) x0).bind fun y2 =>
 some (y2)
theorem en70 : Enters Tryd.prog 70 := enters_of Tryd.func70 (by kernel_rfl) rfl
theorem wk70 {gI : Gh} {wI : World} {x0 : List Int} {up0 : Value} (rp0 : RV gI.m wI x0 up0) {r : Bool} (h : f70 x0 = some r) : Fn Tryd.prog 70 #[up0] gI wI (fun _ _ v => v = .bool (r)) := by
 unfold f70 at h;refine fn_of_E Tryd.func70 rfl (Nat.le_of_ble_eq_true rfl) fun g0 hm hfr => ?_;have rp0 : RV g0.m wI x0 up0 := hm ▸ rp0;show E _ 5 none _ _ _ _ _;refine E_seq (E_region (EL_at (.bool false) rfl rfl ?_));refine EL_nil (thn_n (E_seq (E_region (EL_mw up0 rfl rfl ?_))));obtain ⟨y2, hy2, h⟩ := bsome h;refine EL_do .plain rfl (D_call (g := g0) (vs := [.int .i64 (0), .int .i64 (1000), up0]) en17 (.cons rfl (.cons rfl (.cons rfl .nil))) (wk17 rp0 hy2) fun g1 w1_ v1 hs hr => ?_);have hfr := hfr.ext hs;subst hr;refine EL_at (.bool (y2)) rfl rfl ?_;refine EL_nil (thn_n (E_ret ?_));obtain rfl := sinj h;exact end1 rfl rfl (show _ = .bool (y2) from rfl) ⟨_, hfr, rfl⟩
def f71 (x0 : List Int) : Option (Bool) :=
 Option.bind (α := Bool) (
  (f79 x0).bind fun y9 =>
  bif y9 then
   (f81 x0).bind fun l8 =>
   (f80 l8).bind fun t5 =>
   some ((((t5).length : Int) == ((x0).length : Int)))
  else
   some (false)
  ) fun l5 =>
 some (l5)
theorem en71 : Enters Tryd.prog 71 := enters_of Tryd.func71 (by kernel_rfl) rfl
theorem wk71 {gI : Gh} {wI : World} {x0 : List Int} {up0 : Value} (rp0 : RV gI.m wI x0 up0) {r : Bool} (h : f71 x0 = some r) : Fn Tryd.prog 71 #[up0] gI wI (fun _ _ v => v = .bool (r)) := by
 unfold f71 at h;refine fn_of_E Tryd.func71 rfl (Nat.le_of_ble_eq_true rfl) fun g0 hm hfr => ?_;have rp0 : RV g0.m wI x0 up0 := hm ▸ rp0;show E _ 14 none _ _ _ _ _;refine E_seq (E_region (EL_at (.bool false) rfl rfl ?_));refine EL_nil (thn_n ?_);obtain ⟨l5, hx, h⟩ := bsome h;refine E_join (fun e w => ∃ (g : Gh) , Fr gI wI g w ∧ e 2 = .bool (l5)) (fun Q' hQ => ?_) (fun vB w15 hR => ?_)
 ·replace h := hx
  clear hx;refine E_region (EL_mw up0 rfl rfl ?_);obtain ⟨y9, n9, h⟩ := bsome h;refine EL_do .plain rfl (D_call (g := g0) (vs := [up0]) en79 (.cons rfl .nil) (wk79 rp0 n9) fun g8 w8_ v8 hs hr => ?_);have hfr := hfr.ext hs;have rp0 := rp0.ext hs;subst hr;refine EL_mw (.bool (y9)) rfl rfl ?_;rcases csome h with ⟨o0, h⟩ | ⟨o0, h⟩
  ·refine EL_y up0 (P_move rfl) rfl rfl o0 rfl ?_
   obtain ⟨l8, n8, h⟩ := bsome h;refine EL_do (.yes2 rfl rfl o0) rfl (D_call (g := g8) (vs := [up0]) en81 (.cons rfl .nil) (wk81 rp0 n8) fun aB yB lB hs hr => ?_);have hfr := hfr.ext hs;have rp0 := rp0.ext hs;have mB := hr;obtain ⟨t5, l9, h⟩ := bsome h;refine EL_do (.yes2 rfl rfl o0) rfl (D_call (g := aB) (vs := [lB]) en80 (.cons rfl .nil) (wk80 mB l9) fun nB zB cC hs hr => ?_);have hfr := hfr.ext hs;have rp0 := rp0.ext hs;have oB := hr;refine EL_y (.int .i64 ((t5).length : Int)) (P_len Tryd.underlying34 rfl oB) rfl rfl o0 rfl ?_;refine EL_y up0 (P_move rfl) rfl rfl o0 rfl ?_;refine EL_y (.int .i64 ((x0).length : Int)) (P_len Tryd.underlying34 rfl rp0) rfl rfl o0 rfl ?_;refine EL_y (.bool ((((t5).length : Int) == ((x0).length : Int)))) (P_int rfl rfl rfl) rfl rfl o0 rfl ?_;refine EL_p (.bool ((((t5).length : Int) == ((x0).length : Int)))) (P_pick (b := y9) rfl (pick_t o0 rfl)) rfl ?_;refine EL_at (.bool ((((t5).length : Int) == ((x0).length : Int)))) rfl rfl ?_;refine EL_nil ?_;obtain rfl := sinj h;exact hQ _ _ ⟨nB, hfr, rfl⟩
  ·refine EL_s rfl rfl o0 rfl rfl ?_
   iterate 6 refine EL_s rfl rfl o0 rfl rfl ?_
   refine EL_p (.bool false) (P_pick (b := y9) rfl (pick_f o0 rfl)) rfl ?_;refine EL_at (.bool false) rfl rfl ?_;refine EL_nil ?_;obtain rfl := sinj h;exact hQ _ _ ⟨g8, hfr, rfl⟩
 ·clear hx
  obtain ⟨uC, hfr, i6⟩ := hR;refine E_ret ?_;obtain rfl := sinj h;exact end1 rfl rfl (show _ = .bool (l5) from i6) ⟨_, hfr, rfl⟩
def f74 (x0 : PaySheet) : Option (Bool) :=
 Option.bind (α := Bool) (
  bif (decide (((((x0).PayTable).Rows).length : Int) > (6 : Int))) then
   some (true)
  else
   (f82 (((x0).PayTable).Rows) ((fun a0 => f83 a0))).bind fun t5 =>
   some (t5)
  ) fun l5 =>
 some (l5)
theorem en74 : Enters Tryd.prog 74 := enters_of Tryd.func74 (by kernel_rfl) rfl
theorem wk74 {gI : Gh} {wI : World} {x0 : PaySheet} {up0 : Value} (rp0 : RV gI.m wI x0 up0) {r : Bool} (h : f74 x0 = some r) : Fn Tryd.prog 74 #[up0] gI wI (fun _ _ v => v = .bool (r)) := by
 unfold f74 at h;refine fn_of_E Tryd.func74 rfl (Nat.le_of_ble_eq_true rfl) fun g0 hm hfr => ?_;have rp0 : RV g0.m wI x0 up0 := hm ▸ rp0;show E _ 14 none _ _ _ _ _;refine E_seq (E_region (EL_do .plain rfl (D_box (g := g0) rfl rp0 fun g1 w1 p1 hs q1 => ?_)));have hfr := hfr.ext hs;refine EL_at (.bool false) rfl rfl ?_;refine EL_nil (thn_n ?_);obtain ⟨l5, hx, h⟩ := bsome h;refine E_join (fun e w => ∃ (g : Gh) , Fr gI wI g w ∧ e 2 = .bool (l5)) (fun Q' hQ => ?_) (fun nB vB hR => ?_)
 ·replace h := hx
  clear hx;refine E_region (EL_p (fPtr p1 0) (P_fieldAddr at_97_0 rfl (PT.ptr q1)) rfl ?_);have g8 := PT_field (part_PaySheet_0).1 q1;refine EL_p (fPtr (fPtr p1 0) 0) (P_fieldAddr at_71_0 rfl (PT.ptr g8)) rfl ?_;have v8 := PT_field (part_PayTable_0).1 g8;refine EL_do .plain rfl (D_load (g := g1) Tryd.isAgg69 Tryd.sizeOf69 rfl v8 fun yB l9 => ?_);refine EL_p (.int .i64 ((((x0).PayTable).Rows).length : Int)) (P_len Tryd.underlying69 rfl l9) rfl ?_;refine EL_p (.bool ((decide (((((x0).PayTable).Rows).length : Int) > (6 : Int))))) (P_int rfl rfl rfl) rfl ?_;refine EL_p (.bool ((decide (((((x0).PayTable).Rows).length : Int) > (6 : Int))))) (P_move rfl) rfl ?_;rcases csome h with ⟨o0, h⟩ | ⟨o0, h⟩
  ·refine EL_s rfl rfl o0 rfl rfl ?_
   iterate 3 refine EL_s rfl rfl o0 rfl rfl ?_
   refine EL_p (.bool true) (P_pick (b := (decide (((((x0).PayTable).Rows).length : Int) > (6 : Int)))) rfl (pick_t o0 rfl)) rfl ?_;refine EL_at (.bool true) rfl rfl ?_;refine EL_nil ?_;obtain rfl := sinj h;exact hQ _ _ ⟨g1, hfr, rfl⟩
  ·refine EL_y (fPtr p1 0) (P_fieldAddr at_97_0 rfl (PT.ptr q1)) rfl rfl o0 rfl ?_
   have l8 := PT_field (part_PaySheet_0).1 q1;refine EL_y (fPtr (fPtr p1 0) 0) (P_fieldAddr at_71_0 rfl (PT.ptr l8)) rfl rfl o0 rfl ?_;have n9 := PT_field (part_PayTable_0).1 l8;refine EL_do (.yes2 rfl rfl o0) rfl (D_load (g := g1) Tryd.isAgg69 Tryd.sizeOf69 rfl n9 fun aB lB => ?_);obtain ⟨t5, n8, h⟩ := bsome h;refine EL_do (.yes2 rfl rfl o0) rfl (D_call (g := g1) (vs := [aB, .func (.func 83) #[] #[]]) en82 (.cons rfl (.cons rfl .nil)) (wk82 lB ⟨83, #[], #[], rfl, en83, fun g' w' hch a0 b0 r hu0 hr => by exact Fn.mono (wk83 hu0  hr) fun _ _ _ h => RV_bool.2 h⟩ n8) fun mB oB zB hs hr => ?_);have hfr := hfr.ext hs;subst hr;refine EL_p (.bool (t5)) (P_pick (b := (decide (((((x0).PayTable).Rows).length : Int) > (6 : Int)))) rfl (pick_f o0 rfl)) rfl ?_;refine EL_at (.bool (t5)) rfl rfl ?_;refine EL_nil ?_;obtain rfl := sinj h;exact hQ _ _ ⟨mB, hfr, rfl⟩
 ·clear hx
  obtain ⟨cC, hfr, i6⟩ := hR;refine E_ret ?_;obtain rfl := sinj h;exact end1 rfl rfl (show _ = .bool (l5) from i6) ⟨_, hfr, rfl⟩
def f75 (x0 : PaySheet) : Option (Bool) :=
 jn (σ := Unit) (fun _ =>
  (f82 (((x0).PayTable).Rows) ((fun a0 => f84 a0 x0))).bind fun l9 =>
  some ((!l9))
  ) fun aE =>
 Option.bind (α := Bool) (
  bif (((((x0).PayTable).Rows).length : Int) == (0 : Int)) then
   some (true)
  else
   (idx (((x0).PayTable).Rows) (0 : Int)).bind fun i6 =>
   bif (((i6).length : Int) == (0 : Int)) then
    some (true)
   else
    bif (((((x0).PayTable).Across).length : Int) != ((((x0).PayTable).Rows).length : Int)) then
     some (true)
    else
     (idx (((x0).PayTable).Rows) (0 : Int)).bind fun n9 =>
     some ((((((x0).PayTable).Down).length : Int) != ((n9).length : Int)))
  ) fun g8 =>
 bif g8 then
  some (false)
 else
  aE ()
theorem en75 : Enters Tryd.prog 75 := enters_of Tryd.func75 (by kernel_rfl) rfl
theorem wk75 {gI : Gh} {wI : World} {x0 : PaySheet} {up0 : Value} (rp0 : RV gI.m wI x0 up0) {r : Bool} (h : f75 x0 = some r) : Fn Tryd.prog 75 #[up0] gI wI (fun _ _ v => v = .bool (r)) := by
 unfold f75 at h;refine fn_of_E Tryd.func75 rfl (Nat.le_of_ble_eq_true rfl) fun g0 hm hfr => ?_;have rp0 : RV g0.m wI x0 up0 := hm ▸ rp0;show E _ 47 none _ _ _ _ _;refine E_seq (E_region (EL_do .plain rfl (D_box (g := g0) rfl rp0 fun g1 w1 p1 hs q1 => ?_)));have hfr := hfr.ext hs;refine EL_at (.bool false) rfl rfl ?_;refine EL_nil (thn_n (E_joinC h (fun (s : Unit) e w => ∃ (g : Gh) , Fr gI wI g w ∧ e 1 = p1 ∧ PT g.m w (x0 : PaySheet) p1) (fun X395 aE dF h => ?_) ?_))
 ·obtain ⟨g8, hx, h⟩ := bsome h
  refine E_join (fun e w => ∃ (g : Gh) , Fr gI wI g w ∧ e 1 = p1 ∧ PT g.m w (x0 : PaySheet) p1 ∧ e 40 = .bool (g8)) (fun Q' hQ => ?_) (fun gH lH hR => ?_)
  ·replace h := hx
   clear hx;have aB := PT_field (part_PaySheet_0).1 q1;have uF := PT_field (part_PayTable_0).1 aB;refine L_load (x := .tmp 4) Tryd.isAgg69 Tryd.sizeOf69 uF fun nB oB n8 => ?_;rcases csome h with ⟨o0, h⟩ | ⟨o0, h⟩
   ·refine E_drawL (g := g1) (n := 38) [] [0, 1, 2, 3, 4, 5, 6, 7, 8, 9, 10, 11, 12, 13, 14, 15, 16, 17, 18, 19, 20, 21, 22, 23, 24, 25, 26, 27, 28, 29, 30, 31, 32, 33, 34, 35, 36, 37] rfl mixed (by kernel_rfl) trivial ?_
    refine L_p (fPtr p1 0) rfl rfl (P_fieldAddr at_97_0 rfl (PT.ptr q1)) ?_;refine L_p (fPtr (fPtr p1 0) 0) rfl rfl (P_fieldAddr at_71_0 rfl (PT.ptr aB)) ?_;refine L_ld (c := nB) rfl rfl .plain (fun _ _ h => h.ch) n8 rfl ?_;refine L_p (.int .i64 ((((x0).PayTable).Rows).length : Int)) rfl rfl (P_len Tryd.underlying69 rfl oB) ?_;refine L_p (.bool ((((((x0).PayTable).Rows).length : Int) == (0 : Int)))) rfl rfl (P_int rfl rfl rfl) ?_;refine L_p (.bool ((((((x0).PayTable).Rows).length : Int) == (0 : Int)))) rfl rfl (P_move rfl) ?_;iterate 7 refine L_s rfl rfl rfl o0 rfl ?_
    refine L_p (.bool true) rfl rfl (P_pick (b := (((((x0).PayTable).Rows).length : Int) == (0 : Int))) rfl (pick_t o0 rfl)) ?_;refine L_dead (fun _ => rfl) 24 rfl ?_;refine L_nl fun vF mH hs => ?_;have hfr := hfr.ext hs;have q1 := q1.ext hs;clear hs;refine EL_nil ?_;obtain rfl := sinj h;exact hQ _ _ ⟨vF, hfr, rfl, q1, rfl⟩
   ·have vB := PT_field (part_PaySheet_0).1 q1
    have xF := PT_field (part_PayTable_0).1 vB;refine L_load (x := .tmp 10) Tryd.isAgg69 Tryd.sizeOf69 xF fun l8 yB zB => ?_;obtain ⟨i6, v8, h⟩ := bsome h;have yF := PT_idx yB v8;refine L_load (x := .tmp 12) Tryd.isAgg34 Tryd.sizeOf34 yF fun bD cD cC => ?_;rcases csome h with ⟨l5, h⟩ | ⟨l5, h⟩
    ·refine E_drawL (g := g1) (n := 38) [] [0, 1, 2, 3, 4, 5, 6, 7, 8, 9, 10, 11, 12, 13, 14, 15, 16, 17, 18, 19, 20, 21, 22, 23, 24, 25, 26, 27, 28, 29, 30, 31, 32, 33, 34, 35, 36, 37] rfl mixed (by kernel_rfl) trivial ?_
     refine L_p (fPtr p1 0) rfl rfl (P_fieldAddr at_97_0 rfl (PT.ptr q1)) ?_;refine L_p (fPtr (fPtr p1 0) 0) rfl rfl (P_fieldAddr at_71_0 rfl (PT.ptr aB)) ?_;refine L_ld (c := nB) rfl rfl .plain (fun _ _ h => h.ch) n8 rfl ?_;refine L_p (.int .i64 ((((x0).PayTable).Rows).length : Int)) rfl rfl (P_len Tryd.underlying69 rfl oB) ?_;refine L_p (.bool ((((((x0).PayTable).Rows).length : Int) == (0 : Int)))) rfl rfl (P_int rfl rfl rfl) ?_;refine L_p (.bool ((((((x0).PayTable).Rows).length : Int) == (0 : Int)))) rfl rfl (P_move rfl) ?_;refine L_y (fPtr p1 0) rfl rfl rfl rfl o0 (P_fieldAddr at_97_0 rfl (PT.ptr q1)) ?_;refine L_y (fPtr (fPtr p1 0) 0) rfl rfl rfl rfl o0 (P_fieldAddr at_71_0 rfl (PT.ptr vB)) ?_;refine L_ld (c := l8) rfl rfl (.yes2 rfl rfl o0) (fun _ _ h => h.ch) zB rfl ?_;refine L_y (ePtr l8 (0 : Int) 1) rfl rfl rfl rfl o0 (P_indexAddr (α := List Int) Tryd.underlying69 Tryd.sizeOf34 rfl yB rfl v8) ?_;refine L_ld (c := bD) rfl rfl (.yes2 rfl rfl o0) (fun _ _ h => h.ch) cC rfl ?_;refine L_y (.int .i64 ((i6).length : Int)) rfl rfl rfl rfl o0 (P_len Tryd.underlying34 rfl cD) ?_;refine L_y (.bool ((((i6).length : Int) == (0 : Int)))) rfl rfl rfl rfl o0 (P_int rfl rfl rfl) ?_;refine L_p (.bool ((((i6).length : Int) == (0 : Int)))) rfl rfl (P_pick (b := (((((x0).PayTable).Rows).length : Int) == (0 : Int))) rfl (pick_f o0 rfl)) ?_;refine L_p (.bool ((((i6).length : Int) == (0 : Int)))) rfl rfl (P_move rfl) ?_;iterate 9 refine L_s rfl rfl rfl l5 rfl ?_
     refine L_p (.bool true) rfl rfl (P_pick (b := (((i6).length : Int) == (0 : Int))) rfl (pick_t l5 rfl)) ?_;refine L_dead (fun _ => rfl) 13 rfl ?_;refine L_nl fun aG nH hs => ?_;have hfr := hfr.ext hs;have q1 := q1.ext hs;clear hs;refine EL_nil ?_;obtain rfl := sinj h;exact hQ _ _ ⟨aG, hfr, rfl, q1, rfl⟩
    ·have lD := PT_field (part_PaySheet_0).1 q1
     have bG := PT_field (part_PayTable_1).1 lD;refine L_load (x := .tmp 19) Tryd.isAgg34 Tryd.sizeOf34 bG fun bE iE oD => ?_;have nD := PT_field (part_PaySheet_0).1 q1;have cG := PT_field (part_PayTable_0).1 nD;refine L_load (x := .tmp 23) Tryd.isAgg69 Tryd.sizeOf69 cG fun lE mE yD => ?_;rcases csome h with ⟨t5, h⟩ | ⟨t5, h⟩
     ·refine E_drawL (g := g1) (n := 38) [] [0, 1, 2, 3, 4, 5, 6, 7, 8, 9, 10, 11, 12, 13, 14, 15, 16, 17, 18, 19, 20, 21, 22, 23, 24, 25, 26, 27, 28, 29, 30, 31, 32, 33, 34, 35, 36, 37] rfl mixed (by kernel_rfl) trivial ?_
      refine L_p (fPtr p1 0) rfl rfl (P_fieldAddr at_97_0 rfl (PT.ptr q1)) ?_;refine L_p (fPtr (fPtr p1 0) 0) rfl rfl (P_fieldAddr at_71_0 rfl (PT.ptr aB)) ?_;refine L_ld (c := nB) rfl rfl .plain (fun _ _ h => h.ch) n8 rfl ?_;refine L_p (.int .i64 ((((x0).PayTable).Rows).length : Int)) rfl rfl (P_len Tryd.underlying69 rfl oB) ?_;refine L_p (.bool ((((((x0).PayTable).Rows).length : Int) == (0 : Int)))) rfl rfl (P_int rfl rfl rfl) ?_;refine L_p (.bool ((((((x0).PayTable).Rows).length : Int) == (0 : Int)))) rfl rfl (P_move rfl) ?_;refine L_y (fPtr p1 0) rfl rfl rfl rfl o0 (P_fieldAddr at_97_0 rfl (PT.ptr q1)) ?_;refine L_y (fPtr (fPtr p1 0) 0) rfl rfl rfl rfl o0 (P_fieldAddr at_71_0 rfl (PT.ptr vB)) ?_;refine L_ld (c := l8) rfl rfl (.yes2 rfl rfl o0) (fun _ _ h => h.ch) zB rfl ?_;refine L_y (ePtr l8 (0 : Int) 1) rfl rfl rfl rfl o0 (P_indexAddr (α := List Int) Tryd.underlying69 Tryd.sizeOf34 rfl yB rfl v8) ?_;refine L_ld (c := bD) rfl rfl (.yes2 rfl rfl o0) (fun _ _ h => h.ch) cC rfl ?_;refine L_y (.int .i64 ((i6).length : Int)) rfl rfl rfl rfl o0 (P_len Tryd.underlying34 rfl cD) ?_;refine L_y (.bool ((((i6).length : Int) == (0 : Int)))) rfl rfl rfl rfl o0 (P_int rfl rfl rfl) ?_;refine L_p (.bool ((((i6).length : Int) == (0 : Int)))) rfl rfl (P_pick (b := (((((x0).PayTable).Rows).length : Int) == (0 : Int))) rfl (pick_f o0 rfl)) ?_;refine L_p (.bool ((((i6).length : Int) == (0 : Int)))) rfl rfl (P_move rfl) ?_;refine L_y (fPtr p1 0) rfl rfl rfl rfl l5 (P_fieldAddr at_97_0 rfl (PT.ptr q1)) ?_;refine L_y (fPtr (fPtr p1 0) 1) rfl rfl rfl rfl l5 (P_fieldAddr at_71_1 rfl (PT.ptr lD)) ?_;refine L_ld (c := bE) rfl rfl (.yes2 rfl rfl l5) (fun _ _ h => h.ch) oD rfl ?_;refine L_y (.int .i64 ((((x0).PayTable).Across).length : Int)) rfl rfl rfl rfl l5 (P_len Tryd.underlying34 rfl iE) ?_;refine L_y (fPtr p1 0) rfl rfl rfl rfl l5 (P_fieldAddr at_97_0 rfl (PT.ptr q1)) ?_;refine L_y (fPtr (fPtr p1 0) 0) rfl rfl rfl rfl l5 (P_fieldAddr at_71_0 rfl (PT.ptr nD)) ?_;refine L_ld (c := lE) rfl rfl (.yes2 rfl rfl l5) (fun _ _ h => h.ch) yD rfl ?_;refine L_y (.int .i64 ((((x0).PayTable).Rows).length : Int)) rfl rfl rfl rfl l5 (P_len Tryd.underlying69 rfl mE) ?_;refine L_y (.bool ((((((x0).PayTable).Across).length : Int) != ((((x0).PayTable).Rows).length : Int)))) rfl rfl rfl rfl l5 (P_int rfl rfl rfl) ?_;refine L_p (.bool ((((((x0).PayTable).Across).length : Int) != ((((x0).PayTable).Rows).length : Int)))) rfl rfl (P_pick (b := (((i6).length : Int) == (0 : Int))) rfl (pick_f l5 rfl)) ?_;refine L_p (.bool ((((((x0).PayTable).Across).length : Int) != ((((x0).PayTable).Rows).length : Int)))) rfl rfl (P_move rfl) ?_;iterate 11 refine L_s rfl rfl rfl t5 rfl ?_
      refine L_p (.bool true) rfl rfl (P_pick (b := (((((x0).PayTable).Across).length : Int) != ((((x0).PayTable).Rows).length : Int))) rfl (pick_t t5 rfl)) ?_;refine L_nl fun eG oH hs => ?_;have hfr := hfr.ext hs;have q1 := q1.ext hs;clear hs;refine EL_nil ?_;obtain rfl := sinj h;exact hQ _ _ ⟨eG, hfr, rfl, q1, rfl⟩
     ·have oE := PT_field (part_PaySheet_0).1 q1
      have gG := PT_field (part_PayTable_2).1 oE;refine L_load (x := .tmp 30) Tryd.isAgg34 Tryd.sizeOf34 gG fun iG jG eF => ?_;have rE := PT_field (part_PaySheet_0).1 q1;have kG := PT_field (part_PayTable_0).1 rE;refine L_load (x := .tmp 34) Tryd.isAgg69 Tryd.sizeOf69 kG fun uE vE rF => ?_;obtain ⟨n9, zD, h⟩ := bsome h;have lG := PT_idx vE zD;refine L_load (x := .tmp 36) Tryd.isAgg34 Tryd.sizeOf34 lG fun mG sG sF => ?_;refine E_drawL (g := g1) (n := 38) [] [0, 1, 2, 3, 4, 5, 6, 7, 8, 9, 10, 11, 12, 13, 14, 15, 16, 17, 18, 19, 20, 21, 22, 23, 24, 25, 26, 27, 28, 29, 30, 31, 32, 33, 34, 35, 36, 37] rfl mixed (by kernel_rfl) trivial ?_;refine L_p (fPtr p1 0) rfl rfl (P_fieldAddr at_97_0 rfl (PT.ptr q1)) ?_;refine L_p (fPtr (fPtr p1 0) 0) rfl rfl (P_fieldAddr at_71_0 rfl (PT.ptr aB)) ?_;refine L_ld (c := nB) rfl rfl .plain (fun _ _ h => h.ch) n8 rfl ?_;refine L_p (.int .i64 ((((x0).PayTable).Rows).length : Int)) rfl rfl (P_len Tryd.underlying69 rfl oB) ?_;refine L_p (.bool ((((((x0).PayTable).Rows).length : Int) == (0 : Int)))) rfl rfl (P_int rfl rfl rfl) ?_;refine L_p (.bool ((((((x0).PayTable).Rows).length : Int) == (0 : Int)))) rfl rfl (P_move rfl) ?_;refine L_y (fPtr p1 0) rfl rfl rfl rfl o0 (P_fieldAddr at_97_0 rfl (PT.ptr q1)) ?_;refine L_y (fPtr (fPtr p1 0) 0) rfl rfl rfl rfl o0 (P_fieldAddr at_71_0 rfl (PT.ptr vB)) ?_;refine L_ld (c := l8) rfl rfl (.yes2 rfl rfl o0) (fun _ _ h => h.ch) zB rfl ?_;refine L_y (ePtr l8 (0 : Int) 1) rfl rfl rfl rfl o0 (P_indexAddr (α := List Int) Tryd.underlying69 Tryd.sizeOf34 rfl yB rfl v8) ?_;refine L_ld (c := bD) rfl rfl (.yes2 rfl rfl o0) (fun _ _ h => h.ch) cC rfl ?_;refine L_y (.int .i64 ((i6).length : Int)) rfl rfl rfl rfl o0 (P_len Tryd.underlying34 rfl cD) ?_;refine L_y (.bool ((((i6).length : Int) == (0 : Int)))) rfl rfl rfl rfl o0 (P_int rfl rfl rfl) ?_;refine L_p (.bool ((((i6).length : Int) == (0 : Int)))) rfl rfl (P_pick (b := (((((x0).PayTable).Rows).length : Int) == (0 : Int))) rfl (pick_f o0 rfl)) ?_;refine L_p (.bool ((((i6).length : Int) == (0 : Int)))) rfl rfl (P_move rfl) ?_;refine L_y (fPtr p1 0) rfl rfl rfl rfl l5 (P_fieldAddr at_97_0 rfl (PT.ptr q1)) ?_;refine L_y (fPtr (fPtr p1 0) 1) rfl rfl rfl rfl l5 (P_fieldAddr at_71_1 rfl (PT.ptr lD)) ?_;refine L_ld (c := bE) rfl rfl (.yes2 rfl rfl l5) (fun _ _ h => h.ch) oD rfl ?_;refine L_y (.int .i64 ((((x0).PayTable).Across).length : Int)) rfl rfl rfl rfl l5 (P_len Tryd.underlying34 rfl iE) ?_;refine L_y (fPtr p1 0) rfl rfl rfl rfl l5 (P_fieldAddr at_97_0 rfl (PT.ptr q1)) ?_;refine L_y (fPtr (fPtr p1 0) 0) rfl rfl rfl rfl l5 (P_fieldAddr at_71_0 rfl (PT.ptr nD)) ?_;refine L_ld (c := lE) rfl rfl (.yes2 rfl rfl l5) (fun _ _ h => h.ch) yD rfl ?_;refine L_y (.int .i64 ((((x0).PayTable).Rows).length : Int)) rfl rfl rfl rfl l5 (P_len Tryd.underlying69 rfl mE) ?_;refine L_y (.bool ((((((x0).PayTable).Across).length : Int) != ((((x0).PayTable).Rows).length : Int)))) rfl rfl rfl rfl l5 (P_int rfl rfl rfl) ?_;refine L_p (.bool ((((((x0).PayTable).Across).length : Int) != ((((x0).PayTable).Rows).length : Int)))) rfl rfl (P_pick (b := (((i6).length : Int) == (0 : Int))) rfl (pick_f l5 rfl)) ?_;refine L_p (.bool ((((((x0).PayTable).Across).length : Int) != ((((x0).PayTable).Rows).length : Int)))) rfl rfl (P_move rfl) ?_;refine L_y (fPtr p1 0) rfl rfl rfl rfl t5 (P_fieldAddr at_97_0 rfl (PT.ptr q1)) ?_;refine L_y (fPtr (fPtr p1 0) 2) rfl rfl rfl rfl t5 (P_fieldAddr at_71_2 rfl (PT.ptr oE)) ?_;refine L_ld (c := iG) rfl rfl (.yes2 rfl rfl t5) (fun _ _ h => h.ch) eF rfl ?_;refine L_y (.int .i64 ((((x0).PayTable).Down).length : Int)) rfl rfl rfl rfl t5 (P_len Tryd.underlying34 rfl jG) ?_;refine L_y (fPtr p1 0) rfl rfl rfl rfl t5 (P_fieldAddr at_97_0 rfl (PT.ptr q1)) ?_;refine L_y (fPtr (fPtr p1 0) 0) rfl rfl rfl rfl t5 (P_fieldAddr at_71_0 rfl (PT.ptr rE)) ?_;refine L_ld (c := uE) rfl rfl (.yes2 rfl rfl t5) (fun _ _ h => h.ch) rF rfl ?_;refine L_y (ePtr uE (0 : Int) 1) rfl rfl rfl rfl t5 (P_indexAddr (α := List Int) Tryd.underlying69 Tryd.sizeOf34 rfl vE rfl zD) ?_
      refine L_ld (c := mG) rfl rfl (.yes2 rfl rfl t5) (fun _ _ h => h.ch) sF rfl ?_;refine L_y (.int .i64 ((n9).length : Int)) rfl rfl rfl rfl t5 (P_len Tryd.underlying34 rfl sG) ?_;refine L_y (.bool ((((((x0).PayTable).Down).length : Int) != ((n9).length : Int)))) rfl rfl rfl rfl t5 (P_int rfl rfl rfl) ?_;refine L_p (.bool ((((((x0).PayTable).Down).length : Int) != ((n9).length : Int)))) rfl rfl (P_pick (b := (((((x0).PayTable).Across).length : Int) != ((((x0).PayTable).Rows).length : Int))) rfl (pick_f t5 rfl)) ?_;refine L_nl fun xG pH hs => ?_;have hfr := hfr.ext hs;have q1 := q1.ext hs;clear hs;refine EL_nil ?_;obtain rfl := sinj h;exact hQ _ _ ⟨xG, hfr, rfl, q1, rfl⟩
  ·clear hx
   obtain ⟨yG, hfr, xE, yE, mB⟩ := hR;rcases csome h with ⟨uC, h⟩ | ⟨uC, h⟩
   ·refine E_cond_true (Eq.trans (show ev _ _ = .bool (g8) from mB) (congrArg Value.bool uC)) ?_
    refine E_seq (E_region (EL_at (.bool false) rfl rfl ?_));refine EL_nil (thn_n (E_ret (thn_r ?_)));obtain rfl := sinj h;exact end1 rfl rfl (show _ = .bool false from rfl) ⟨_, hfr, rfl⟩
   ·refine E_cond_false (Eq.trans (show ev _ _ = .bool (g8) from mB) (congrArg Value.bool uC)) ?_
    exact E_skip (thn_n (dF () _ _ ⟨yG, hfr, xE, yE⟩ h))
 ·rintro _ jH qH ⟨zE, hfr, vC, lB⟩ h
  refine E_seq (E_region (EL_p (fPtr p1 0) (P_fieldAddr at_97_0 vC (PT.ptr lB)) rfl ?_));have cF := PT_field (part_PaySheet_0).1 lB;refine EL_p (fPtr (fPtr p1 0) 0) (P_fieldAddr at_71_0 rfl (PT.ptr cF)) rfl ?_;have zG := PT_field (part_PayTable_0).1 cF;refine EL_do .plain rfl (D_load (g := zE) Tryd.isAgg69 Tryd.sizeOf69 rfl zG fun aH cH => ?_);refine EL_p ((.func (.func 84) #[] #[p1])) (P_makeFunc (capf_0_1 (show ev _ _ = p1 from vC))) rfl ?_;obtain ⟨l9, tF, h⟩ := bsome h;refine EL_do .plain rfl (D_call (g := zE) (vs := [aH, (.func (.func 84) #[] #[p1])]) en82 (.cons rfl (.cons rfl .nil)) (wk82 cH ⟨84, #[], #[p1], rfl, en84, fun g' w' hch a0 b0 r hu0 hr => by exact Fn.mono (wk84 hu0 (lB.ch hch) hr) fun _ _ _ h => RV_bool.2 h⟩ tF) fun sH kH tH hs hr => ?_);have hfr := hfr.ext hs;subst hr;refine EL_p (.bool (!l9)) (P_not rfl) rfl ?_;refine EL_at (.bool (!l9)) rfl rfl ?_;refine EL_nil (thn_n (E_ret ?_));obtain rfl := sinj h;exact end1 rfl rfl (show _ = .bool (!l9) from rfl) ⟨_, hfr, rfl⟩
def f76 (x0 : List Int) : Option (Bool) :=
 (f17 ((-1 : Int)) ((1000000 : Int)) x0).bind fun y2 =>
 some (y2)
theorem en76 : Enters Tryd.prog 76 := enters_of Tryd.func76 (by kernel_rfl) rfl
theorem wk76 {gI : Gh} {wI : World} {x0 : List Int} {up0 : Value} (rp0 : RV gI.m wI x0 up0) {r : Bool} (h : f76 x0 = some r) : Fn Tryd.prog 76 #[up0] gI wI (fun _ _ v => v = .bool (r)) := by
 unfold f76 at h;refine fn_of_E Tryd.func76 rfl (Nat.le_of_ble_eq_true rfl) fun g0 hm hfr => ?_;have rp0 : RV g0.m wI x0 up0 := hm ▸ rp0;show E _ 5 none _ _ _ _ _;refine E_seq (E_region (EL_at (.bool false) rfl rfl ?_));refine EL_nil (thn_n (E_seq (E_region (EL_mw up0 rfl rfl ?_))));obtain ⟨y2, hy2, h⟩ := bsome h;refine EL_do .plain rfl (D_call (g := g0) (vs := [.int .i64 (-1), .int .i64 (1000000), up0]) en17 (.cons rfl (.cons rfl (.cons rfl .nil))) (wk17 rp0 hy2) fun g1 w1_ v1 hs hr => ?_);have hfr := hfr.ext hs;subst hr;refine EL_at (.bool (y2)) rfl rfl ?_;refine EL_nil (thn_n (E_ret ?_));obtain rfl := sinj h;exact end1 rfl rfl (show _ = .bool (y2) from rfl) ⟨_, hfr, rfl⟩
def f11 (x0 : ShadeNeed) : Option (Bool) :=
 Option.bind (α := Bool) (
  (f24 ((0 : Int)) ((9 : Int)) (([(x0).Colour] : List Int))).bind fun t5 =>
  bif t5 then
   (f24 ((1 : Int)) ((12000000 : Int)) (([(x0).Grams] : List Int))).bind fun y23 =>
   some (y23)
  else
   some (false)
  ) fun l5 =>
 some (l5)
theorem en11 : Enters Tryd.prog 11 := enters_of Tryd.func11 (by kernel_rfl) rfl
theorem wk11 {gI : Gh} {wI : World} {x0 : ShadeNeed} {up0 : Value} (rp0 : RV gI.m wI x0 up0) {r : Bool} (h : f11 x0 = some r) : Fn Tryd.prog 11 #[up0] gI wI (fun _ _ v => v = .bool (r)) := by
 unfold f11 at h;refine fn_of_E Tryd.func11 rfl (Nat.le_of_ble_eq_true rfl) fun g0 hm hfr => ?_;have rp0 : RV g0.m wI x0 up0 := hm ▸ rp0;show E _ 13 none _ _ _ _ _;refine E_seq (E_region (EL_do .plain rfl (D_box (g := g0) rfl rp0 fun g1 w1 p1 hs q1 => ?_)));have hfr := hfr.ext hs;refine EL_at (.bool false) rfl rfl ?_;refine EL_nil (thn_n ?_);obtain ⟨l5, hx, h⟩ := bsome h;refine E_join (fun e w => ∃ (g : Gh) , Fr gI wI g w ∧ e 2 = .bool (l5)) (fun Q' hQ => ?_) (fun cC bD hR => ?_)
 ·replace h := hx
  clear hx;refine E_region (EL_p (fPtr p1 0) (P_fieldAddr at_33_0 rfl (PT.ptr q1)) rfl ?_);have v8 := PT_field (part_ShadeNeed_0).1 q1;refine EL_do .plain rfl (D_load (g := g1) Tryd.isAgg3 Tryd.sizeOf3 rfl v8 fun cD l9 => ?_);obtain rfl := RV_int.1 l9;refine EL_do .plain rfl (D_buildSlice (g := g1) 3005 (xs := ([(x0).Colour] : List Int)) (vs := [.int .i64 ((x0).Colour)]) Tryd.underlying34 Tryd.sizeOf3 Tryd.zeroValue3 rfl rfl (.cons rfl .nil) (RVs.cons (RV_int.2 rfl) RVs.nil) rfl rfl fun n9 w15 aB hs o15 lB hxt hfl => ?_);have hfr := hfr.stp hs;have q1 := q1.stp hs;obtain ⟨t5, l8, h⟩ := bsome h;refine EL_do .plain rfl (D_call (g := n9) (vs := [.int .i64 (0), .int .i64 (9), aB]) en24 (.cons rfl (.cons rfl (.cons rfl .nil))) (wk24 lB l8) fun i6 uC lD hs hr => ?_);have hfr := hfr.ext hs;have q1 := q1.ext hs;subst hr;refine EL_mw (.bool (t5)) rfl rfl ?_;rcases csome h with ⟨o0, h⟩ | ⟨o0, h⟩
  ·refine EL_y (fPtr p1 1) (P_fieldAddr at_33_1 rfl (PT.ptr q1)) rfl rfl o0 rfl ?_
   have mB := PT_field (part_ShadeNeed_1).1 q1;refine EL_do (.yes2 rfl rfl o0) rfl (D_load (g := i6) Tryd.isAgg3 Tryd.sizeOf3 rfl mB fun nD nB => ?_);obtain rfl := RV_int.1 nB;refine EL_do (.yes2 rfl rfl o0) rfl (D_buildSlice (g := i6) 3010 (xs := ([(x0).Grams] : List Int)) (vs := [.int .i64 ((x0).Grams)]) Tryd.underlying34 Tryd.sizeOf3 Tryd.zeroValue3 rfl rfl (.cons rfl .nil) (RVs.cons (RV_int.2 rfl) RVs.nil) rfl rfl fun oB oD vB hs o21 yB hxt hfl => ?_);have hfr := hfr.stp hs;obtain ⟨y23, n8, h⟩ := bsome h;refine EL_do (.yes2 rfl rfl o0) rfl (D_call (g := oB) (vs := [.int .i64 (1), .int .i64 (12000000), vB]) en24 (.cons rfl (.cons rfl (.cons rfl .nil))) (wk24 yB n8) fun zB vC yD hs hr => ?_);have hfr := hfr.ext hs;subst hr;refine EL_p (.bool (y23)) (P_pick (b := t5) rfl (pick_t o0 rfl)) rfl ?_;refine EL_at (.bool (y23)) rfl rfl ?_;refine EL_nil ?_;obtain rfl := sinj h;exact hQ _ _ ⟨zB, hfr, rfl⟩
  ·refine EL_s rfl rfl o0 rfl rfl ?_
   iterate 3 refine EL_s rfl rfl o0 rfl rfl ?_
   refine EL_p (.bool false) (P_pick (b := t5) rfl (pick_f o0 rfl)) rfl ?_;refine EL_at (.bool false) rfl rfl ?_;refine EL_nil ?_;obtain rfl := sinj h;exact hQ _ _ ⟨i6, hfr, rfl⟩
 ·clear hx
  obtain ⟨zD, hfr, g8⟩ := hR;refine E_ret ?_;obtain rfl := sinj h;exact end1 rfl rfl (show _ = .bool (l5) from g8) ⟨_, hfr, rfl⟩
def f12 (x0 : ShadeStore) (x1 : ShadeNeed) : Option ((List Int) × Int) :=
 Option.bind (α := (List Int)) (
  lp (σ := (List Int) × U64) (fun lI (l5, o0) =>
   jn (σ := Unit) (fun _ =>
    Option.bind (α := (List Int)) (
     (f25 o0).bind fun cC =>
     jn (σ := Unit) (fun _ =>
      Option.bind (α := Bool) (
       bif (l5).isEmpty then
        some (true)
       else
        (f20 (((cC).length : Int)) (((l5).length : Int))).bind fun vE =>
        (f29 cC l5).bind fun xE =>
        (f28 (([vE, xE] : List Int))).bind fun yE =>
        some ((decide (yE < (0 : Int))))
       ) fun nD =>
      bif nD then
       (neL cC).bind fun gL =>
       some (cC)
      else
       some (l5)
      ) fun mI =>
     Option.bind (α := Bool) (
      (idx cC (0 : Int)).bind fun uC =>
      (idx ((x0).lots) uC).bind fun nB =>
      bif ((nB).Colour != (x1).Colour) then
       some (true)
      else
       (f26 x0 o0).bind fun oB =>
       bif (decide (oB < (x1).Grams)) then
        some (true)
       else
        (f27 x0 o0).bind fun aE =>
        some ((!aE))
      ) fun oD =>
     bif oD then
      some (l5)
     else
      mI ()
     ) fun yD =>
    lI (yD, (⟨wu64 (((o0).n) + ((1 : Int)))⟩ : U64))
    ) fun nI =>
   (shlU ((1 : Int)) ((((x0).lots).length : Int))).bind fun zE =>
   bif (decide ((o0).n < zE)) then
    nI ()
   else
    some (l5)
   ) big ([], (⟨1⟩ : U64))
  ) fun lD =>
 jn (σ := (List Int)) (fun jG =>
  some (jG, (0 : Int))
  ) fun pI =>
 bif (lD).isEmpty then
  some ([], (7 : Int))
 else
  pI (lD)
theorem en12 : Enters Tryd.prog 12 := enters_of Tryd.func12 (by kernel_rfl) rfl
theorem wk12 {gI : Gh} {wI : World} {x0 : ShadeStore} {x1 : ShadeNeed} {up0 : Value} (rp0 : RV gI.m wI x0 up0) {up1 : Value} (rp1 : RV gI.m wI x1 up1) (hT : TabF 1 gI.m wI) {r : (List Int) × Int} (h : f12 x0 x1 = some r) : Fn Tryd.prog 12 #[up0, up1] gI wI (fun m w v => ∃ y0 y1, v = .tuple #[y0, y1] ∧ RV m w (r.1) y0 ∧ y1 = .int .i64 (r.2)) := by
 unfold f12 at h;refine fn_of_E Tryd.func12 rfl (Nat.le_of_ble_eq_true rfl) fun g0 hm hfr => ?_;have hT : TabF 1 g0.m wI := hm ▸ hT;have rp0 : RV g0.m wI x0 up0 := hm ▸ rp0;have rp1 : RV g0.m wI x1 up1 := hm ▸ rp1;show E _ 62 none _ _ _ _ _;refine E_seq (E_region (EL_do .plain rfl (D_box (g := g0) rfl rp0 fun g1 w1 p1 hs q1 => ?_)));have hfr := hfr.ext hs;have rp1 := rp1.ext hs;have hT := hT.ext hs;refine EL_do .plain rfl (D_box (g := g1) rfl rp1 fun g2 w2 p2 hs q2 => ?_);have hfr := hfr.ext hs;have hT := hT.ext hs;have q1 := q1.ext hs;refine EL_at (.slice none 0 0) rfl rfl ?_;refine EL_at (.int .i64 (0)) rfl rfl ?_;refine EL_nil (thn_n ?_);obtain ⟨lD, hx, h⟩ := bsome h;refine E_join (fun e w => ∃ (g : Gh) (v4 : Value), Fr gI wI g w ∧ e 4 = v4 ∧ RV g.m w (lD : List Int) v4 ∧ ((lD : List Int) = [] → v4 = .slice none 0 0) ∧ TabF 1 g.m w) (fun Q' hQ => ?_) (fun bN pN hR => ?_)
 ·replace h := hx
  clear hx;refine E_seq (E_region (EL_at (.int .u64 (1)) rfl rfl ?_));refine EL_nil (thn_n (E_block ?_));refine E_lp h (fun (s : (List Int) × U64) e w => ∃ (g : Gh) (v4 : Value), Fr gI wI g w ∧ e 2 = p1 ∧ PT g.m w (x0 : ShadeStore) p1 ∧ e 3 = p2 ∧ PT g.m w (x1 : ShadeNeed) p2 ∧ e 4 = v4 ∧ RV g.m w (s.1 : List Int) v4 ∧ ((s.1 : List Int) = [] → v4 = .slice none 0 0) ∧ e 6 = .int .u64 ((s.2).n) ∧ TabF 1 g.m w) ⟨g2, (.slice none 0 0), hfr, rfl, q1, rfl, q2, rfl, RV_nil, (fun _ => rfl), rfl, hT⟩ (fun X3157 lI qK => ?_);rintro ⟨l5, o0⟩ cN qN ⟨yH, t5, hfr, kG, rE, mJ, nJ, lG, mG, rF, sG, hT⟩ h;refine E_joinC h (fun (s : Unit) e w => ∃ (g : Gh) , Fr gI wI g w ∧ e 2 = p1 ∧ PT g.m w (x0 : ShadeStore) p1 ∧ e 3 = p2 ∧ PT g.m w (x1 : ShadeNeed) p2 ∧ e 4 = t5 ∧ RV g.m w (l5 : List Int) t5 ∧ ((l5 : List Int) = [] → t5 = .slice none 0 0) ∧ e 6 = .int .u64 ((o0).n) ∧ TabF 1 g.m w) (fun X3163 nI sK h => ?_) ?_
  ·refine E_seq (E_region (EL_mv sG rfl ?_))
   refine EL_p (fPtr p1 0) (P_fieldAddr at_48_0 kG (PT.ptr rE)) rfl ?_;have iL := PT_field (part_ShadeStore_0).1 rE;refine EL_do .plain rfl (D_load (g := yH) Tryd.isAgg25 Tryd.sizeOf25 rfl iL fun rN jL => ?_);refine EL_p (.int .i64 (((x0).lots).length : Int)) (P_len Tryd.underlying25 rfl jL) rfl ?_;obtain ⟨zE, tK, h⟩ := bsome h;refine EL_p (.int .u64 (zE)) (P_shlU rfl rfl tK) rfl ?_;refine EL_p (.bool (decide ((o0).n < zE))) (P_u64cmp rfl rfl rfl) rfl ?_;refine EL_nil (thn_n ?_);rcases csome h with ⟨sF, h⟩ | ⟨sF, h⟩
   ·refine E_ct sF rfl ?_
    exact E_skip (thn_n (sK () _ _ ⟨yH, hfr, kG, rE, mJ, nJ, lG, mG, rF, sG, hT⟩ h))
   ·refine E_cf sF rfl ?_
    refine E_exit ?_;refine thn_e ?_;refine thn_e ?_;refine blk_hit ?_;obtain rfl := sinj h;exact hQ _ _ ⟨yH, (t5), hfr, lG, mG, rF, hT⟩
  ·rintro _ dN sN ⟨lL, hfr, vB, g8, zB, i6, uE, aB, iE, vC, hT⟩ h
   obtain ⟨yD, hx, h⟩ := bsome h;refine E_join (fun e w => ∃ (g : Gh) (v4 : Value), Fr gI wI g w ∧ e 2 = p1 ∧ PT g.m w (x0 : ShadeStore) p1 ∧ e 3 = p2 ∧ PT g.m w (x1 : ShadeNeed) p2 ∧ e 4 = v4 ∧ RV g.m w (yD : List Int) v4 ∧ ((yD : List Int) = [] → v4 = .slice none 0 0) ∧ e 6 = .int .u64 ((o0).n) ∧ TabF 1 g.m w) (fun Q' hQ => ?_) (fun eN tN hR => ?_)
   ·replace h := hx
    clear hx;refine E_block ?_;refine E_seq (E_region (EL_mv vC rfl ?_));obtain ⟨cC, uK, h⟩ := bsome h;refine EL_do .plain rfl (D_call (g := lL) (vs := [.int .u64 ((o0).n)]) en25 (.cons rfl .nil) (wk25 (hT := hT)  uK) fun zH gN l9 hs hr => ?_);have hfr := hfr.ext hs;have g8 := g8.ext hs;have i6 := i6.ext hs;have aB := aB.ext hs;have hT := hT.ext hs;have yB := hr;refine EL_at l9 rfl rfl ?_;refine EL_nil (thn_n (E_joinC h (fun (s : Unit) e w => ∃ (g : Gh) , Fr gI wI g w ∧ e 2 = p1 ∧ PT g.m w (x0 : ShadeStore) p1 ∧ e 3 = p2 ∧ PT g.m w (x1 : ShadeNeed) p2 ∧ e 4 = t5 ∧ RV g.m w (l5 : List Int) t5 ∧ ((l5 : List Int) = [] → t5 = .slice none 0 0) ∧ e 6 = .int .u64 ((o0).n) ∧ e 7 = l9 ∧ RV g.m w (cC : List Int) l9 ∧ TabF 1 g.m w) (fun X3938 mI vK h => ?_) ?_))
    ·obtain ⟨oD, hx, h⟩ := bsome h
     refine E_join (fun e w => ∃ (g : Gh) , Fr gI wI g w ∧ e 2 = p1 ∧ PT g.m w (x0 : ShadeStore) p1 ∧ e 3 = p2 ∧ PT g.m w (x1 : ShadeNeed) p2 ∧ e 4 = t5 ∧ RV g.m w (l5 : List Int) t5 ∧ ((l5 : List Int) = [] → t5 = .slice none 0 0) ∧ e 6 = .int .u64 ((o0).n) ∧ e 7 = l9 ∧ RV g.m w (cC : List Int) l9 ∧ e 42 = .bool (oD) ∧ TabF 1 g.m w) (fun Q' hQ => ?_) (fun iN uN hR => ?_)
     ·replace h := hx
      clear hx;have mL := PT_field (part_ShadeStore_0).1 g8;refine L_load (x := .tmp 18) Tryd.isAgg25 Tryd.sizeOf25 mL fun cD cF tF => ?_;obtain ⟨uC, mE, h⟩ := bsome h;have nL := PT_idx yB mE;refine L_load (x := .tmp 21) Tryd.isAgg3 Tryd.sizeOf3 nL fun vN oL uF => ?_;obtain rfl := RV_int.1 oL;obtain ⟨nB, oE, h⟩ := bsome h;have dF := PT_idx cF oE;have xL := PT_field (part_ShadeLot_0).1 dF;refine L_load (x := .tmp 24) Tryd.isAgg3 Tryd.sizeOf3 xL fun xN yL vF => ?_;obtain rfl := RV_int.1 yL;have zL := PT_field (part_ShadeNeed_0).1 i6;refine L_load (x := .tmp 26) Tryd.isAgg3 Tryd.sizeOf3 zL fun yN aM xF => ?_;obtain rfl := RV_int.1 aM;rcases csome h with ⟨l8, h⟩ | ⟨l8, h⟩
      ·refine E_drawL (g := zH) (n := 25) [] [0, 1, 2, 3, 4, 5, 6, 7, 8, 9, 10, 11, 12, 13, 14, 15, 16, 17, 18, 19, 20, 21, 22, 23, 24] rfl mixed (by kernel_rfl) trivial ?_
       refine L_p (fPtr p1 0) rfl rfl (P_fieldAddr at_48_0 vB (PT.ptr g8)) ?_;refine L_ld (c := cD) rfl rfl .plain (fun _ _ h => h.ch) tF rfl ?_;refine L_p l9 rfl rfl (P_move rfl) ?_;refine L_p (ePtr l9 (0 : Int) 1) rfl rfl (P_indexAddr (α := Int) Tryd.underlying34 Tryd.sizeOf3 rfl yB rfl mE) ?_;refine L_ld (c := .int .i64 (uC)) rfl rfl .plain (fun _ _ h => h.ch) uF rfl ?_;refine L_p (ePtr cD uC 4) rfl rfl (P_indexAddr (α := ShadeLot) Tryd.underlying25 Tryd.sizeOf31 rfl cF rfl oE) ?_;refine L_p (fPtr (ePtr cD uC 4) 0) rfl rfl (P_fieldAddr at_31_0 rfl (PT.ptr dF)) ?_;refine L_ld (c := .int .i64 ((nB).Colour)) rfl rfl .plain (fun _ _ h => h.ch) vF rfl ?_;refine L_p (fPtr p2 0) rfl rfl (P_fieldAddr at_33_0 zB (PT.ptr i6)) ?_;refine L_ld (c := .int .i64 ((x1).Colour)) rfl rfl .plain (fun _ _ h => h.ch) xF rfl ?_;refine L_p (.bool (((nB).Colour != (x1).Colour))) rfl rfl (P_int rfl rfl rfl) ?_;refine L_p (.bool (((nB).Colour != (x1).Colour))) rfl rfl (P_move rfl) ?_;iterate 6 refine L_s rfl rfl rfl l8 rfl ?_
       refine L_p (.bool true) rfl rfl (P_pick (b := ((nB).Colour != (x1).Colour)) rfl (pick_t l8 rfl)) ?_;refine L_dead (fun _ => rfl) 6 rfl ?_;refine L_nl fun bM zN hs => ?_;have hfr := hfr.ext hs;have g8 := g8.ext hs;have i6 := i6.ext hs;have aB := aB.ext hs;have hT := hT.ext hs;have yB := yB.ext hs;clear hs;refine EL_nil ?_;obtain rfl := sinj h;exact hQ _ _ ⟨bM, hfr, vB, g8, zB, i6, uE, aB, iE, vC, rfl, yB, rfl, hT⟩
      ·refine L_load (x := .tmp 2) Tryd.isAgg48 Tryd.sizeOf48 g8 fun eF qI bI => ?_
       obtain ⟨oB, dI, h⟩ := bsome h;have cM := PT_field (part_ShadeNeed_1).1 i6;refine L_load (x := .tmp 33) Tryd.isAgg3 Tryd.sizeOf3 cM fun aO dM iI => ?_;obtain rfl := RV_int.1 dM;rcases csome h with ⟨bD, h⟩ | ⟨bD, h⟩
       ·refine E_drawL (g := zH) (n := 25) [(14, (fun v g w => v = .int .i64 (oB)))] [0, 1, 2, 3, 4, 5, 6, 7, 8, 9, 10, 11, 12, 13, 14, 15, 16, 17, 18, 19, 20, 21, 22, 23, 24] rfl mixed (by kernel_rfl) (⟨fun _ => up_eq _, trivial⟩) ?_
        refine L_p (fPtr p1 0) rfl rfl (P_fieldAddr at_48_0 vB (PT.ptr g8)) ?_;refine L_ld (c := cD) rfl rfl .plain (fun _ _ h => h.ch) tF rfl ?_;refine L_p l9 rfl rfl (P_move rfl) ?_;refine L_p (ePtr l9 (0 : Int) 1) rfl rfl (P_indexAddr (α := Int) Tryd.underlying34 Tryd.sizeOf3 rfl yB rfl mE) ?_;refine L_ld (c := .int .i64 (uC)) rfl rfl .plain (fun _ _ h => h.ch) uF rfl ?_;refine L_p (ePtr cD uC 4) rfl rfl (P_indexAddr (α := ShadeLot) Tryd.underlying25 Tryd.sizeOf31 rfl cF rfl oE) ?_;refine L_p (fPtr (ePtr cD uC 4) 0) rfl rfl (P_fieldAddr at_31_0 rfl (PT.ptr dF)) ?_;refine L_ld (c := .int .i64 ((nB).Colour)) rfl rfl .plain (fun _ _ h => h.ch) vF rfl ?_;refine L_p (fPtr p2 0) rfl rfl (P_fieldAddr at_33_0 zB (PT.ptr i6)) ?_;refine L_ld (c := .int .i64 ((x1).Colour)) rfl rfl .plain (fun _ _ h => h.ch) xF rfl ?_;refine L_p (.bool (((nB).Colour != (x1).Colour))) rfl rfl (P_int rfl rfl rfl) ?_;refine L_p (.bool (((nB).Colour != (x1).Colour))) rfl rfl (P_move rfl) ?_;refine L_ld (c := eF) rfl rfl (.yes2 rfl rfl l8) (fun _ _ h => h.ch) bI vB ?_;refine L_y (.int .u64 ((o0).n)) rfl rfl rfl rfl l8 (P_move vC) ?_;refine L_do (φ := fun v g w => v = .int .i64 (oB)) rfl rfl (.yes2 rfl rfl l8) (fun g w hd => D_call (g := g) (vs := [eF, .int .u64 ((o0).n)]) en26 (.cons rfl (.cons rfl .nil)) (wk26 (hT := hT.ext hd.1) (qI.ext hd.1) dI) fun g' w' v hs hr => ⟨g', hs, hr⟩) (fun eM hv => ?_);obtain ⟨_, _, _, rfl⟩ := hv;refine L_y (fPtr p2 1) rfl rfl rfl rfl l8 (P_fieldAddr at_33_1 zB (PT.ptr i6)) ?_;refine L_ld (c := .int .i64 ((x1).Grams)) rfl rfl (.yes2 rfl rfl l8) (fun _ _ h => h.ch) iI rfl ?_;refine L_y (.bool ((decide (oB < (x1).Grams)))) rfl rfl rfl rfl l8 (P_int rfl rfl rfl) ?_;refine L_p (.bool ((decide (oB < (x1).Grams)))) rfl rfl (P_pick (b := ((nB).Colour != (x1).Colour)) rfl (pick_f l8 rfl)) ?_;refine L_p (.bool ((decide (oB < (x1).Grams)))) rfl rfl (P_move rfl) ?_;iterate 4 refine L_s rfl rfl rfl bD rfl ?_
        refine L_p (.bool true) rfl rfl (P_pick (b := (decide (oB < (x1).Grams))) rfl (pick_t bD rfl)) ?_;refine L_nl fun iM bO hs => ?_;have hfr := hfr.ext hs;have g8 := g8.ext hs;have i6 := i6.ext hs;have aB := aB.ext hs;have hT := hT.ext hs;have yB := yB.ext hs;clear hs;refine EL_nil ?_;obtain rfl := sinj h;exact hQ _ _ ⟨iM, hfr, vB, g8, zB, i6, uE, aB, iE, vC, rfl, yB, rfl, hT⟩
       ·refine L_load (x := .tmp 2) Tryd.isAgg48 Tryd.sizeOf48 g8 fun sI jM xK => ?_
        obtain ⟨aE, yK, h⟩ := bsome h;refine E_drawL (g := zH) (n := 25) [(14, (fun v g w => v = .int .i64 (oB))), (22, (fun v g w => v = .bool (aE)))] [0, 1, 2, 3, 4, 5, 6, 7, 8, 9, 10, 11, 12, 13, 14, 15, 16, 17, 18, 19, 20, 21, 22, 23, 24] rfl mixed (by kernel_rfl) (⟨fun _ => up_eq _, fun _ => up_eq _, trivial⟩) ?_;refine L_p (fPtr p1 0) rfl rfl (P_fieldAddr at_48_0 vB (PT.ptr g8)) ?_;refine L_ld (c := cD) rfl rfl .plain (fun _ _ h => h.ch) tF rfl ?_;refine L_p l9 rfl rfl (P_move rfl) ?_;refine L_p (ePtr l9 (0 : Int) 1) rfl rfl (P_indexAddr (α := Int) Tryd.underlying34 Tryd.sizeOf3 rfl yB rfl mE) ?_;refine L_ld (c := .int .i64 (uC)) rfl rfl .plain (fun _ _ h => h.ch) uF rfl ?_;refine L_p (ePtr cD uC 4) rfl rfl (P_indexAddr (α := ShadeLot) Tryd.underlying25 Tryd.sizeOf31 rfl cF rfl oE) ?_;refine L_p (fPtr (ePtr cD uC 4) 0) rfl rfl (P_fieldAddr at_31_0 rfl (PT.ptr dF)) ?_;refine L_ld (c := .int .i64 ((nB).Colour)) rfl rfl .plain (fun _ _ h => h.ch) vF rfl ?_;refine L_p (fPtr p2 0) rfl rfl (P_fieldAddr at_33_0 zB (PT.ptr i6)) ?_;refine L_ld (c := .int .i64 ((x1).Colour)) rfl rfl .plain (fun _ _ h => h.ch) xF rfl ?_;refine L_p (.bool (((nB).Colour != (x1).Colour))) rfl rfl (P_int rfl rfl rfl) ?_;refine L_p (.bool (((nB).Colour != (x1).Colour))) rfl rfl (P_move rfl) ?_;refine L_ld (c := eF) rfl rfl (.yes2 rfl rfl l8) (fun _ _ h => h.ch) bI vB ?_;refine L_y (.int .u64 ((o0).n)) rfl rfl rfl rfl l8 (P_move vC) ?_;refine L_do (φ := fun v g w => v = .int .i64 (oB)) rfl rfl (.yes2 rfl rfl l8) (fun g w hd => D_call (g := g) (vs := [eF, .int .u64 ((o0).n)]) en26 (.cons rfl (.cons rfl .nil)) (wk26 (hT := hT.ext hd.1) (qI.ext hd.1) dI) fun g' w' v hs hr => ⟨g', hs, hr⟩) (fun eM hv => ?_);obtain ⟨_, _, _, rfl⟩ := hv;refine L_y (fPtr p2 1) rfl rfl rfl rfl l8 (P_fieldAddr at_33_1 zB (PT.ptr i6)) ?_;refine L_ld (c := .int .i64 ((x1).Grams)) rfl rfl (.yes2 rfl rfl l8) (fun _ _ h => h.ch) iI rfl ?_;refine L_y (.bool ((decide (oB < (x1).Grams)))) rfl rfl rfl rfl l8 (P_int rfl rfl rfl) ?_;refine L_p (.bool ((decide (oB < (x1).Grams)))) rfl rfl (P_pick (b := ((nB).Colour != (x1).Colour)) rfl (pick_f l8 rfl)) ?_;refine L_p (.bool ((decide (oB < (x1).Grams)))) rfl rfl (P_move rfl) ?_;refine L_ld (c := sI) rfl rfl (.yes2 rfl rfl bD) (fun _ _ h => h.ch) xK vB ?_;refine L_y (.int .u64 ((o0).n)) rfl rfl rfl rfl bD (P_move vC) ?_;refine L_do (φ := fun v g w => v = .bool (aE)) rfl rfl (.yes2 rfl rfl bD) (fun g w hd => D_call (g := g) (vs := [sI, .int .u64 ((o0).n)]) en27 (.cons rfl (.cons rfl .nil)) (wk27 (hT := hT.ext hd.1) (jM.ext hd.1) yK) fun g' w' v hs hr => ⟨g', hs, hr⟩) (fun cO hv => ?_);obtain ⟨_, _, _, rfl⟩ := hv;refine L_y (.bool (!aE)) rfl rfl rfl rfl bD (P_not rfl) ?_;refine L_p (.bool (!aE)) rfl rfl (P_pick (b := (decide (oB < (x1).Grams))) rfl (pick_f bD rfl)) ?_;refine L_nl fun kM dO hs => ?_;have hfr := hfr.ext hs;have g8 := g8.ext hs;have i6 := i6.ext hs;have aB := aB.ext hs;have hT := hT.ext hs;have yB := yB.ext hs;clear hs;refine EL_nil ?_;obtain rfl := sinj h;exact hQ _ _ ⟨kM, hfr, vB, g8, zB, i6, uE, aB, iE, vC, rfl, yB, rfl, hT⟩
     ·clear hx
      obtain ⟨jJ, hfr, xG, yG, zG, aH, cH, gH, yF, jH, oJ, pJ, aG, hT⟩ := hR;rcases csome h with ⟨bG, h⟩ | ⟨bG, h⟩
      ·refine E_cond_true (Eq.trans (show ev _ _ = .bool (oD) from aG) (congrArg Value.bool bG)) ?_
       refine E_exit ?_;refine thn_e ?_;refine blk_hit ?_;obtain rfl := sinj h;exact hQ _ _ ⟨jJ, (t5), hfr, xG, yG, zG, aH, cH, gH, yF, jH, hT⟩
      ·refine E_cond_false (Eq.trans (show ev _ _ = .bool (oD) from aG) (congrArg Value.bool bG)) ?_
       exact E_skip (thn_n (vK () _ _ ⟨jJ, hfr, xG, yG, zG, aH, cH, gH, yF, jH, oJ, pJ, hT⟩ h))
    ·rintro _ jN eO ⟨aI, hfr, kH, lB, lH, mB, zD, v8, lE, mH, bE, n9, hT⟩ h
     obtain ⟨nD, hx, h⟩ := bsome h;refine E_join (fun e w => ∃ (g : Gh) , Fr gI wI g w ∧ e 2 = p1 ∧ PT g.m w (x0 : ShadeStore) p1 ∧ e 3 = p2 ∧ PT g.m w (x1 : ShadeNeed) p2 ∧ e 4 = t5 ∧ RV g.m w (l5 : List Int) t5 ∧ ((l5 : List Int) = [] → t5 = .slice none 0 0) ∧ e 6 = .int .u64 ((o0).n) ∧ e 7 = l9 ∧ RV g.m w (cC : List Int) l9 ∧ e 57 = .bool (nD) ∧ TabF 1 g.m w) (fun Q' hQ => ?_) (fun kN gO hR => ?_)
     ·replace h := hx
      clear hx;refine E_region (EL_mv zD rfl ?_);refine EL_do .plain rfl (D_nilS (g := aI) Tryd.underlying34 rfl v8 lE ?_);refine EL_mw (.bool ((l5).isEmpty)) rfl rfl ?_;rcases csome h with ⟨n8, h⟩ | ⟨n8, h⟩
      ·refine EL_s rfl rfl n8 rfl rfl ?_
       iterate 10 refine EL_s rfl rfl n8 rfl rfl ?_
       refine EL_p (.bool true) (P_pick (b := (l5).isEmpty) rfl (pick_t n8 rfl)) rfl ?_;refine EL_nil ?_;obtain rfl := sinj h;exact hQ _ _ ⟨aI, hfr, kH, lB, lH, mB, zD, v8, lE, mH, bE, n9, rfl, hT⟩
      ·refine EL_y l9 (P_move bE) rfl rfl n8 rfl ?_
       refine EL_y (.int .i64 ((cC).length : Int)) (P_len Tryd.underlying34 rfl n9) rfl rfl n8 rfl ?_;refine EL_y t5 (P_move zD) rfl rfl n8 rfl ?_;refine EL_y (.int .i64 ((l5).length : Int)) (P_len Tryd.underlying34 rfl v8) rfl rfl n8 rfl ?_;obtain ⟨vE, zK, h⟩ := bsome h;refine EL_do (.yes2 rfl rfl n8) rfl (D_call (g := aI) (vs := [.int .i64 ((cC).length : Int), .int .i64 ((l5).length : Int)]) en20 (.cons rfl (.cons rfl .nil)) (wk20  zK) fun pM lN jO hs hr => ?_);have hfr := hfr.ext hs;have lB := lB.ext hs;have mB := mB.ext hs;have v8 := v8.ext hs;have n9 := n9.ext hs;have hT := hT.ext hs;subst hr;refine EL_y l9 (P_move bE) rfl rfl n8 rfl ?_;refine EL_y t5 (P_move zD) rfl rfl n8 rfl ?_;obtain ⟨xE, aL, h⟩ := bsome h;refine EL_do (.yes2 rfl rfl n8) rfl (D_call (g := pM) (vs := [l9, t5]) en29 (.cons rfl (.cons rfl .nil)) (wk29 n9 v8 aL) fun qM mN kO hs hr => ?_);have hfr := hfr.ext hs;have lB := lB.ext hs;have mB := mB.ext hs;have v8 := v8.ext hs;have n9 := n9.ext hs;have hT := hT.ext hs;subst hr;refine EL_do (.yes2 rfl rfl n8) rfl (D_buildSlice (g := qM) 3054 (xs := ([vE, xE] : List Int)) (vs := [.int .i64 (vE), .int .i64 (xE)]) Tryd.underlying34 Tryd.sizeOf3 Tryd.zeroValue3 rfl rfl (.cons rfl (.cons rfl .nil)) (RVs.cons (RV_int.2 rfl) (RVs.cons (RV_int.2 rfl) RVs.nil)) rfl rfl fun rM lO sM hs o4201 tM hxt hfl => ?_);have hfr := hfr.stp hs;have lB := lB.stp hs;have mB := mB.stp hs;have v8 := v8.stp hs;have n9 := n9.stp hs;have hT := hT.stp hs;obtain ⟨yE, bL, h⟩ := bsome h;refine EL_do (.yes2 rfl rfl n8) rfl (D_call (g := rM) (vs := [sM]) en28 (.cons rfl .nil) (wk28 tM bL) fun uM nN mO hs hr => ?_);have hfr := hfr.ext hs;have lB := lB.ext hs;have mB := mB.ext hs;have v8 := v8.ext hs;have n9 := n9.ext hs;have hT := hT.ext hs;subst hr;refine EL_y (.bool ((decide (yE < (0 : Int))))) (P_int rfl rfl rfl) rfl rfl n8 rfl ?_;refine EL_p (.bool ((decide (yE < (0 : Int))))) (P_pick (b := (l5).isEmpty) rfl (pick_f n8 rfl)) rfl ?_;refine EL_nil ?_;obtain rfl := sinj h;exact hQ _ _ ⟨uM, hfr, kH, lB, lH, mB, zD, v8, lE, mH, bE, n9, rfl, hT⟩
     ·clear hx
      obtain ⟨kJ, hfr, nH, oH, pH, qH, qJ, rJ, jI, sH, sJ, vJ, cG, hT⟩ := hR;rcases csome h with ⟨eG, h⟩ | ⟨eG, h⟩
      ·refine E_cond_true (Eq.trans (show ev _ _ = .bool (nD) from cG) (congrArg Value.bool eG)) ?_
       refine E_region (EL_mv sJ rfl ?_);refine EL_at l9 rfl rfl ?_;obtain ⟨gL, dL, h⟩ := bsome h;refine EL_nil (blk_n ?_);obtain rfl := sinj h;exact hQ _ _ ⟨kJ, (l9), hfr, nH, oH, pH, qH, rfl, vJ, (neL_nn dL), sH, hT⟩
      ·refine E_cond_false (Eq.trans (show ev _ _ = .bool (nD) from cG) (congrArg Value.bool eG)) ?_
       refine E_skip (blk_n ?_);obtain rfl := sinj h;exact hQ _ _ ⟨kJ, (t5), hfr, nH, oH, pH, qH, qJ, rJ, jI, sH, hT⟩
   ·clear hx
    obtain ⟨vM, xJ, hfr, zJ, aK, bK, cK, dK, lK, kI, mK, hT⟩ := hR;refine E_region (EL_mv mK rfl ?_);refine EL_p (.int .u64 (wu64 (((o0).n) + ((1 : Int))))) (P_uadd rfl rfl) rfl ?_;refine EL_at (.int .u64 (wu64 (((o0).n) + ((1 : Int))))) rfl rfl ?_;exact EL_nil (thn_n (qK (yD, (⟨wu64 (((o0).n) + ((1 : Int)))⟩ : U64)) _ _ ⟨vM, (xJ), hfr, zJ, aK, bK, cK, dK, lK, kI, rfl, hT⟩ h))
 ·clear hx
  obtain ⟨lJ, nK, hfr, tH, uH, gG, hT⟩ := hR;refine E_joinC h (fun (s : (List Int)) e w => ∃ (g : Gh) (v4 : Value), Fr gI wI g w ∧ e 4 = v4 ∧ RV g.m w (s : List Int) v4 ∧ ((s : List Int) = [] → v4 = .slice none 0 0) ∧ TabF 1 g.m w) (fun X4210 pI eL h => ?_) ?_
  ·refine E_seq (E_region (EL_mv tH rfl ?_))
   refine EL_do .plain rfl (D_nilS (g := lJ) Tryd.underlying34 rfl uH gG ?_);refine EL_nil (thn_n ?_);rcases csome h with ⟨iG, h⟩ | ⟨iG, h⟩
   ·refine E_ct iG rfl ?_
    refine E_seq (E_region (EL_at (.slice none 0 0) rfl rfl ?_));refine EL_at (.int .i64 (7)) rfl rfl ?_;refine EL_nil (thn_n (E_ret (thn_r ?_)));obtain rfl := sinj h;exact end2 rfl rfl (show _ = .slice none 0 0 from rfl) (show _ = .int .i64 (7) from rfl) ⟨_, hfr, _, _, rfl, RV_nil, rfl⟩
   ·refine E_cf iG rfl ?_
    exact E_skip (thn_n (eL (lD) _ _ ⟨lJ, (nK), hfr, tH, uH, gG, hT⟩ h))
  ·rintro jG oN nO ⟨oO, xH, hfr, oK, pK, xM, hT⟩ h
   refine E_seq (E_region (EL_mv oK rfl ?_));refine EL_at xH rfl rfl ?_;refine EL_at (.int .i64 (0)) rfl rfl ?_;refine EL_nil (thn_n (E_ret ?_));obtain rfl := sinj h;exact end2 rfl rfl (show _ = xH from rfl) (show _ = .int .i64 (0) from rfl) ⟨_, hfr, _, _, rfl, pK, rfl⟩
def f21 (x0 : Int) (x1 : Int) (x2 : List ShadeEntry) : Option (ShadeBook × Int) :=
 jn (σ := ShadeBook) (fun zB =>
  some ((⟨x0, x1, x2⟩ : ShadeBook), (0 : Int))
  ) fun oD =>
 Option.bind (α := Bool) (
  (f24 ((1 : Int)) ((1000000 : Int)) (([x0] : List Int))).bind fun n8 =>
  bif (!n8) then
   some ((!n8))
  else
   (f24 ((0 : Int)) ((1000 : Int)) (([x1] : List Int))).bind fun mB =>
   some ((!mB))
  ) fun i6 =>
 bif i6 then
  some ((⟨0, 0, []⟩ : ShadeBook), (2 : Int))
 else
  bif (decide (((x2).length : Int) > (40 : Int))) then
   some ((⟨0, 0, []⟩ : ShadeBook), (5 : Int))
  else
   (f43 x2 ((fun a0 => f42 a0))).bind fun y56 =>
   bif y56 then
    some ((⟨0, 0, []⟩ : ShadeBook), (2 : Int))
   else
    oD ((⟨0, 0, []⟩ : ShadeBook))
theorem en21 : Enters Tryd.prog 21 := enters_of Tryd.func21 (by kernel_rfl) rfl
theorem wk21 {gI : Gh} {wI : World} {x0 : Int} {x1 : Int} {x2 : List ShadeEntry} {up2 : Value} (rp2 : RV gI.m wI x2 up2) {r : ShadeBook × Int} (h : f21 x0 x1 x2 = some r) : Fn Tryd.prog 21 #[.int .i64 (x0), .int .i64 (x1), up2] gI wI (fun m w v => ∃ y0 y1, v = .tuple #[y0, y1] ∧ RV m w (r.1) y0 ∧ y1 = .int .i64 (r.2)) := by
 unfold f21 at h;refine fn_of_E Tryd.func21 rfl (Nat.le_of_ble_eq_true rfl) fun g0 hm hfr => ?_;have rp2 : RV g0.m wI x2 up2 := hm ▸ rp2;show E _ 33 none _ _ _ _ _;refine E_seq (E_region (EL_do .plain rfl (D_allocOc (g := g0) 2006 (⟨0, 0, []⟩ : ShadeBook) Tryd.zeroValue76 (fun m w => ⟨_, (rep_two rep_int (rep_two rep_int rep_nil)), rfl⟩) fun g1 w1 p1 hs b1 cb => ?_)));have hfr := hfr.stp hs;have rp2 := rp2.stp hs;have t5 : OSF 2006 60602 2 g1 w1 45 76 ([] : List ShadeEntry) p1 := cb.osf (by rfl);clear cb;refine EL_at (.int .i64 (0)) rfl rfl ?_;refine EL_nil (thn_n (E_seq (E_region (EL_at (.func (.func 42) #[] #[]) rfl rfl ?_))));refine EL_nil (thn_n (E_joinC h (fun (s : ShadeBook) e w => ∃ (g : Gh) , Fr gI wI g w ∧ e 0 = .int .i64 (x0) ∧ e 1 = .int .i64 (x1) ∧ e 2 = up2 ∧ RV g.m w (x2 : List ShadeEntry) up2 ∧ e 6 = p1 ∧ OB 2006 g w 76 (s : ShadeBook) p1 ∧ OSF 2006 60602 2 g w 45 76 ((s).entries) p1) (fun X31 oD bE h => ?_) ?_))
 ·refine E_block ?_
  obtain ⟨i6, hx, h⟩ := bsome h;refine E_join (fun e w => ∃ (g : Gh) , Fr gI wI g w ∧ e 0 = .int .i64 (x0) ∧ e 1 = .int .i64 (x1) ∧ e 2 = up2 ∧ RV g.m w (x2 : List ShadeEntry) up2 ∧ e 6 = p1 ∧ OB 2006 g w 76 ((⟨0, 0, []⟩ : ShadeBook) : ShadeBook) p1 ∧ OSF 2006 60602 2 g w 45 76 (((⟨0, 0, []⟩ : ShadeBook)).entries) p1 ∧ e 8 = .func (.func 42) #[] #[] ∧ e 9 = .bool (i6)) (fun Q' hQ => ?_) (fun aG iG hR => ?_)
  ·replace h := hx
   clear hx;refine E_seq (E_region (EL_mw (.int .i64 (x0)) rfl rfl ?_));refine EL_do .plain rfl (D_buildSlice (g := g1) 3011 (xs := ([x0] : List Int)) (vs := [.int .i64 (x0)]) Tryd.underlying34 Tryd.sizeOf3 Tryd.zeroValue3 rfl rfl (.cons rfl .nil) (RVs.cons (RV_int.2 rfl) RVs.nil) rfl rfl fun xE jG yE hs o39 zE hxt hfl => ?_);have hfr := hfr.stp hs;have rp2 := rp2.stp hs;have t5 := t5.stp hs rfl;have b1 := b1.stp hs rfl;obtain ⟨n8, iE, h⟩ := bsome h;refine EL_do .plain rfl (D_call (g := xE) (vs := [.int .i64 (1), .int .i64 (1000000), yE]) en24 (.cons rfl (.cons rfl (.cons rfl .nil))) (wk24 zE iE) fun yD bG kG hs hr => ?_);have hfr := hfr.ext hs;have rp2 := rp2.ext hs;have t5 := t5.ext hs;have b1 := b1.ext hs;subst hr;refine EL_p (.bool (!n8)) (P_not rfl) rfl ?_;refine EL_at (.bool (!n8)) rfl rfl ?_;refine EL_nil (thn_n ?_);rcases csome h with ⟨l9, h⟩ | ⟨l9, h⟩
   ·refine E_ct l9 rfl ?_
    refine E_skip ?_;obtain rfl := sinj h;exact hQ _ _ ⟨yD, hfr, rfl, rfl, rfl, rp2, rfl, b1, t5, rfl, rfl⟩
   ·refine E_cf l9 rfl ?_
    refine E_region (EL_mw (.int .i64 (x1)) rfl rfl ?_);refine EL_do .plain rfl (D_buildSlice (g := yD) 3015 (xs := ([x1] : List Int)) (vs := [.int .i64 (x1)]) Tryd.underlying34 Tryd.sizeOf3 Tryd.zeroValue3 rfl rfl (.cons rfl .nil) (RVs.cons (RV_int.2 rfl) RVs.nil) rfl rfl fun cF lG dF hs o43 eF hxt hfl => ?_);have hfr := hfr.stp hs;have rp2 := rp2.stp hs;have t5 := t5.stp hs rfl;have b1 := b1.stp hs rfl;obtain ⟨mB, lE, h⟩ := bsome h;refine EL_do .plain rfl (D_call (g := cF) (vs := [.int .i64 (0), .int .i64 (1000), dF]) en24 (.cons rfl (.cons rfl (.cons rfl .nil))) (wk24 eF lE) fun rF cG mG hs hr => ?_);have hfr := hfr.ext hs;have rp2 := rp2.ext hs;have t5 := t5.ext hs;have b1 := b1.ext hs;subst hr;refine EL_p (.bool (!mB)) (P_not rfl) rfl ?_;refine EL_at (.bool (!mB)) rfl rfl ?_;refine EL_nil ?_;obtain rfl := sinj h;exact hQ _ _ ⟨rF, hfr, rfl, rfl, rfl, rp2, rfl, b1, t5, rfl, rfl⟩
  ·clear hx
   obtain ⟨v8, hfr, cC, uC, l8, g8, o0, l5, u6_2_46, vC, nB⟩ := hR;rcases csome h with ⟨n9, h⟩ | ⟨n9, h⟩
   ·refine E_cond_true (Eq.trans (show ev _ _ = .bool (i6) from nB) (congrArg Value.bool n9)) ?_
    refine E_seq (E_region (EL_do .plain rfl (D_loadO (g := v8) Tryd.isAgg76 Tryd.sizeOf76 o0 l5 fun sF tF => ?_)));refine EL_do .plain rfl (D_storeOc (g := v8) (v := sF) Tryd.sizeOf76 o0 l5 rfl tF fun sG xG hs b49 cb => ?_);clear cb;have hfr := hfr.stp hs;refine EL_at (.int .i64 (2)) rfl rfl ?_;refine EL_nil (thn_n (E_ret (blk_r ?_)));refine thn_r ?_;obtain rfl := sinj h;obtain ⟨ad50, cv50, hp50, mE, cr50⟩ := ob_read Tryd.isAgg76 Tryd.sizeOf76 b49;exact endm_ct rfl rfl ((show _ = p1 from o0).trans hp50) mE (show _ = .int .i64 (2) from rfl) ⟨_, hfr, _, _, rfl, cr50, rfl⟩
   ·refine E_cond_false (Eq.trans (show ev _ _ = .bool (i6) from nB) (congrArg Value.bool n9)) ?_
    refine E_seq (E_region (EL_mv l8 rfl ?_));refine EL_p (.int .i64 ((x2).length : Int)) (P_len Tryd.underlying39 rfl g8) rfl ?_;refine EL_in (.bool ((decide (((x2).length : Int) > (40 : Int))))) rfl rfl rfl rfl ?_;refine EL_at (.bool ((decide (((x2).length : Int) > (40 : Int))))) rfl rfl ?_;refine EL_nil (thn_n ?_);rcases csome h with ⟨aB, h⟩ | ⟨aB, h⟩
    ·refine E_ct aB rfl ?_
     refine E_seq (E_region (EL_do .plain rfl (D_loadO (g := v8) Tryd.isAgg76 Tryd.sizeOf76 o0 l5 fun uF vF => ?_)));refine EL_do .plain rfl (D_storeOc (g := v8) (v := uF) Tryd.sizeOf76 o0 l5 rfl vF fun yG zG hs b53 cb => ?_);clear cb;have hfr := hfr.stp hs;refine EL_at (.int .i64 (5)) rfl rfl ?_;refine EL_nil (thn_n (E_ret (blk_r ?_)));refine thn_r ?_;obtain rfl := sinj h;obtain ⟨ad54, cv54, hp54, oE, cr54⟩ := ob_read Tryd.isAgg76 Tryd.sizeOf76 b53;exact endm_ct rfl rfl ((show _ = p1 from o0).trans hp54) oE (show _ = .int .i64 (5) from rfl) ⟨_, hfr, _, _, rfl, cr54, rfl⟩
    ·refine E_cf aB rfl ?_
     refine E_seq (E_region (EL_mv l8 rfl ?_));refine EL_mv vC rfl ?_;obtain ⟨y56, rE, h⟩ := bsome h;refine EL_do .plain rfl (D_call (g := v8) (vs := [up2, .func (.func 42) #[] #[]]) en43 (.cons rfl (.cons rfl .nil)) (wk43 g8 ⟨42, #[], #[], rfl, en42, fun g' w' hch a0 b0 r hu0 hr => by exact Fn.mono (wk42 hu0  hr) fun _ _ _ h => RV_bool.2 h⟩ rE) fun yB eG aH hs hr => ?_);have hfr := hfr.ext hs;have g8 := g8.ext hs;have u6_2_46 := u6_2_46.ext hs;have l5 := l5.ext hs;subst hr;refine EL_at (.bool (y56)) rfl rfl ?_;refine EL_nil (thn_n ?_);rcases csome h with ⟨lB, h⟩ | ⟨lB, h⟩
     ·refine E_ct lB rfl ?_
      refine E_seq (E_region (EL_do .plain rfl (D_loadO (g := yB) Tryd.isAgg76 Tryd.sizeOf76 o0 l5 fun xF yF => ?_)));refine EL_do .plain rfl (D_storeOc (g := yB) (v := xF) Tryd.sizeOf76 o0 l5 rfl yF fun cH gH hs b59 cb => ?_);clear cb;have hfr := hfr.stp hs;refine EL_at (.int .i64 (2)) rfl rfl ?_;refine EL_nil (thn_n (E_ret (blk_r ?_)));refine thn_r ?_;obtain rfl := sinj h;obtain ⟨ad60, cv60, hp60, hl60, cr60⟩ := ob_read Tryd.isAgg76 Tryd.sizeOf76 b59;exact endm_ct rfl rfl ((show _ = p1 from o0).trans hp60) hl60 (show _ = .int .i64 (2) from rfl) ⟨_, hfr, _, _, rfl, cr60, rfl⟩
     ·refine E_cf lB rfl ?_
      exact E_skip (blk_n (thn_n (bE ((⟨0, 0, []⟩ : ShadeBook)) _ _ ⟨yB, hfr, cC, uC, l8, g8, o0, l5, u6_2_46⟩ h)))
 ·rintro zB gG jH ⟨zD, hfr, bD, cD, lD, oB, vB, nD, u6_2_61⟩ h
  refine E_seq (E_region (EL_mv bD rfl ?_));refine EL_mv cD rfl ?_;refine EL_mv lD rfl ?_;have aE : RV zD.m _ (⟨x0, x1, x2⟩ : ShadeBook) (.agg (setCh [[.int .i64 0], [.int .i64 0], [.slice none 0 0]] [(0, .int .i64 (x0)), (1, .int .i64 (x1)), (2, up2)]).flatten.toArray) := RV_build rfl (rep_pair (rfl) (rep_pair (rfl) (rep_last (RV.cells oB))));generalize uE : (Value.agg (setCh [[.int .i64 0], [.int .i64 0], [.slice none 0 0]] [(0, .int .i64 (x0)), (1, .int .i64 (x1)), (2, up2)]).flatten.toArray) = v62 at aE;refine EL_p v62 (uE ▸ P_build (vs := [(0, .int .i64 (x0)), (1, .int .i64 (x1)), (2, up2)]) [[.int .i64 0], [.int .i64 0], [.slice none 0 0]] lay_76 rfl rfl (.cons rfl (.cons rfl (.cons rfl .nil))) ⟨⟨_, rfl, rfl⟩, ⟨⟨_, rfl, rfl⟩, ⟨⟨_, rfl, cells_size oB⟩, trivial⟩⟩⟩) rfl ?_;refine EL_do .plain rfl (D_storeOc (g := zD) (v := v62) Tryd.sizeOf76 vB nD rfl aE fun kH lH hs b63 cb => ?_);clear cb;have hfr := hfr.stp hs;refine EL_at (.int .i64 (0)) rfl rfl ?_;refine EL_nil (thn_n (E_ret ?_));obtain rfl := sinj h;obtain ⟨ad65, cv65, hp65, vE, cr65⟩ := ob_read Tryd.isAgg76 Tryd.sizeOf76 b63;exact endm_ct rfl rfl ((show _ = p1 from vB).trans hp65) vE (show _ = .int .i64 (0) from rfl) ⟨_, hfr, _, _, rfl, cr65, rfl⟩
def f31 (x0 : PayPayList) (x1 : PayPiece) : Option (Int) :=
 Option.bind (α := Int) (
  lp (σ := Int × Int) (fun vE (l5, o0) =>
   bif (decide (o0 < (((x1).Extras).length : Int))) then
    Option.bind (α := Int) (
     (idx ((x1).Extras) o0).bind fun aB =>
     (idx (((x0).PayList).Extras) aB).bind fun yB =>
     some ((w64 (l5 + yB)))
     ) fun i6 =>
    vE (i6, (w64 (o0 + (1 : Int))))
   else
    some (l5)
   ) big ((1000 : Int), (0 : Int))
  ) fun t5 =>
 (f54 x0 ((x1).Dense)).bind fun v8 =>
 (quo64 (w64 ((w64 ((x1).Picks * v8)) * t5)) (1000000 : Int)).bind fun lB =>
 some (lB)
theorem en31 : Enters Tryd.prog 31 := enters_of Tryd.func31 (by kernel_rfl) rfl
theorem wk31 {gI : Gh} {wI : World} {x0 : PayPayList} {x1 : PayPiece} {up0 : Value} (rp0 : RV gI.m wI x0 up0) {up1 : Value} (rp1 : RV gI.m wI x1 up1) {r : Int} (h : f31 x0 x1 = some r) : Fn Tryd.prog 31 #[up0, up1] gI wI (fun _ _ v => v = .int .i64 (r)) := by
 unfold f31 at h;refine fn_of_E Tryd.func31 rfl (Nat.le_of_ble_eq_true rfl) fun g0 hm hfr => ?_;have rp0 : RV g0.m wI x0 up0 := hm ▸ rp0;have rp1 : RV g0.m wI x1 up1 := hm ▸ rp1;show E _ 34 none _ _ _ _ _;refine E_seq (E_region (EL_do .plain rfl (D_box (g := g0) rfl rp0 fun g1 w1 p1 hs q1 => ?_)));have hfr := hfr.ext hs;have rp1 := rp1.ext hs;refine EL_do .plain rfl (D_box (g := g1) rfl rp1 fun g2 w2 p2 hs q2 => ?_);have hfr := hfr.ext hs;have q1 := q1.ext hs;refine EL_at (.int .i64 (0)) rfl rfl ?_;refine EL_nil (thn_n (E_seq (E_region (EL_at (.int .i64 (1000)) rfl rfl ?_))));refine EL_nil (thn_n ?_);obtain ⟨t5, hx, h⟩ := bsome h;refine E_join (fun e w => ∃ (g : Gh) , Fr gI wI g w ∧ e 2 = p1 ∧ PT g.m w (x0 : PayPayList) p1 ∧ e 3 = p2 ∧ PT g.m w (x1 : PayPiece) p2 ∧ e 5 = .int .i64 (t5)) (fun Q' hQ => ?_) (fun xG aH hR => ?_)
 ·replace h := hx
  clear hx;refine E_seq (E_region (EL_p (fPtr p2 3) (P_fieldAddr at_63_3 rfl (PT.ptr q2)) rfl ?_));have vF := PT_field (part_PayPiece_3).1 q2;refine EL_do .plain rfl (D_load (g := g2) Tryd.isAgg34 Tryd.sizeOf34 rfl vF fun mB xE => ?_);refine EL_p (.int .i64 (((x1).Extras).length : Int)) (P_len Tryd.underlying34 rfl xE) rfl ?_;refine EL_mw (.int .i64 (0)) rfl rfl ?_;refine EL_nil (thn_n (E_block ?_));refine E_lp h (fun (s : Int × Int) e w => ∃ (g : Gh) , Fr gI wI g w ∧ e 2 = p1 ∧ PT g.m w (x0 : PayPayList) p1 ∧ e 3 = p2 ∧ PT g.m w (x1 : PayPiece) p2 ∧ e 5 = .int .i64 (s.1) ∧ e 9 = mB ∧ RV g.m w ((x1).Extras : List Int) mB ∧ e 10 = .int .i64 ((((x1).Extras).length : Int)) ∧ e 11 = .int .i64 (s.2)) ⟨g2, hfr, rfl, q1, rfl, q2, rfl, rfl, xE, rfl, rfl⟩ (fun X29 vE dF => ?_);rintro ⟨l5, o0⟩ yG cH ⟨nB, hfr, l9, g8, zB, cC, uC, vC, n9, oB, n8⟩ h;refine E_seq (E_region (EL_p (.bool ((decide (o0 < (((x1).Extras).length : Int))))) (P_int n8 oB rfl) rfl ?_));refine EL_nil (thn_n (E_seq ?_));rcases csome h with ⟨vB, h⟩ | ⟨vB, h⟩
  ·refine E_ct vB rfl ?_
   refine E_skip (thn_n ?_);obtain ⟨i6, hx, h⟩ := bsome h;refine E_join (fun e w => ∃ (g : Gh) , Fr gI wI g w ∧ e 2 = p1 ∧ PT g.m w (x0 : PayPayList) p1 ∧ e 3 = p2 ∧ PT g.m w (x1 : PayPiece) p2 ∧ e 5 = .int .i64 (i6) ∧ e 9 = mB ∧ RV g.m w ((x1).Extras : List Int) mB ∧ e 10 = .int .i64 ((((x1).Extras).length : Int)) ∧ e 11 = .int .i64 (o0)) (fun Q' hQ => ?_) (fun zG gH hR => ?_)
   ·replace h := hx
    clear hx;refine E_block ?_;refine E_seq (E_region ?_);obtain ⟨aB, cD, h⟩ := bsome h;refine EL_p (ePtr mB o0 1) (P_indexAddr (α := Int) Tryd.underlying34 Tryd.sizeOf3 vC n9 n8 cD) rfl ?_;have xF := PT_idx n9 cD;refine EL_do .plain rfl (D_load (g := nB) Tryd.isAgg3 Tryd.sizeOf3 rfl xF fun jH yF => ?_);obtain rfl := RV_int.1 yF;refine EL_at (.int .i64 (aB)) rfl rfl ?_;refine EL_nil (thn_n (E_region (EL_mv uC rfl ?_)));refine EL_p (fPtr p1 0) (P_fieldAddr at_91_0 l9 (PT.ptr g8)) rfl ?_;have yE := PT_field (part_PayPayList_0).1 g8;refine EL_p (fPtr (fPtr p1 0) 1) (P_fieldAddr at_58_1 rfl (PT.ptr yE)) rfl ?_;have aG := PT_field (part_PayList_1).1 yE;refine EL_do .plain rfl (D_load (g := nB) Tryd.isAgg34 Tryd.sizeOf34 rfl aG fun bG zE => ?_);refine EL_mw (.int .i64 (aB)) rfl rfl ?_;obtain ⟨yB, lD, h⟩ := bsome h;refine EL_p (ePtr bG aB 1) (P_indexAddr (α := Int) Tryd.underlying34 Tryd.sizeOf3 rfl zE rfl lD) rfl ?_;have cG := PT_idx zE lD;refine EL_do .plain rfl (D_load (g := nB) Tryd.isAgg3 Tryd.sizeOf3 rfl cG fun kH eG => ?_);obtain rfl := RV_int.1 eG;refine EL_in (.int .i64 ((w64 (l5 + yB)))) rfl rfl rfl rfl ?_;refine EL_at (.int .i64 ((w64 (l5 + yB)))) rfl rfl ?_;refine EL_nil (blk_n ?_);obtain rfl := sinj h;exact hQ _ _ ⟨nB, hfr, l9, g8, zB, cC, rfl, vC, n9, oB, n8⟩
   ·clear hx
    obtain ⟨gG, hfr, yD, zD, aE, bE, iE, lE, mE, nD, oD⟩ := hR;refine E_region (EL_in (.int .i64 ((w64 (o0 + (1 : Int))))) oD rfl rfl rfl ?_);refine EL_mw (.int .i64 ((w64 (o0 + (1 : Int))))) rfl rfl ?_;exact EL_nil (thn_n (dF (i6, (w64 (o0 + (1 : Int)))) _ _ ⟨gG, hfr, yD, zD, aE, bE, iE, lE, mE, nD, rfl⟩ h))
  ·refine E_cf vB rfl ?_
   refine E_exit ?_;refine thn_e ?_;refine thn_e ?_;refine blk_hit ?_;obtain rfl := sinj h;exact hQ _ _ ⟨nB, hfr, l9, g8, zB, cC, uC⟩
 ·clear hx
  obtain ⟨iG, hfr, oE, rE, bD, l8, uE⟩ := hR;refine E_seq ?_;have jG := PT_field (part_PayPiece_2).1 l8;refine L_load (x := .tmp 24) Tryd.isAgg3 Tryd.sizeOf3 jG fun lH kG eF => ?_;obtain rfl := RV_int.1 kG;refine L_load (x := .tmp 2) Tryd.isAgg91 Tryd.sizeOf91 rE fun cF lG rF => ?_;have mG := PT_field (part_PayPiece_1).1 l8;refine L_load (x := .tmp 27) Tryd.isAgg3 Tryd.sizeOf3 mG fun mH sG sF => ?_;obtain rfl := RV_int.1 sG;obtain ⟨v8, tF, h⟩ := bsome h;obtain ⟨lB, uF, h⟩ := bsome h;refine E_drawL (g := iG) (n := 11) [(5, (fun v g w => v = .int .i64 (v8)))] [0, 1, 2, 3, 4, 5, 6, 7, 8, 9, 10] rfl mixed (by kernel_rfl) (⟨fun _ => up_eq _, trivial⟩) ?_;refine L_p (fPtr p2 2) rfl rfl (P_fieldAddr at_63_2 bD (PT.ptr l8)) ?_;refine L_ld (c := .int .i64 ((x1).Picks)) rfl rfl .plain (fun _ _ h => h.ch) eF rfl ?_;refine L_ld (c := cF) rfl rfl .plain (fun _ _ h => h.ch) rF oE ?_;refine L_p (fPtr p2 1) rfl rfl (P_fieldAddr at_63_1 bD (PT.ptr l8)) ?_;refine L_ld (c := .int .i64 ((x1).Dense)) rfl rfl .plain (fun _ _ h => h.ch) sF rfl ?_;refine L_do (φ := fun v g w => v = .int .i64 (v8)) rfl rfl .plain (fun g w hd => D_call (g := g) (vs := [cF, .int .i64 ((x1).Dense)]) en54 (.cons rfl (.cons rfl .nil)) (wk54 (lG.ext hd.1) tF) fun g' w' v hs hr => ⟨g', hs, hr⟩) (fun nH hv => ?_);obtain ⟨_, _, _, rfl⟩ := hv;refine L_p (.int .i64 ((w64 ((x1).Picks * v8)))) rfl rfl (P_int rfl rfl rfl) ?_;refine L_p (.int .i64 (t5)) rfl rfl (P_move uE) ?_;refine L_p (.int .i64 ((w64 ((w64 ((x1).Picks * v8)) * t5)))) rfl rfl (P_int rfl rfl rfl) ?_;refine L_p (.int .i64 (lB)) rfl rfl (P_int rfl rfl (congrArg (Option.map (Value.int .i64)) uF)) ?_;refine L_p (.int .i64 (lB)) rfl rfl (P_assign rfl) ?_;refine L_nl fun oH pH hs => ?_;have hfr := hfr.ext hs;clear hs;refine EL_nil (thn_n (E_ret ?_));obtain rfl := sinj h;exact end1 rfl rfl (show _ = .int .i64 (lB) from rfl) ⟨_, hfr, rfl⟩
def f33 (x0 : PayPayList) (x1 : PayPiece) (x2 : Int) : Option (Int) :=
 (f31 x0 x1).bind fun y6 =>
 (f32 x0 y6 x2).bind fun y9 =>
 some ((w64 (y6 - y9)))
theorem en33 : Enters Tryd.prog 33 := enters_of Tryd.func33 (by kernel_rfl) rfl
theorem wk33 {gI : Gh} {wI : World} {x0 : PayPayList} {x1 : PayPiece} {x2 : Int} {up0 : Value} (rp0 : RV gI.m wI x0 up0) {up1 : Value} (rp1 : RV gI.m wI x1 up1) {r : Int} (h : f33 x0 x1 x2 = some r) : Fn Tryd.prog 33 #[up0, up1, .int .i64 (x2)] gI wI (fun _ _ v => v = .int .i64 (r)) := by
 unfold f33 at h;refine fn_of_E Tryd.func33 rfl (Nat.le_of_ble_eq_true rfl) fun g0 hm hfr => ?_;have rp0 : RV g0.m wI x0 up0 := hm ▸ rp0;have rp1 : RV g0.m wI x1 up1 := hm ▸ rp1;show E _ 17 none _ _ _ _ _;refine E_seq (E_region (EL_do .plain rfl (D_box (g := g0) rfl rp0 fun g1 w1 p1 hs q1 => ?_)));have hfr := hfr.ext hs;have rp1 := rp1.ext hs;refine EL_do .plain rfl (D_box (g := g1) rfl rp1 fun g2 w2 p2 hs q2 => ?_);have hfr := hfr.ext hs;have q1 := q1.ext hs;refine EL_at (.int .i64 (0)) rfl rfl ?_;refine EL_nil (thn_n (E_seq (E_region (EL_do .plain rfl (D_load (g := g2) Tryd.isAgg91 Tryd.sizeOf91 rfl q1 fun v3 r3 => ?_)))));refine EL_do .plain rfl (D_load (g := g2) Tryd.isAgg63 Tryd.sizeOf63 rfl q2 fun v4 r4 => ?_);obtain ⟨y6, o0, h⟩ := bsome h;refine EL_do .plain rfl (D_call (g := g2) (vs := [v3, v4]) en31 (.cons rfl (.cons rfl .nil)) (wk31 r3 r4 o0) fun g5 w5_ v5 hs hr => ?_);have hfr := hfr.ext hs;have q1 := q1.ext hs;subst hr;refine EL_at (.int .i64 (y6)) rfl rfl ?_;refine EL_nil (thn_n (E_seq (E_region (EL_mw (.int .i64 (y6)) rfl rfl ?_))));refine EL_do .plain rfl (D_load (g := g5) Tryd.isAgg91 Tryd.sizeOf91 rfl q1 fun v7 r7 => ?_);refine EL_mw (.int .i64 (y6)) rfl rfl ?_;refine EL_mw (.int .i64 (x2)) rfl rfl ?_;obtain ⟨y9, l5, h⟩ := bsome h;refine EL_do .plain rfl (D_call (g := g5) (vs := [v7, .int .i64 (y6), .int .i64 (x2)]) en32 (.cons rfl (.cons rfl (.cons rfl .nil))) (wk32 r7 l5) fun g8 w8_ v8 hs hr => ?_);have hfr := hfr.ext hs;subst hr;refine EL_in (.int .i64 ((w64 (y6 - y9)))) rfl rfl rfl rfl ?_;refine EL_at (.int .i64 ((w64 (y6 - y9)))) rfl rfl ?_;refine EL_nil (thn_n (E_ret ?_));obtain rfl := sinj h;exact end1 rfl rfl (show _ = .int .i64 ((w64 (y6 - y9))) from rfl) ⟨_, hfr, rfl⟩
def f40 (x0 : List Int) (x1 : Int) (x2 : Int → Int → Option Int) : Option ((List Int)) :=
 Option.bind (α := (List Int) × Int) (
  lp (σ := (List Int) × Int × Int) (fun k9 (n8, l8, l5) =>
   jn (σ := Unit) (fun _ =>
    (f60 n8 l8 l5 x2).bind fun eG =>
    k9 (eG, l5, (w64 (l5 + (20 : Int))))
    ) fun sH =>
   bif (decide (l5 ≤ x1)) then
    sH ()
   else
    some (n8, l8)
   ) big (x0, (0 : Int), (20 : Int))
  ) fun (nB, v8) =>
 (f60 nB v8 x1 x2).bind fun tH =>
 lp (σ := (List Int) × Int) (fun uH (l9, o0) =>
  jn (σ := Unit) (fun _ =>
   Option.bind (α := (List Int) × Int) (
    lp (σ := (List Int) × Int × Int) (fun xH (n9, g8, t5) =>
     jn (σ := Unit) (fun _ =>
      (f61 big n9 g8 ((w64 (g8 + o0))) t5 x2).bind fun gG =>
      xH (gG, t5, (w64 (t5 + (w64 ((2 : Int) * o0)))))
      ) fun yH =>
     bif (decide (t5 ≤ x1)) then
      yH ()
     else
      some (n9, g8)
     ) big (l9, (0 : Int), (w64 ((2 : Int) * o0)))
    ) fun (aB, i6) =>
   Option.bind (α := (List Int)) (
    bif (decide ((w64 (i6 + o0)) < x1)) then
     (f61 big aB i6 ((w64 (i6 + o0))) x1 x2).bind fun zH =>
     some (zH)
    else
     some (aB)
    ) fun lB =>
   uH (lB, (w64 (o0 * (2 : Int))))
   ) fun aI =>
  bif (decide (o0 < x1)) then
   aI ()
  else
   some (l9)
  ) big (tH, (20 : Int))
theorem en40 : Enters Tryd.prog 40 := enters_of Tryd.func40 (by kernel_rfl) rfl
theorem wk40 {iI : Nat} {gI : Gh} {wI : World} {x0 : List Int} {x1 : Int} {x2 : Int → Int → Option Int} {up0 : Value} (mp0 : OM iI gI wI 3 x0 up0) {up2 : Value} (rp2 : FnV2 Tryd.prog x2 up2 gI wI) {r : (List Int)} (h : f40 x0 x1 x2 = some r) : FnM Tryd.prog 40 #[up0, .int .i64 (x1), up2] iI gI wI (fun g w v => v = .tuple #[] ∧ OM iI g w 3 r up0) := by
 unfold f40 at h;refine fnM_of_E Tryd.func40 rfl (Nat.le_of_ble_eq_true rfl) fun g0 hm hfr => ?_;have iG := mp0;replace mp0 := mp0.enter;rw [← hm] at mp0
 replace hm : g0.m = gI.m := by rw [hm]
 obtain ⟨ff2, fa2, fc2, rfl, fen2, fcl2⟩ := rp2;show E _ 63 none _ _ _ _ _;refine E_seq (E_region (EL_at (.int .i64 (20)) rfl rfl ?_));refine EL_nil (thn_n (E_seq (E_region (EL_mw (.int .i64 (20)) rfl rfl ?_))));refine EL_at (.int .i64 (0)) rfl rfl ?_;refine EL_at (.int .i64 (20)) rfl rfl ?_;refine EL_nil (thn_n ?_);obtain ⟨⟨nB, v8⟩, hx, h⟩ := bsome h;refine E_join (fun e w => ∃ (g : Gh) , FrM iI gI wI g w ∧ e 0 = up0 ∧ OM 1 g w 3 (nB : List Int) up0 ∧ e 1 = .int .i64 (x1) ∧ e 2 = (.func (.func ff2) fa2 fc2) ∧ e 6 = .int .i64 ((20 : Int)) ∧ e 7 = .int .i64 (v8)) (fun Q' hQ => ?_) (fun aK vK hR => ?_)
 ·replace h := hx
  clear hx;refine E_block ?_;refine E_lp h (fun (s : (List Int) × Int × Int) e w => ∃ (g : Gh) , FrM iI gI wI g w ∧ e 0 = up0 ∧ OM 1 g w 3 (s.1 : List Int) up0 ∧ e 1 = .int .i64 (x1) ∧ e 2 = (.func (.func ff2) fa2 fc2) ∧ e 6 = .int .i64 ((20 : Int)) ∧ e 7 = .int .i64 (s.2.1) ∧ e 8 = .int .i64 (s.2.2)) ⟨g0, hfr, rfl, mp0, rfl, rfl, rfl, rfl, rfl⟩ (fun X9 k9 lJ => ?_);rintro ⟨n8, l8, l5⟩ bK xK ⟨bI, hfr, yD, zD, oB, aE, bE, iE, lE⟩ h;refine E_joinC h (fun (s : Unit) e w => ∃ (g : Gh) , FrM iI gI wI g w ∧ e 0 = up0 ∧ OM 1 g w 3 (n8 : List Int) up0 ∧ e 1 = .int .i64 (x1) ∧ e 2 = (.func (.func ff2) fa2 fc2) ∧ e 6 = .int .i64 ((20 : Int)) ∧ e 7 = .int .i64 (l8) ∧ e 8 = .int .i64 (l5)) (fun X12 sH kI h => ?_) ?_
  ·refine E_seq (E_region (EL_mv lE rfl ?_))
   refine EL_mv oB rfl ?_;refine EL_in (.bool ((decide (l5 ≤ x1)))) rfl rfl rfl rfl ?_;refine EL_nil (thn_n ?_);rcases csome h with ⟨cD, h⟩ | ⟨cD, h⟩
   ·refine E_ct cD rfl ?_
    exact E_skip (thn_n (kI () _ _ ⟨bI, hfr, yD, zD, oB, aE, bE, iE, lE⟩ h))
   ·refine E_cf cD rfl ?_
    refine E_exit ?_;refine thn_e ?_;refine thn_e ?_;refine blk_hit ?_;obtain ⟨rfl, rfl⟩ := pairs2 h;exact hQ _ _ ⟨bI, hfr, yD, zD, oB, aE, bE, iE⟩
  ·rintro _ cK yK ⟨mJ, hfr, mE, jG, kG, oE, rE, lG, vB⟩ h
   refine E_block ?_;refine E_seq (E_region (EL_mv mE rfl ?_));refine EL_mv lG rfl ?_;refine EL_mv vB rfl ?_;refine EL_mv oE rfl ?_;obtain ⟨eG, lI, h⟩ := bsome h;refine EL_do .plain rfl (D_callM (g := mJ) (i := 1) (vs := [up0, .int .i64 (l8), .int .i64 (l5), (.func (.func ff2) fa2 fc2)]) en60 (.cons rfl (.cons rfl (.cons rfl (.cons rfl .nil)))) (wk60 jG (FnV2.ch ⟨_, _, _, rfl, fen2, fcl2⟩ hfr.ch) lI) fun nJ dK zK hs hr => ?_);obtain ⟨hrv, b15⟩ := hr;have hfr := hfr.stp hs;subst hrv;refine EL_nil (thn_n (E_seq (E_region (EL_mv vB rfl ?_))));refine EL_at (.int .i64 (l5)) rfl rfl ?_;refine EL_nil (thn_n (E_region (EL_mv vB rfl ?_)));refine EL_mv rE rfl ?_;refine EL_in (.int .i64 ((w64 (l5 + (20 : Int))))) rfl rfl rfl rfl ?_;refine EL_at (.int .i64 ((w64 (l5 + (20 : Int))))) rfl rfl ?_;exact EL_nil (blk_n (thn_n (lJ (eG, l5, (w64 (l5 + (20 : Int)))) _ _ ⟨nJ, hfr, mE, b15, kG, oE, rE, rfl, rfl⟩ h)))
 ·clear hx
  obtain ⟨oJ, hfr, uE, mG, vE, xE, sG, xG⟩ := hR;refine E_seq (E_region (EL_mv uE rfl ?_));refine EL_mv xG rfl ?_;refine EL_mv vE rfl ?_;refine EL_mv xE rfl ?_;obtain ⟨tH, mI, h⟩ := bsome h;refine EL_do .plain rfl (D_callM (g := oJ) (i := 1) (vs := [up0, .int .i64 (v8), .int .i64 (x1), (.func (.func ff2) fa2 fc2)]) en60 (.cons rfl (.cons rfl (.cons rfl (.cons rfl .nil)))) (wk60 mG (FnV2.ch ⟨_, _, _, rfl, fen2, fcl2⟩ hfr.ch) mI) fun pJ lK aL hs hr => ?_);obtain ⟨hrv, b18⟩ := hr;have hfr := hfr.stp hs;subst hrv;refine EL_nil (thn_n (E_block ?_));refine E_lp h (fun (s : (List Int) × Int) e w => ∃ (g : Gh) , FrM iI gI wI g w ∧ e 0 = up0 ∧ OM 1 g w 3 (s.1 : List Int) up0 ∧ e 1 = .int .i64 (x1) ∧ e 2 = (.func (.func ff2) fa2 fc2) ∧ e 6 = .int .i64 (s.2)) ⟨pJ, hfr, uE, b18, vE, xE, sG⟩ (fun X20 uH nI => ?_);rintro ⟨l9, o0⟩ mK bL ⟨qJ, hfr, yG, yE, zE, zG, cF⟩ h;refine E_joinC h (fun (s : Unit) e w => ∃ (g : Gh) , FrM iI gI wI g w ∧ e 0 = up0 ∧ OM 1 g w 3 (l9 : List Int) up0 ∧ e 1 = .int .i64 (x1) ∧ e 2 = (.func (.func ff2) fa2 fc2) ∧ e 6 = .int .i64 (o0)) (fun X23 aI pI h => ?_) ?_
  ·refine E_seq (E_region (EL_mv cF rfl ?_))
   refine EL_mv zE rfl ?_;refine EL_in (.bool ((decide (o0 < x1)))) rfl rfl rfl rfl ?_;refine EL_nil (thn_n ?_);rcases csome h with ⟨lD, h⟩ | ⟨lD, h⟩
   ·refine E_ct lD rfl ?_
    exact E_skip (thn_n (pI () _ _ ⟨qJ, hfr, yG, yE, zE, zG, cF⟩ h))
   ·refine E_cf lD rfl ?_
    refine E_exit ?_;refine thn_e ?_;refine thn_e ?_;refine blk_hit ?_;obtain rfl := sinj h;exact end0n rfl rfl ⟨_, hfr, rfl, iG.back yE⟩
  ·rintro _ nK dL ⟨rJ, hfr, aH, cH, gH, jH, dF⟩ h
   refine E_block ?_;refine E_seq (E_region (EL_mv dF rfl ?_));refine EL_in (.int .i64 ((w64 ((2 : Int) * o0)))) rfl rfl rfl rfl ?_;refine EL_at (.int .i64 (0)) rfl rfl ?_;refine EL_at (.int .i64 ((w64 ((2 : Int) * o0)))) rfl rfl ?_;refine EL_nil (thn_n ?_);obtain ⟨⟨aB, i6⟩, hx, h⟩ := bsome h;refine E_join (fun e w => ∃ (g : Gh) , FrM iI gI wI g w ∧ e 0 = up0 ∧ OM 1 g w 3 (aB : List Int) up0 ∧ e 1 = .int .i64 (x1) ∧ e 2 = (.func (.func ff2) fa2 fc2) ∧ e 6 = .int .i64 (o0) ∧ e 7 = .int .i64 (i6)) (fun Q' hQ => ?_) (fun oK eL hR => ?_)
   ·replace h := hx
    clear hx;refine E_block ?_;refine E_lp h (fun (s : (List Int) × Int × Int) e w => ∃ (g : Gh) , FrM iI gI wI g w ∧ e 0 = up0 ∧ OM 1 g w 3 (s.1 : List Int) up0 ∧ e 1 = .int .i64 (x1) ∧ e 2 = (.func (.func ff2) fa2 fc2) ∧ e 6 = .int .i64 (o0) ∧ e 7 = .int .i64 (s.2.1) ∧ e 8 = .int .i64 (s.2.2)) ⟨rJ, hfr, aH, cH, gH, jH, dF, rfl, rfl⟩ (fun X34 xH qI => ?_);rintro ⟨n9, g8, t5⟩ pK gL ⟨dI, hfr, eF, rF, yB, sF, tF, uF, vF⟩ h;refine E_joinC h (fun (s : Unit) e w => ∃ (g : Gh) , FrM iI gI wI g w ∧ e 0 = up0 ∧ OM 1 g w 3 (n9 : List Int) up0 ∧ e 1 = .int .i64 (x1) ∧ e 2 = (.func (.func ff2) fa2 fc2) ∧ e 6 = .int .i64 (o0) ∧ e 7 = .int .i64 (g8) ∧ e 8 = .int .i64 (t5)) (fun X37 yH sI h => ?_) ?_
    ·refine E_seq (E_region (EL_mv vF rfl ?_))
     refine EL_mv yB rfl ?_;refine EL_in (.bool ((decide (t5 ≤ x1)))) rfl rfl rfl rfl ?_;refine EL_nil (thn_n ?_);rcases csome h with ⟨nD, h⟩ | ⟨nD, h⟩
     ·refine E_ct nD rfl ?_
      exact E_skip (thn_n (sI () _ _ ⟨dI, hfr, eF, rF, yB, sF, tF, uF, vF⟩ h))
     ·refine E_cf nD rfl ?_
      refine E_exit ?_;refine thn_e ?_;refine thn_e ?_;refine blk_hit ?_;obtain ⟨rfl, rfl⟩ := pairs2 h;exact hQ _ _ ⟨dI, hfr, eF, rF, yB, sF, tF, uF⟩
    ·rintro _ qK iL ⟨sJ, hfr, xF, kH, lH, yF, zB, aG, cC⟩ h
     refine E_block ?_;refine E_seq (E_region (EL_mv xF rfl ?_));refine EL_mv aG rfl ?_;refine EL_mv aG rfl ?_;refine EL_mv zB rfl ?_;refine EL_in (.int .i64 ((w64 (g8 + o0)))) rfl rfl rfl rfl ?_;refine EL_mv cC rfl ?_;refine EL_mv yF rfl ?_;obtain ⟨gG, jJ, h⟩ := bsome h;refine EL_do .plain rfl (D_callM (g := sJ) (i := 1) (vs := [up0, .int .i64 (g8), .int .i64 ((w64 (g8 + o0))), .int .i64 (t5), (.func (.func ff2) fa2 fc2)]) en61 (.cons rfl (.cons rfl (.cons rfl (.cons rfl (.cons rfl .nil))))) (wk61 big kH (FnV2.ch ⟨_, _, _, rfl, fen2, fcl2⟩ hfr.ch) jJ) fun vJ sK jL hs hr => ?_);obtain ⟨hrv, b40⟩ := hr;have hfr := hfr.stp hs;subst hrv;refine EL_nil (thn_n (E_seq (E_region (EL_mv cC rfl ?_))));refine EL_at (.int .i64 (t5)) rfl rfl ?_;refine EL_nil (thn_n (E_region (EL_mv cC rfl ?_)));refine EL_mv zB rfl ?_;refine EL_in (.int .i64 ((w64 ((2 : Int) * o0)))) rfl rfl rfl rfl ?_;refine EL_p (.int .i64 ((w64 (t5 + (w64 ((2 : Int) * o0)))))) (P_int rfl rfl rfl) rfl ?_;refine EL_p (.int .i64 ((w64 (t5 + (w64 ((2 : Int) * o0)))))) (P_assign rfl) rfl ?_;exact EL_nil (blk_n (thn_n (qI (gG, t5, (w64 (t5 + (w64 ((2 : Int) * o0))))) _ _ ⟨vJ, hfr, xF, b40, lH, yF, zB, rfl, rfl⟩ h)))
   ·clear hx
    obtain ⟨jI, hfr, uC, bG, mB, vC, bD, cG⟩ := hR;obtain ⟨lB, hx, h⟩ := bsome h;refine E_join (fun e w => ∃ (g : Gh) , FrM iI gI wI g w ∧ e 0 = up0 ∧ OM 1 g w 3 (lB : List Int) up0 ∧ e 1 = .int .i64 (x1) ∧ e 2 = (.func (.func ff2) fa2 fc2) ∧ e 6 = .int .i64 (o0)) (fun Q' hQ => ?_) (fun tK lL hR => ?_)
    ·replace h := hx
     clear hx;refine E_seq (E_region (EL_mv cG rfl ?_));refine EL_mv bD rfl ?_;refine EL_in (.int .i64 ((w64 (i6 + o0)))) rfl rfl rfl rfl ?_;refine EL_at (.int .i64 ((w64 (i6 + o0)))) rfl rfl ?_;refine EL_nil (thn_n (E_seq (E_region (EL_mw (.int .i64 ((w64 (i6 + o0)))) rfl rfl ?_))));refine EL_mv mB rfl ?_;refine EL_in (.bool ((decide ((w64 (i6 + o0)) < x1)))) rfl rfl rfl rfl ?_;refine EL_nil (thn_n ?_);rcases csome h with ⟨oD, h⟩ | ⟨oD, h⟩
     ·refine E_ct oD rfl ?_
      refine E_region (EL_mv uC rfl ?_);refine EL_mv cG rfl ?_;refine EL_mw (.int .i64 ((w64 (i6 + o0)))) rfl rfl ?_;refine EL_mv mB rfl ?_;refine EL_mv vC rfl ?_;obtain ⟨zH, kJ, h⟩ := bsome h;refine EL_do .plain rfl (D_callM (g := jI) (i := 1) (vs := [up0, .int .i64 (i6), .int .i64 ((w64 (i6 + o0))), .int .i64 (x1), (.func (.func ff2) fa2 fc2)]) en61 (.cons rfl (.cons rfl (.cons rfl (.cons rfl (.cons rfl .nil))))) (wk61 big bG (FnV2.ch ⟨_, _, _, rfl, fen2, fcl2⟩ hfr.ch) kJ) fun xJ uK mL hs hr => ?_);obtain ⟨hrv, b47⟩ := hr;have hfr := hfr.stp hs;subst hrv;refine EL_nil ?_;obtain rfl := sinj h;exact hQ _ _ ⟨xJ, hfr, uC, b47, mB, vC, bD⟩
     ·refine E_cf oD rfl ?_
      refine E_skip ?_;obtain rfl := sinj h;exact hQ _ _ ⟨jI, hfr, uC, bG, mB, vC, bD⟩
    ·clear hx
     obtain ⟨zJ, hfr, mH, nH, oH, pH, qH⟩ := hR;refine E_region (EL_mv qH rfl ?_);refine EL_in (.int .i64 ((w64 (o0 * (2 : Int))))) rfl rfl rfl rfl ?_;refine EL_at (.int .i64 ((w64 (o0 * (2 : Int))))) rfl rfl ?_;exact EL_nil (blk_n (thn_n (nI (lB, (w64 (o0 * (2 : Int)))) _ _ ⟨zJ, hfr, mH, nH, oH, pH, rfl⟩ h)))
def f46 (x0 : ShadeLot) : Option (Bool) :=
 (f47 x0).bind fun y4 =>
 some ((!y4))
theorem en46 : Enters Tryd.prog 46 := enters_of Tryd.func46 (by kernel_rfl) rfl
theorem wk46 {gI : Gh} {wI : World} {x0 : ShadeLot} {up0 : Value} (rp0 : RV gI.m wI x0 up0) {r : Bool} (h : f46 x0 = some r) : Fn Tryd.prog 46 #[up0] gI wI (fun _ _ v => v = .bool (r)) := by
 unfold f46 at h;refine fn_of_E Tryd.func46 rfl (Nat.le_of_ble_eq_true rfl) fun g0 hm hfr => ?_;have rp0 : RV g0.m wI x0 up0 := hm ▸ rp0;show E _ 6 none _ _ _ _ _;refine E_seq (E_region (EL_do .plain rfl (D_box (g := g0) rfl rp0 fun g1 w1 p1 hs q1 => ?_)));have hfr := hfr.ext hs;refine EL_at (.bool false) rfl rfl ?_;refine EL_nil (thn_n (E_seq (E_region (EL_do .plain rfl (D_load (g := g1) Tryd.isAgg31 Tryd.sizeOf31 rfl q1 fun v2 r2 => ?_)))));obtain ⟨y4, o0, h⟩ := bsome h;refine EL_do .plain rfl (D_call (g := g1) (vs := [v2]) en47 (.cons rfl .nil) (wk47 r2 o0) fun g3 w3_ v3 hs hr => ?_);have hfr := hfr.ext hs;subst hr;refine EL_p (.bool (!y4)) (P_not rfl) rfl ?_;refine EL_at (.bool (!y4)) rfl rfl ?_;refine EL_nil (thn_n (E_ret ?_));obtain rfl := sinj h;exact end1 rfl rfl (show _ = .bool (!y4) from rfl) ⟨_, hfr, rfl⟩
def f52 (x0 : PayList) : Option (Int) :=
 jn (σ := Unit) (fun _ =>
  some ((0 : Int))
  ) fun nD =>
 Option.bind (α := Bool) (
  bif (decide ((((x0).Rates).length : Int) > (6 : Int))) then
   some ((decide ((((x0).Rates).length : Int) > (6 : Int))))
  else
   some ((decide ((((x0).Extras).length : Int) > (8 : Int))))
  ) fun t5 =>
 bif t5 then
  some ((5 : Int))
 else
  Option.bind (α := Bool) (
   (f69 ((⟨x0⟩ : PayPayList))).bind fun lB =>
   bif (!lB) then
    some ((!lB))
   else
    (f70 ((x0).Extras)).bind fun g8 =>
    bif (!g8) then
     some ((!g8))
    else
     (f17 ((0 : Int)) ((1000 : Int)) (([(x0).Fine] : List Int))).bind fun l8 =>
     bif (!l8) then
      some ((!l8))
     else
      (f70 (([(x0).Cap] : List Int))).bind fun v8 =>
      some ((!v8))
   ) fun l5 =>
  bif l5 then
   some ((2 : Int))
  else
   nD ()
theorem en52 : Enters Tryd.prog 52 := enters_of Tryd.func52 (by kernel_rfl) rfl
theorem wk52 {gI : Gh} {wI : World} {x0 : PayList} {up0 : Value} (rp0 : RV gI.m wI x0 up0) {r : Int} (h : f52 x0 = some r) : Fn Tryd.prog 52 #[up0] gI wI (fun _ _ v => v = .int .i64 (r)) := by
 unfold f52 at h;refine fn_of_E Tryd.func52 rfl (Nat.le_of_ble_eq_true rfl) fun g0 hm hfr => ?_;have rp0 : RV g0.m wI x0 up0 := hm ▸ rp0;show E _ 31 none _ _ _ _ _;refine E_seq (E_region (EL_do .plain rfl (D_box (g := g0) rfl rp0 fun g1 w1 p1 hs q1 => ?_)));have hfr := hfr.ext hs;refine EL_at (.int .i64 (0)) rfl rfl ?_;refine EL_nil (thn_n (E_joinC h (fun (s : Unit) e w => ∃ (g : Gh) , Fr gI wI g w) (fun X58 nD aE h => ?_) ?_))
 ·refine E_block ?_
  obtain ⟨t5, hx, h⟩ := bsome h;refine E_join (fun e w => ∃ (g : Gh) , Fr gI wI g w ∧ e 1 = p1 ∧ PT g.m w (x0 : PayList) p1 ∧ e 3 = .bool (t5)) (fun Q' hQ => ?_) (fun iG jH hR => ?_)
  ·replace h := hx
   clear hx;refine E_seq (E_region (EL_p (fPtr p1 0) (P_fieldAddr at_58_0 rfl (PT.ptr q1)) rfl ?_));have rF := PT_field (part_PayList_0).1 q1;refine EL_do .plain rfl (D_load (g := g1) Tryd.isAgg56 Tryd.sizeOf56 rfl rF fun kH sF => ?_);refine EL_p (.int .i64 (((x0).Rates).length : Int)) (P_len Tryd.underlying56 rfl sF) rfl ?_;refine EL_p (.bool ((decide ((((x0).Rates).length : Int) > (6 : Int))))) (P_int rfl rfl rfl) rfl ?_;refine EL_p (.bool ((decide ((((x0).Rates).length : Int) > (6 : Int))))) (P_assign rfl) rfl ?_;refine EL_nil (thn_n ?_);rcases csome h with ⟨mB, h⟩ | ⟨mB, h⟩
   ·refine E_ct mB rfl ?_
    refine E_skip ?_;obtain rfl := sinj h;exact hQ _ _ ⟨g1, hfr, rfl, q1, rfl⟩
   ·refine E_cf mB rfl ?_
    refine E_region (EL_p (fPtr p1 1) (P_fieldAddr at_58_1 rfl (PT.ptr q1)) rfl ?_);have tF := PT_field (part_PayList_1).1 q1;refine EL_do .plain rfl (D_load (g := g1) Tryd.isAgg34 Tryd.sizeOf34 rfl tF fun lH uF => ?_);refine EL_p (.int .i64 (((x0).Extras).length : Int)) (P_len Tryd.underlying34 rfl uF) rfl ?_;refine EL_p (.bool ((decide ((((x0).Extras).length : Int) > (8 : Int))))) (P_int rfl rfl rfl) rfl ?_;refine EL_p (.bool ((decide ((((x0).Extras).length : Int) > (8 : Int))))) (P_assign rfl) rfl ?_;refine EL_nil ?_;obtain rfl := sinj h;exact hQ _ _ ⟨g1, hfr, rfl, q1, rfl⟩
  ·clear hx
   obtain ⟨cC, hfr, i6, o0, zB⟩ := hR;rcases csome h with ⟨nB, h⟩ | ⟨nB, h⟩
   ·refine E_cond_true (Eq.trans (show ev _ _ = .bool (t5) from zB) (congrArg Value.bool nB)) ?_
    refine E_seq (E_region (EL_at (.int .i64 (5)) rfl rfl ?_));refine EL_nil (thn_n (E_ret (blk_r ?_)));refine thn_r ?_;obtain rfl := sinj h;exact end1 rfl rfl (show _ = .int .i64 (5) from rfl) ⟨_, hfr, rfl⟩
   ·refine E_cond_false (Eq.trans (show ev _ _ = .bool (t5) from zB) (congrArg Value.bool nB)) ?_
    obtain ⟨l5, hx, h⟩ := bsome h;refine E_join (fun e w => ∃ (g : Gh) , Fr gI wI g w ∧ e 12 = .bool (l5)) (fun Q' hQ => ?_) (fun aG jG hR => ?_)
    ·replace h := hx
     clear hx;refine E_seq (E_region (EL_do .plain rfl (D_load (g := cC) Tryd.isAgg58 Tryd.sizeOf58 i6 o0 fun uC oD => ?_)));have yD : RV cC.m _ (⟨x0⟩ : PayPayList) (.agg (setCh [[.slice none 0 0, .slice none 0 0, .int .i64 0, .int .i64 0]] [(0, uC)]).flatten.toArray) := RV_build rfl (rep_last (RV.cells oD));generalize bE : (Value.agg (setCh [[.slice none 0 0, .slice none 0 0, .int .i64 0, .int .i64 0]] [(0, uC)]).flatten.toArray) = zD at yD;refine EL_p zD (bE ▸ P_build (vs := [(0, uC)]) [[.slice none 0 0, .slice none 0 0, .int .i64 0, .int .i64 0]] lay_91 rfl rfl (.cons rfl .nil) ⟨⟨_, rfl, cells_size oD⟩, trivial⟩) rfl ?_;obtain ⟨lB, iE, h⟩ := bsome h;refine EL_do .plain rfl (D_call (g := cC) (vs := [zD]) en69 (.cons rfl .nil) (wk69 yD iE) fun vC kG mH hs hr => ?_);have hfr := hfr.ext hs;have o0 := o0.ext hs;subst hr;refine EL_p (.bool (!lB)) (P_not rfl) rfl ?_;refine EL_at (.bool (!lB)) rfl rfl ?_;refine EL_nil (thn_n ?_);rcases csome h with ⟨oB, h⟩ | ⟨oB, h⟩
     ·refine E_ct oB rfl ?_
      refine E_skip ?_;obtain rfl := sinj h;exact hQ _ _ ⟨vC, hfr, rfl⟩
     ·refine E_cf oB rfl ?_
      refine E_seq (E_region (EL_p (fPtr p1 1) (P_fieldAddr at_58_1 i6 (PT.ptr o0)) rfl ?_));have vF := PT_field (part_PayList_1).1 o0;refine EL_do .plain rfl (D_load (g := vC) Tryd.isAgg34 Tryd.sizeOf34 rfl vF fun xF yF => ?_);obtain ⟨g8, bD, h⟩ := bsome h;refine EL_do .plain rfl (D_call (g := vC) (vs := [xF]) en70 (.cons rfl .nil) (wk70 yF bD) fun vB bG lG hs hr => ?_);have hfr := hfr.ext hs;have o0 := o0.ext hs;subst hr;refine EL_p (.bool (!g8)) (P_not rfl) rfl ?_;refine EL_at (.bool (!g8)) rfl rfl ?_;refine EL_nil (thn_n ?_);rcases csome h with ⟨l9, h⟩ | ⟨l9, h⟩
      ·refine E_ct l9 rfl ?_
       refine E_skip ?_;obtain rfl := sinj h;exact hQ _ _ ⟨vB, hfr, rfl⟩
      ·refine E_cf l9 rfl ?_
       refine E_seq (E_region (EL_p (fPtr p1 2) (P_fieldAddr at_58_2 i6 (PT.ptr o0)) rfl ?_));have lE := PT_field (part_PayList_2).1 o0;refine EL_do .plain rfl (D_load (g := vB) Tryd.isAgg3 Tryd.sizeOf3 rfl lE fun mG mE => ?_);obtain rfl := RV_int.1 mE;refine EL_do .plain rfl (D_buildSlice (g := vB) 3023 (xs := ([(x0).Fine] : List Int)) (vs := [.int .i64 ((x0).Fine)]) Tryd.underlying34 Tryd.sizeOf3 Tryd.zeroValue3 rfl rfl (.cons rfl .nil) (RVs.cons (RV_int.2 rfl) RVs.nil) rfl rfl fun oE sG rE hs o105 uE hxt hfl => ?_);have hfr := hfr.stp hs;have o0 := o0.stp hs;obtain ⟨l8, cD, h⟩ := bsome h;refine EL_do .plain rfl (D_call (g := oE) (vs := [.int .i64 (0), .int .i64 (1000), rE]) en17 (.cons rfl (.cons rfl (.cons rfl .nil))) (wk17 uE cD) fun yB cG xG hs hr => ?_);have hfr := hfr.ext hs;have o0 := o0.ext hs;subst hr;refine EL_p (.bool (!l8)) (P_not rfl) rfl ?_;refine EL_at (.bool (!l8)) rfl rfl ?_;refine EL_nil (thn_n ?_);rcases csome h with ⟨n9, h⟩ | ⟨n9, h⟩
       ·refine E_ct n9 rfl ?_
        refine E_skip ?_;obtain rfl := sinj h;exact hQ _ _ ⟨yB, hfr, rfl⟩
       ·refine E_cf n9 rfl ?_
        refine E_region (EL_p (fPtr p1 3) (P_fieldAddr at_58_3 i6 (PT.ptr o0)) rfl ?_);have vE := PT_field (part_PayList_3).1 o0;refine EL_do .plain rfl (D_load (g := yB) Tryd.isAgg3 Tryd.sizeOf3 rfl vE fun yG xE => ?_);obtain rfl := RV_int.1 xE;refine EL_do .plain rfl (D_buildSlice (g := yB) 3028 (xs := ([(x0).Cap] : List Int)) (vs := [.int .i64 ((x0).Cap)]) Tryd.underlying34 Tryd.sizeOf3 Tryd.zeroValue3 rfl rfl (.cons rfl .nil) (RVs.cons (RV_int.2 rfl) RVs.nil) rfl rfl fun yE zG zE hs o111 cF hxt hfl => ?_);have hfr := hfr.stp hs;obtain ⟨v8, lD, h⟩ := bsome h;refine EL_do .plain rfl (D_call (g := yE) (vs := [zE]) en70 (.cons rfl .nil) (wk70 cF lD) fun dF eG aH hs hr => ?_);have hfr := hfr.ext hs;subst hr;refine EL_p (.bool (!v8)) (P_not rfl) rfl ?_;refine EL_at (.bool (!v8)) rfl rfl ?_;refine EL_nil ?_;obtain rfl := sinj h;exact hQ _ _ ⟨dF, hfr, rfl⟩
    ·clear hx
     obtain ⟨eF, hfr, n8⟩ := hR;rcases csome h with ⟨aB, h⟩ | ⟨aB, h⟩
     ·refine E_cond_true (Eq.trans (show ev _ _ = .bool (l5) from n8) (congrArg Value.bool aB)) ?_
      refine E_seq (E_region (EL_at (.int .i64 (2)) rfl rfl ?_));refine EL_nil (thn_n (E_ret (blk_r ?_)));refine thn_r ?_;obtain rfl := sinj h;exact end1 rfl rfl (show _ = .int .i64 (2) from rfl) ⟨_, hfr, rfl⟩
     ·refine E_cond_false (Eq.trans (show ev _ _ = .bool (l5) from n8) (congrArg Value.bool aB)) ?_
      exact E_skip (blk_n (thn_n (aE () _ _ ⟨eF, hfr⟩ h)))
 ·rintro _ gG cH ⟨gH, hfr⟩ h
  refine E_seq (E_region (EL_at (.int .i64 (0)) rfl rfl ?_));refine EL_nil (thn_n (E_ret ?_));obtain rfl := sinj h;exact end1 rfl rfl (show _ = .int .i64 (0) from rfl) ⟨_, hfr, rfl⟩
def f53 (x0 : PayPayList) (x1 : PayPiece) : Option (Int) :=
 jn (σ := Unit) (fun _ =>
  some ((0 : Int))
  ) fun zD =>
 Option.bind (α := Bool) (
  (f17 ((0 : Int)) ((50 : Int)) (([(x1).Weaver] : List Int))).bind fun aB =>
  bif (!aB) then
   some ((!aB))
  else
   (f17 ((0 : Int)) ((1000 : Int)) (([(x1).Dense] : List Int))).bind fun lB =>
   bif (!lB) then
    some ((!lB))
   else
    (f17 ((0 : Int)) ((1000000 : Int)) (([(x1).Picks] : List Int))).bind fun t5 =>
    bif (!t5) then
     some ((!t5))
    else
     (f17 ((0 : Int)) ((100 : Int)) (([(x1).Faults] : List Int))).bind fun i6 =>
     some ((!i6))
  ) fun l5 =>
 bif l5 then
  some ((2 : Int))
 else
  (f17 ((0 : Int)) ((w64 (((((x0).PayList).Extras).length : Int) - (1 : Int)))) ((x1).Extras)).bind fun g8 =>
  bif (!g8) then
   some ((7 : Int))
  else
   (f71 ((x1).Extras)).bind fun y125 =>
   bif (!y125) then
    some ((4 : Int))
   else
    zD ()
theorem en53 : Enters Tryd.prog 53 := enters_of Tryd.func53 (by kernel_rfl) rfl
theorem wk53 {gI : Gh} {wI : World} {x0 : PayPayList} {x1 : PayPiece} {up0 : Value} (rp0 : RV gI.m wI x0 up0) {up1 : Value} (rp1 : RV gI.m wI x1 up1) {r : Int} (h : f53 x0 x1 = some r) : Fn Tryd.prog 53 #[up0, up1] gI wI (fun _ _ v => v = .int .i64 (r)) := by
 unfold f53 at h;refine fn_of_E Tryd.func53 rfl (Nat.le_of_ble_eq_true rfl) fun g0 hm hfr => ?_;have rp0 : RV g0.m wI x0 up0 := hm ▸ rp0;have rp1 : RV g0.m wI x1 up1 := hm ▸ rp1;show E _ 41 none _ _ _ _ _;refine E_seq (E_region (EL_do .plain rfl (D_box (g := g0) rfl rp0 fun g1 w1 p1 hs q1 => ?_)));have hfr := hfr.ext hs;have rp1 := rp1.ext hs;refine EL_do .plain rfl (D_box (g := g1) rfl rp1 fun g2 w2 p2 hs q2 => ?_);have hfr := hfr.ext hs;have q1 := q1.ext hs;refine EL_at (.int .i64 (0)) rfl rfl ?_;refine EL_nil (thn_n (E_joinC h (fun (s : Unit) e w => ∃ (g : Gh) , Fr gI wI g w) (fun X65 zD aE h => ?_) ?_))
 ·refine E_block ?_
  obtain ⟨l5, hx, h⟩ := bsome h;refine E_join (fun e w => ∃ (g : Gh) , Fr gI wI g w ∧ e 2 = p1 ∧ PT g.m w (x0 : PayPayList) p1 ∧ e 3 = p2 ∧ PT g.m w (x1 : PayPiece) p2 ∧ e 5 = .bool (l5)) (fun Q' hQ => ?_) (fun xG jH hR => ?_)
  ·replace h := hx
   clear hx;refine E_seq (E_region (EL_p (fPtr p2 0) (P_fieldAddr at_63_0 rfl (PT.ptr q2)) rfl ?_));have bG := PT_field (part_PayPiece_0).1 q2;refine EL_do .plain rfl (D_load (g := g2) Tryd.isAgg3 Tryd.sizeOf3 rfl bG fun aI cG => ?_);obtain rfl := RV_int.1 cG;refine EL_do .plain rfl (D_buildSlice (g := g2) 3008 (xs := ([(x1).Weaver] : List Int)) (vs := [.int .i64 ((x1).Weaver)]) Tryd.underlying34 Tryd.sizeOf3 Tryd.zeroValue3 rfl rfl (.cons rfl .nil) (RVs.cons (RV_int.2 rfl) RVs.nil) rfl rfl fun eG bI gG hs o91 iG hxt hfl => ?_);have hfr := hfr.stp hs;have q1 := q1.stp hs;have q2 := q2.stp hs;obtain ⟨aB, bE, h⟩ := bsome h;refine EL_do .plain rfl (D_call (g := eG) (vs := [.int .i64 (0), .int .i64 (50), gG]) en17 (.cons rfl (.cons rfl (.cons rfl .nil))) (wk17 iG bE) fun cC kH dI hs hr => ?_);have hfr := hfr.ext hs;have q1 := q1.ext hs;have q2 := q2.ext hs;subst hr;refine EL_p (.bool (!aB)) (P_not rfl) rfl ?_;refine EL_at (.bool (!aB)) rfl rfl ?_;refine EL_nil (thn_n ?_);rcases csome h with ⟨vB, h⟩ | ⟨vB, h⟩
   ·refine E_ct vB rfl ?_
    refine E_skip ?_;obtain rfl := sinj h;exact hQ _ _ ⟨cC, hfr, rfl, q1, rfl, q2, rfl⟩
   ·refine E_cf vB rfl ?_
    refine E_seq (E_region (EL_p (fPtr p2 1) (P_fieldAddr at_63_1 rfl (PT.ptr q2)) rfl ?_));have jG := PT_field (part_PayPiece_1).1 q2;refine EL_do .plain rfl (D_load (g := cC) Tryd.isAgg3 Tryd.sizeOf3 rfl jG fun iI kG => ?_);obtain rfl := RV_int.1 kG;refine EL_do .plain rfl (D_buildSlice (g := cC) 3013 (xs := ([(x1).Dense] : List Int)) (vs := [.int .i64 ((x1).Dense)]) Tryd.underlying34 Tryd.sizeOf3 Tryd.zeroValue3 rfl rfl (.cons rfl .nil) (RVs.cons (RV_int.2 rfl) RVs.nil) rfl rfl fun lG jI mG hs o97 sG hxt hfl => ?_);have hfr := hfr.stp hs;have q1 := q1.stp hs;have q2 := q2.stp hs;obtain ⟨lB, iE, h⟩ := bsome h;refine EL_do .plain rfl (D_call (g := lG) (vs := [.int .i64 (0), .int .i64 (1000), mG]) en17 (.cons rfl (.cons rfl (.cons rfl .nil))) (wk17 sG iE) fun uC lH kI hs hr => ?_);have hfr := hfr.ext hs;have q1 := q1.ext hs;have q2 := q2.ext hs;subst hr;refine EL_p (.bool (!lB)) (P_not rfl) rfl ?_;refine EL_at (.bool (!lB)) rfl rfl ?_;refine EL_nil (thn_n ?_);rcases csome h with ⟨l8, h⟩ | ⟨l8, h⟩
    ·refine E_ct l8 rfl ?_
     refine E_skip ?_;obtain rfl := sinj h;exact hQ _ _ ⟨uC, hfr, rfl, q1, rfl, q2, rfl⟩
    ·refine E_cf l8 rfl ?_
     refine E_seq (E_region (EL_p (fPtr p2 2) (P_fieldAddr at_63_2 rfl (PT.ptr q2)) rfl ?_));have lE := PT_field (part_PayPiece_2).1 q2;refine EL_do .plain rfl (D_load (g := uC) Tryd.isAgg3 Tryd.sizeOf3 rfl lE fun mH mE => ?_);obtain rfl := RV_int.1 mE;refine EL_do .plain rfl (D_buildSlice (g := uC) 3018 (xs := ([(x1).Picks] : List Int)) (vs := [.int .i64 ((x1).Picks)]) Tryd.underlying34 Tryd.sizeOf3 Tryd.zeroValue3 rfl rfl (.cons rfl .nil) (RVs.cons (RV_int.2 rfl) RVs.nil) rfl rfl fun oE nH rE hs o103 uE hxt hfl => ?_);have hfr := hfr.stp hs;have q1 := q1.stp hs;have q2 := q2.stp hs;obtain ⟨t5, lD, h⟩ := bsome h;refine EL_do .plain rfl (D_call (g := oE) (vs := [.int .i64 (0), .int .i64 (1000000), rE]) en17 (.cons rfl (.cons rfl (.cons rfl .nil))) (wk17 uE lD) fun yB yG oH hs hr => ?_);have hfr := hfr.ext hs;have q1 := q1.ext hs;have q2 := q2.ext hs;subst hr;refine EL_p (.bool (!t5)) (P_not rfl) rfl ?_;refine EL_at (.bool (!t5)) rfl rfl ?_;refine EL_nil (thn_n ?_);rcases csome h with ⟨n8, h⟩ | ⟨n8, h⟩
     ·refine E_ct n8 rfl ?_
      refine E_skip ?_;obtain rfl := sinj h;exact hQ _ _ ⟨yB, hfr, rfl, q1, rfl, q2, rfl⟩
     ·refine E_cf n8 rfl ?_
      refine E_region (EL_p (fPtr p2 4) (P_fieldAddr at_63_4 rfl (PT.ptr q2)) rfl ?_);have vE := PT_field (part_PayPiece_4).1 q2;refine EL_do .plain rfl (D_load (g := yB) Tryd.isAgg3 Tryd.sizeOf3 rfl vE fun pH xE => ?_);obtain rfl := RV_int.1 xE;refine EL_do .plain rfl (D_buildSlice (g := yB) 3023 (xs := ([(x1).Faults] : List Int)) (vs := [.int .i64 ((x1).Faults)]) Tryd.underlying34 Tryd.sizeOf3 Tryd.zeroValue3 rfl rfl (.cons rfl .nil) (RVs.cons (RV_int.2 rfl) RVs.nil) rfl rfl fun yE qH zE hs o109 cF hxt hfl => ?_);have hfr := hfr.stp hs;have q1 := q1.stp hs;have q2 := q2.stp hs;obtain ⟨i6, nD, h⟩ := bsome h;refine EL_do .plain rfl (D_call (g := yE) (vs := [.int .i64 (0), .int .i64 (100), zE]) en17 (.cons rfl (.cons rfl (.cons rfl .nil))) (wk17 cF nD) fun dF zG sH hs hr => ?_);have hfr := hfr.ext hs;have q1 := q1.ext hs;have q2 := q2.ext hs;subst hr;refine EL_p (.bool (!i6)) (P_not rfl) rfl ?_;refine EL_at (.bool (!i6)) rfl rfl ?_;refine EL_nil ?_;obtain rfl := sinj h;exact hQ _ _ ⟨dF, hfr, rfl, q1, rfl, q2, rfl⟩
  ·clear hx
   obtain ⟨zB, hfr, vC, mB, nB, o0, oB⟩ := hR;rcases csome h with ⟨v8, h⟩ | ⟨v8, h⟩
   ·refine E_cond_true (Eq.trans (show ev _ _ = .bool (l5) from oB) (congrArg Value.bool v8)) ?_
    refine E_seq (E_region (EL_at (.int .i64 (2)) rfl rfl ?_));refine EL_nil (thn_n (E_ret (blk_r ?_)));refine thn_r ?_;obtain rfl := sinj h;exact end1 rfl rfl (show _ = .int .i64 (2) from rfl) ⟨_, hfr, rfl⟩
   ·refine E_cond_false (Eq.trans (show ev _ _ = .bool (l5) from oB) (congrArg Value.bool v8)) ?_
    refine E_seq (E_region (EL_p (fPtr p1 0) (P_fieldAddr at_91_0 vC (PT.ptr mB)) rfl ?_));have bD := PT_field (part_PayPayList_0).1 mB;refine EL_p (fPtr (fPtr p1 0) 1) (P_fieldAddr at_58_1 rfl (PT.ptr bD)) rfl ?_;have eF := PT_field (part_PayList_1).1 bD;refine EL_do .plain rfl (D_load (g := zB) Tryd.isAgg34 Tryd.sizeOf34 rfl eF fun tH rF => ?_);refine EL_p (.int .i64 ((((x0).PayList).Extras).length : Int)) (P_len Tryd.underlying34 rfl rF) rfl ?_;refine EL_p (.int .i64 ((w64 (((((x0).PayList).Extras).length : Int) - (1 : Int))))) (P_int rfl rfl rfl) rfl ?_;refine EL_p (fPtr p2 3) (P_fieldAddr at_63_3 nB (PT.ptr o0)) rfl ?_;have sF := PT_field (part_PayPiece_3).1 o0;refine EL_do .plain rfl (D_load (g := zB) Tryd.isAgg34 Tryd.sizeOf34 rfl sF fun tF uF => ?_);obtain ⟨g8, oD, h⟩ := bsome h;refine EL_do .plain rfl (D_call (g := zB) (vs := [.int .i64 (0), .int .i64 ((w64 (((((x0).PayList).Extras).length : Int) - (1 : Int)))), tF]) en17 (.cons rfl (.cons rfl (.cons rfl .nil))) (wk17 uF oD) fun cD aH uH hs hr => ?_);have hfr := hfr.ext hs;have o0 := o0.ext hs;subst hr;refine EL_p (.bool (!g8)) (P_not rfl) rfl ?_;refine EL_at (.bool (!g8)) rfl rfl ?_;refine EL_nil (thn_n ?_);rcases csome h with ⟨l9, h⟩ | ⟨l9, h⟩
    ·refine E_ct l9 rfl ?_
     refine E_seq (E_region (EL_at (.int .i64 (7)) rfl rfl ?_));refine EL_nil (thn_n (E_ret (blk_r ?_)));refine thn_r ?_;obtain rfl := sinj h;exact end1 rfl rfl (show _ = .int .i64 (7) from rfl) ⟨_, hfr, rfl⟩
    ·refine E_cf l9 rfl ?_
     refine E_seq (E_region (EL_p (fPtr p2 3) (P_fieldAddr at_63_3 nB (PT.ptr o0)) rfl ?_));have vF := PT_field (part_PayPiece_3).1 o0;refine EL_do .plain rfl (D_load (g := cD) Tryd.isAgg34 Tryd.sizeOf34 rfl vF fun xF yF => ?_);obtain ⟨y125, yD, h⟩ := bsome h;refine EL_do .plain rfl (D_call (g := cD) (vs := [xF]) en71 (.cons rfl .nil) (wk71 yF yD) fun aG cH xH hs hr => ?_);have hfr := hfr.ext hs;subst hr;refine EL_p (.bool (!y125)) (P_not rfl) rfl ?_;refine EL_at (.bool (!y125)) rfl rfl ?_;refine EL_nil (thn_n ?_);rcases csome h with ⟨n9, h⟩ | ⟨n9, h⟩
     ·refine E_ct n9 rfl ?_
      refine E_seq (E_region (EL_at (.int .i64 (4)) rfl rfl ?_));refine EL_nil (thn_n (E_ret (blk_r ?_)));refine thn_r ?_;obtain rfl := sinj h;exact end1 rfl rfl (show _ = .int .i64 (4) from rfl) ⟨_, hfr, rfl⟩
     ·refine E_cf n9 rfl ?_
      exact E_skip (blk_n (thn_n (aE () _ _ ⟨aG, hfr⟩ h)))
 ·rintro _ gH yH ⟨zH, hfr⟩ h
  refine E_seq (E_region (EL_at (.int .i64 (0)) rfl rfl ?_));refine EL_nil (thn_n (E_ret ?_));obtain rfl := sinj h;exact end1 rfl rfl (show _ = .int .i64 (0) from rfl) ⟨_, hfr, rfl⟩
def f55 (x0 : PayTable) : Option (PaySheet × Int) :=
 jn (σ := PaySheet) (fun iE =>
  some ((⟨x0⟩ : PaySheet), (0 : Int))
  ) fun vF =>
 (f74 ((⟨x0⟩ : PaySheet))).bind fun lE =>
 bif lE then
  some ((⟨x0⟩ : PaySheet), (5 : Int))
 else
  (f75 ((⟨x0⟩ : PaySheet))).bind fun zD =>
  bif (!zD) then
   some ((⟨x0⟩ : PaySheet), (4 : Int))
  else
   Option.bind (α := Bool) (
    (f77 ((x0).Rows)).bind fun mE =>
    (f76 mE).bind fun l9 =>
    bif (!l9) then
     some ((!l9))
    else
     (f37 ((x0).Across)).bind fun n9 =>
     bif (!n9) then
      some ((!n9))
     else
      (f37 ((x0).Down)).bind fun aB =>
      bif (!aB) then
       some ((!aB))
      else
       (f37 (([(x0).Total] : List Int))).bind fun nB =>
       some ((!nB))
    ) fun i6 =>
   bif i6 then
    some ((⟨x0⟩ : PaySheet), (2 : Int))
   else
    (f56 ((⟨x0⟩ : PaySheet))).bind fun lB =>
    bif (decide (((lB).length : Int) > (12 : Int))) then
     some ((⟨x0⟩ : PaySheet), (8 : Int))
    else
     vF ((⟨⟨[], [], [], 0⟩⟩ : PaySheet))
theorem en55 : Enters Tryd.prog 55 := enters_of Tryd.func55 (by kernel_rfl) rfl
theorem wk55 {gI : Gh} {wI : World} {x0 : PayTable} {up0 : Value} (rp0 : RV gI.m wI x0 up0) {r : PaySheet × Int} (h : f55 x0 = some r) : Fn Tryd.prog 55 #[up0] gI wI (fun m w v => ∃ y0 y1, v = .tuple #[y0, y1] ∧ RV m w (r.1) y0 ∧ y1 = .int .i64 (r.2)) := by
 unfold f55 at h;refine fn_of_E Tryd.func55 rfl (Nat.le_of_ble_eq_true rfl) fun g0 hm hfr => ?_;have rp0 : RV g0.m wI x0 up0 := hm ▸ rp0;show E _ 47 none _ _ _ _ _;refine E_seq (E_region (EL_do .plain rfl (D_box (g := g0) rfl rp0 fun g1 w1 p1 hs q1 => ?_)));have hfr := hfr.ext hs;refine EL_do .plain rfl (D_allocOc (g := g1) 2002 (⟨⟨[], [], [], 0⟩⟩ : PaySheet) Tryd.zeroValue97 (fun m w => ⟨_, (rep_two rep_nil (rep_two rep_nil (rep_two rep_nil rep_int))), rfl⟩) fun g2 w2 p2 hs b2 cb => ?_);have hfr := hfr.stp hs;have q1 := q1.stp hs;have o0 : OSF 2002 60200 0 g2 w2 34 97 ([] : List (List Int)) p2 := cb.osf (by rfl);have l5 : OSF 2002 60201 1 g2 w2 3 97 ([] : List Int) p2 := cb.osf (by rfl);have t5 : OSF 2002 60202 2 g2 w2 3 97 ([] : List Int) p2 := cb.osf (by rfl);clear cb;refine EL_at (.int .i64 (0)) rfl rfl ?_;refine EL_nil (thn_n (E_seq (E_region (EL_do .plain rfl (D_load (g := g2) Tryd.isAgg71 Tryd.sizeOf71 rfl q1 fun v3 r3 => ?_)))));have r4 : RV g2.m _ (⟨x0⟩ : PaySheet) (.agg (setCh [[.slice none 0 0, .slice none 0 0, .slice none 0 0, .int .i64 0]] [(0, v3)]).flatten.toArray) := RV_build rfl (rep_last (RV.cells r3));generalize sH : (Value.agg (setCh [[.slice none 0 0, .slice none 0 0, .slice none 0 0, .int .i64 0]] [(0, v3)]).flatten.toArray) = v4 at r4;refine EL_p v4 (sH ▸ P_build (vs := [(0, v3)]) [[.slice none 0 0, .slice none 0 0, .slice none 0 0, .int .i64 0]] lay_97 rfl rfl (.cons rfl .nil) ⟨⟨_, rfl, cells_size r3⟩, trivial⟩) rfl ?_;refine EL_do .plain rfl (D_allocOc (g := g2) 2004 (⟨⟨[], [], [], 0⟩⟩ : PaySheet) Tryd.zeroValue97 (fun m w => ⟨_, (rep_two rep_nil (rep_two rep_nil (rep_two rep_nil rep_int))), rfl⟩) fun g5 w5 p5 hs b5 cb => ?_);have hfr := hfr.stp hs;have o0 := o0.stp hs rfl;have l5 := l5.stp hs rfl;have t5 := t5.stp hs rfl;have b2 := b2.stp hs rfl;have r4 := r4.stp hs;have sI : OSF 2004 60400 0 g5 w5 34 97 ([] : List (List Int)) p5 := cb.osf (by rfl);have jJ : OSF 2004 60401 1 g5 w5 3 97 ([] : List Int) p5 := cb.osf (by rfl);have kJ : OSF 2004 60402 2 g5 w5 3 97 ([] : List Int) p5 := cb.osf (by rfl);clear cb;refine EL_do .plain rfl (D_storeOc (g := g5) (v := v4) Tryd.sizeOf97 rfl b5 rfl r4 fun g6 w6 hs b6 cb => ?_);clear cb;have hfr := hfr.stp hs;have o0 := o0.stp hs rfl;have l5 := l5.stp hs rfl;have t5 := t5.stp hs rfl;have b2 := b2.stp hs rfl;refine EL_nil (thn_n (E_joinC h (fun (s : PaySheet) e w => ∃ (g : Gh) , Fr gI wI g w ∧ e 2 = p2 ∧ OB 2002 g w 97 (s : PaySheet) p2 ∧ OSF 2002 60200 0 g w 34 97 (((s).PayTable).Rows) p2 ∧ OSF 2002 60201 1 g w 3 97 (((s).PayTable).Across) p2 ∧ OSF 2002 60202 2 g w 3 97 (((s).PayTable).Down) p2 ∧ e 4 = p5 ∧ OB 2004 g w 97 ((⟨x0⟩ : PaySheet) : PaySheet) p5) (fun X86 vF xF h => ?_) ?_))
 ·refine E_block ?_
  refine E_seq (E_region (EL_do .plain rfl (D_loadO (g := g6) Tryd.isAgg97 Tryd.sizeOf97 rfl b6 fun tH uH => ?_)));obtain ⟨lE, yF, h⟩ := bsome h;refine EL_do .plain rfl (D_call (g := g6) (vs := [tH]) en74 (.cons rfl .nil) (wk74 uH yF) fun aE lJ nK hs hr => ?_);have hfr := hfr.ext hs;have o0 := o0.ext hs;have l5 := l5.ext hs;have t5 := t5.ext hs;have b2 := b2.ext hs;have b6 := b6.ext hs;subst hr;refine EL_at (.bool (lE)) rfl rfl ?_;refine EL_nil (thn_n ?_);rcases csome h with ⟨bD, h⟩ | ⟨bD, h⟩
  ·refine E_ct bD rfl ?_
   refine E_seq (E_region (EL_do .plain rfl (D_loadO (g := aE) Tryd.isAgg97 Tryd.sizeOf97 rfl b6 fun xH yH => ?_)));refine EL_do .plain rfl (D_storeOc (g := aE) (v := xH) Tryd.sizeOf97 rfl b2 rfl yH fun oK pK hs b92 cb => ?_);clear cb;have hfr := hfr.stp hs;refine EL_at (.int .i64 (5)) rfl rfl ?_;refine EL_nil (thn_n (E_ret (blk_r ?_)));refine thn_r ?_;obtain rfl := sinj h;obtain ⟨ad93, cv93, hp93, aG, cr93⟩ := ob_read Tryd.isAgg97 Tryd.sizeOf97 b92;exact endm_ct rfl rfl ((show _ = p2 from rfl).trans hp93) aG (show _ = .int .i64 (5) from rfl) ⟨_, hfr, _, _, rfl, cr93, rfl⟩
  ·refine E_cf bD rfl ?_
   refine E_seq (E_region (EL_do .plain rfl (D_loadO (g := aE) Tryd.isAgg97 Tryd.sizeOf97 rfl b6 fun zH aI => ?_)));obtain ⟨zD, bG, h⟩ := bsome h;refine EL_do .plain rfl (D_call (g := aE) (vs := [zH]) en75 (.cons rfl .nil) (wk75 aI bG) fun bE mJ qK hs hr => ?_);have hfr := hfr.ext hs;have o0 := o0.ext hs;have l5 := l5.ext hs;have t5 := t5.ext hs;have b2 := b2.ext hs;have b6 := b6.ext hs;subst hr;refine EL_p (.bool (!zD)) (P_not rfl) rfl ?_;refine EL_at (.bool (!zD)) rfl rfl ?_;refine EL_nil (thn_n ?_);rcases csome h with ⟨cD, h⟩ | ⟨cD, h⟩
   ·refine E_ct cD rfl ?_
    refine E_seq (E_region (EL_do .plain rfl (D_loadO (g := bE) Tryd.isAgg97 Tryd.sizeOf97 rfl b6 fun bI dI => ?_)));refine EL_do .plain rfl (D_storeOc (g := bE) (v := bI) Tryd.sizeOf97 rfl b2 rfl dI fun sK tK hs b99 cb => ?_);clear cb;have hfr := hfr.stp hs;refine EL_at (.int .i64 (4)) rfl rfl ?_;refine EL_nil (thn_n (E_ret (blk_r ?_)));refine thn_r ?_;obtain rfl := sinj h;obtain ⟨ad100, cv100, hp100, xE, cr100⟩ := ob_read Tryd.isAgg97 Tryd.sizeOf97 b99;exact endm_ct rfl rfl ((show _ = p2 from rfl).trans hp100) xE (show _ = .int .i64 (4) from rfl) ⟨_, hfr, _, _, rfl, cr100, rfl⟩
   ·refine E_cf cD rfl ?_
    obtain ⟨i6, hx, h⟩ := bsome h;refine E_join (fun e w => ∃ (g : Gh) , Fr gI wI g w ∧ e 2 = p2 ∧ OB 2002 g w 97 ((⟨⟨[], [], [], 0⟩⟩ : PaySheet) : PaySheet) p2 ∧ OSF 2002 60200 0 g w 34 97 ((((⟨⟨[], [], [], 0⟩⟩ : PaySheet)).PayTable).Rows) p2 ∧ OSF 2002 60201 1 g w 3 97 ((((⟨⟨[], [], [], 0⟩⟩ : PaySheet)).PayTable).Across) p2 ∧ OSF 2002 60202 2 g w 3 97 ((((⟨⟨[], [], [], 0⟩⟩ : PaySheet)).PayTable).Down) p2 ∧ e 4 = p5 ∧ OB 2004 g w 97 ((⟨x0⟩ : PaySheet) : PaySheet) p5 ∧ e 16 = .bool (i6)) (fun Q' hQ => ?_) (fun iI nJ hR => ?_)
    ·replace h := hx
     clear hx;refine E_seq (E_region (EL_p (fPtr p5 0) (P_fieldAddr at_97_0 rfl (OB.ptr b6)) rfl ?_));refine EL_p (fPtr p5 0) (P_fieldAddr2 (o1 := 0) rfl at_71_0 rfl (OB.ptr b6)) rfl ?_;refine EL_do .plain rfl (D_loadF (g := bE) (SubS.comp part_PaySheet_0 part_PayTable_0 rfl).1 Tryd.isAgg69 Tryd.sizeOf69 rfl b6 fun cG eG => ?_);obtain ⟨mE, yE, h⟩ := bsome h;refine EL_do .plain rfl (D_call (g := bE) (vs := [cG]) en77 (.cons rfl .nil) (wk77 eG yE) fun gG jI iG hs hr => ?_);have hfr := hfr.ext hs;have o0 := o0.ext hs;have l5 := l5.ext hs;have t5 := t5.ext hs;have b2 := b2.ext hs;have b6 := b6.ext hs;have jG := hr;obtain ⟨l9, zE, h⟩ := bsome h;refine EL_do .plain rfl (D_call (g := gG) (vs := [iG]) en76 (.cons rfl .nil) (wk76 jG zE) fun lD kI oJ hs hr => ?_);have hfr := hfr.ext hs;have o0 := o0.ext hs;have l5 := l5.ext hs;have t5 := t5.ext hs;have b2 := b2.ext hs;have b6 := b6.ext hs;subst hr;refine EL_p (.bool (!l9)) (P_not rfl) rfl ?_;refine EL_at (.bool (!l9)) rfl rfl ?_;refine EL_nil (thn_n ?_);rcases csome h with ⟨oB, h⟩ | ⟨oB, h⟩
     ·refine E_ct oB rfl ?_
      refine E_skip ?_;obtain rfl := sinj h;exact hQ _ _ ⟨lD, hfr, rfl, b2, o0, l5, t5, rfl, b6, rfl⟩
     ·refine E_cf oB rfl ?_
      refine E_seq (E_region (EL_p (fPtr p5 0) (P_fieldAddr at_97_0 rfl (OB.ptr b6)) rfl ?_));refine EL_p (fPtr p5 1) (P_fieldAddr2 (o1 := 0) rfl at_71_1 rfl (OB.ptr b6)) rfl ?_;refine EL_do .plain rfl (D_loadF (g := lD) (SubS.comp part_PaySheet_0 part_PayTable_1 rfl).1 Tryd.isAgg34 Tryd.sizeOf34 rfl b6 fun kG lG => ?_);obtain ⟨n9, cF, h⟩ := bsome h;refine EL_do .plain rfl (D_call (g := lD) (vs := [kG]) en37 (.cons rfl .nil) (wk37 lG cF) fun nD lI pJ hs hr => ?_);have hfr := hfr.ext hs;have o0 := o0.ext hs;have l5 := l5.ext hs;have t5 := t5.ext hs;have b2 := b2.ext hs;have b6 := b6.ext hs;subst hr;refine EL_p (.bool (!n9)) (P_not rfl) rfl ?_;refine EL_at (.bool (!n9)) rfl rfl ?_;refine EL_nil (thn_n ?_);rcases csome h with ⟨vB, h⟩ | ⟨vB, h⟩
      ·refine E_ct vB rfl ?_
       refine E_skip ?_;obtain rfl := sinj h;exact hQ _ _ ⟨nD, hfr, rfl, b2, o0, l5, t5, rfl, b6, rfl⟩
      ·refine E_cf vB rfl ?_
       refine E_seq (E_region (EL_p (fPtr p5 0) (P_fieldAddr at_97_0 rfl (OB.ptr b6)) rfl ?_));refine EL_p (fPtr p5 2) (P_fieldAddr2 (o1 := 0) rfl at_71_2 rfl (OB.ptr b6)) rfl ?_;refine EL_do .plain rfl (D_loadF (g := nD) (SubS.comp part_PaySheet_0 part_PayTable_2 rfl).1 Tryd.isAgg34 Tryd.sizeOf34 rfl b6 fun mG sG => ?_);obtain ⟨aB, dF, h⟩ := bsome h;refine EL_do .plain rfl (D_call (g := nD) (vs := [mG]) en37 (.cons rfl .nil) (wk37 sG dF) fun oD mI qJ hs hr => ?_);have hfr := hfr.ext hs;have o0 := o0.ext hs;have l5 := l5.ext hs;have t5 := t5.ext hs;have b2 := b2.ext hs;have b6 := b6.ext hs;subst hr;refine EL_p (.bool (!aB)) (P_not rfl) rfl ?_;refine EL_at (.bool (!aB)) rfl rfl ?_;refine EL_nil (thn_n ?_);rcases csome h with ⟨yB, h⟩ | ⟨yB, h⟩
       ·refine E_ct yB rfl ?_
        refine E_skip ?_;obtain rfl := sinj h;exact hQ _ _ ⟨oD, hfr, rfl, b2, o0, l5, t5, rfl, b6, rfl⟩
       ·refine E_cf yB rfl ?_
        refine E_region (EL_p (fPtr p5 0) (P_fieldAddr at_97_0 rfl (OB.ptr b6)) rfl ?_);refine EL_p (fPtr p5 3) (P_fieldAddr2 (o1 := 0) rfl at_71_3 rfl (OB.ptr b6)) rfl ?_;refine EL_do .plain rfl (D_loadF (g := oD) (SubS.comp part_PaySheet_0 part_PayTable_3 rfl).1 Tryd.isAgg3 Tryd.sizeOf3 rfl b6 fun rJ xG => ?_);obtain rfl := RV_int.1 xG;refine EL_do .plain rfl (D_buildSlice (g := oD) 3036 (xs := ([(x0).Total] : List Int)) (vs := [.int .i64 ((x0).Total)]) Tryd.underlying34 Tryd.sizeOf3 Tryd.zeroValue3 rfl rfl (.cons rfl .nil) (RVs.cons (RV_int.2 rfl) RVs.nil) rfl rfl fun yG sJ zG hs o150 aH hxt hfl => ?_);have hfr := hfr.stp hs;have o0 := o0.stp hs rfl;have l5 := l5.stp hs rfl;have t5 := t5.stp hs rfl;have b2 := b2.stp hs rfl;have b6 := b6.stp hs rfl;obtain ⟨nB, eF, h⟩ := bsome h;refine EL_do .plain rfl (D_call (g := yG) (vs := [zG]) en37 (.cons rfl .nil) (wk37 aH eF) fun cH nI vJ hs hr => ?_);have hfr := hfr.ext hs;have o0 := o0.ext hs;have l5 := l5.ext hs;have t5 := t5.ext hs;have b2 := b2.ext hs;have b6 := b6.ext hs;subst hr;refine EL_p (.bool (!nB)) (P_not rfl) rfl ?_;refine EL_at (.bool (!nB)) rfl rfl ?_;refine EL_nil ?_;obtain rfl := sinj h;exact hQ _ _ ⟨cH, hfr, rfl, b2, o0, l5, t5, rfl, b6, rfl⟩
    ·clear hx
     obtain ⟨zB, hfr, l8, n8, u2_0_153, u2_1_153, u2_2_153, v8, g8, mB⟩ := hR;rcases csome h with ⟨cC, h⟩ | ⟨cC, h⟩
     ·refine E_cond_true (Eq.trans (show ev _ _ = .bool (i6) from mB) (congrArg Value.bool cC)) ?_
      refine E_seq (E_region (EL_do .plain rfl (D_loadO (g := zB) Tryd.isAgg97 Tryd.sizeOf97 v8 g8 fun gH jH => ?_)));refine EL_do .plain rfl (D_storeOc (g := zB) (v := gH) Tryd.sizeOf97 l8 n8 rfl jH fun xJ zJ hs b156 cb => ?_);clear cb;have hfr := hfr.stp hs;refine EL_at (.int .i64 (2)) rfl rfl ?_;refine EL_nil (thn_n (E_ret (blk_r ?_)));refine thn_r ?_;obtain rfl := sinj h;obtain ⟨ad157, cv157, hp157, rF, cr157⟩ := ob_read Tryd.isAgg97 Tryd.sizeOf97 b156;exact endm_ct rfl rfl ((show _ = p2 from l8).trans hp157) rF (show _ = .int .i64 (2) from rfl) ⟨_, hfr, _, _, rfl, cr157, rfl⟩
     ·refine E_cond_false (Eq.trans (show ev _ _ = .bool (i6) from mB) (congrArg Value.bool cC)) ?_
      refine E_seq (E_region (EL_do .plain rfl (D_loadO (g := zB) Tryd.isAgg97 Tryd.sizeOf97 v8 g8 fun kH lH => ?_)));obtain ⟨lB, sF, h⟩ := bsome h;refine EL_do .plain rfl (D_call (g := zB) (vs := [kH]) en56 (.cons rfl .nil) (wk56 lH sF) fun yD pI aK hs hr => ?_);have hfr := hfr.ext hs;have u2_0_153 := u2_0_153.ext hs;have u2_1_153 := u2_1_153.ext hs;have u2_2_153 := u2_2_153.ext hs;have n8 := n8.ext hs;have g8 := g8.ext hs;have mH := hr;refine EL_p (.int .i64 ((lB).length : Int)) (P_len Tryd.underlying118 rfl mH) rfl ?_;refine EL_in (.bool ((decide (((lB).length : Int) > (12 : Int))))) rfl rfl rfl rfl ?_;refine EL_at (.bool ((decide (((lB).length : Int) > (12 : Int))))) rfl rfl ?_;refine EL_nil (thn_n ?_);rcases csome h with ⟨uC, h⟩ | ⟨uC, h⟩
      ·refine E_ct uC rfl ?_
       refine E_seq (E_region (EL_do .plain rfl (D_loadO (g := yD) Tryd.isAgg97 Tryd.sizeOf97 v8 g8 fun nH oH => ?_)));refine EL_do .plain rfl (D_storeOc (g := yD) (v := nH) Tryd.sizeOf97 l8 n8 rfl oH fun bK cK hs b163 cb => ?_);clear cb;have hfr := hfr.stp hs;refine EL_at (.int .i64 (8)) rfl rfl ?_;refine EL_nil (thn_n (E_ret (blk_r ?_)));refine thn_r ?_;obtain rfl := sinj h;obtain ⟨ad164, cv164, hp164, tF, cr164⟩ := ob_read Tryd.isAgg97 Tryd.sizeOf97 b163;exact endm_ct rfl rfl ((show _ = p2 from l8).trans hp164) tF (show _ = .int .i64 (8) from rfl) ⟨_, hfr, _, _, rfl, cr164, rfl⟩
      ·refine E_cf uC rfl ?_
       exact E_skip (blk_n (thn_n (xF ((⟨⟨[], [], [], 0⟩⟩ : PaySheet)) _ _ ⟨yD, hfr, l8, n8, u2_0_153, u2_1_153, u2_2_153, v8, g8⟩ h)))
 ·rintro iE qI dK ⟨oE, hfr, vC, rE, u2_0_165, u2_1_165, u2_2_165, uE, vE⟩ h
  refine E_seq (E_region (EL_do .plain rfl (D_loadO (g := oE) Tryd.isAgg97 Tryd.sizeOf97 uE vE fun pH qH => ?_)));refine EL_do .plain rfl (D_storeOc (g := oE) (v := pH) Tryd.sizeOf97 vC rE rfl qH fun lK mK hs b167 cb => ?_);clear cb;have hfr := hfr.stp hs;refine EL_at (.int .i64 (0)) rfl rfl ?_;refine EL_nil (thn_n (E_ret ?_));obtain rfl := sinj h;obtain ⟨ad168, cv168, hp168, uF, cr168⟩ := ob_read Tryd.isAgg97 Tryd.sizeOf97 b167;exact endm_ct rfl rfl ((show _ = p2 from vC).trans hp168) uF (show _ = .int .i64 (0) from rfl) ⟨_, hfr, _, _, rfl, cr168, rfl⟩
def f9 (x0 : Int) (x1 : Int) (x2 : List ShadeEntry) : Option (Span × Int × Int) :=
 (f21 x0 x1 x2).bind fun y3 =>
 jn (σ := Span) (fun i6 =>
  (f22 (y3.1)).bind fun o0 =>
  jn (σ := Span) (fun vB =>
   (idx (o0.1) ((x2).length : Int)).bind fun lD =>
   some (lD, (0 : Int), (0 : Int))
   ) fun nD =>
  bif (decide (o0.2 ≥ (0 : Int))) then
   some (i6, o0.2, (90 : Int))
  else
   nD (i6)
  ) fun oD =>
 bif (y3.2 != (0 : Int)) then
  some ((⟨0, 0⟩ : Span), (0 : Int), y3.2)
 else
  oD ((⟨0, 0⟩ : Span))
theorem en9 : Enters Tryd.prog 9 := enters_of Tryd.func9 (by kernel_rfl) rfl
theorem wk9 {gI : Gh} {wI : World} {x0 : Int} {x1 : Int} {x2 : List ShadeEntry} {up2 : Value} (rp2 : RV gI.m wI x2 up2) {r : Span × Int × Int} (h : f9 x0 x1 x2 = some r) : Fn Tryd.prog 9 #[.int .i64 (x0), .int .i64 (x1), up2] gI wI (fun m w v => ∃ y0 y1 y2, v = .tuple #[y0, y1, y2] ∧ RV m w (r.1) y0 ∧ y1 = .int .i64 (r.2.1) ∧ y2 = .int .i64 (r.2.2)) := by
 unfold f9 at h;refine fn_of_E Tryd.func9 rfl (Nat.le_of_ble_eq_true rfl) fun g0 hm hfr => ?_;have rp2 : RV g0.m wI x2 up2 := hm ▸ rp2;show E _ 37 none _ _ _ _ _;refine E_seq (E_region (EL_do .plain rfl (D_allocOc (g := g0) 2006 (⟨0, 0⟩ : Span) Tryd.zeroValue28 (fun m w => ⟨_, (rep_two rep_int rep_int), rfl⟩) fun g1 w1 p1 hs b1 cb => ?_)));have hfr := hfr.stp hs;have rp2 := rp2.stp hs;clear cb;refine EL_at (.int .i64 (0)) rfl rfl ?_;refine EL_at (.int .i64 (0)) rfl rfl ?_;refine EL_nil (thn_n (E_seq (E_region (EL_mw (.int .i64 (x0)) rfl rfl ?_))));refine EL_mw (.int .i64 (x1)) rfl rfl ?_;refine EL_mw up2 rfl rfl ?_;obtain ⟨y3, hy3, h⟩ := bsome h;refine EL_do .plain rfl (D_call (g := g1) (vs := [.int .i64 (x0), .int .i64 (x1), up2]) en21 (.cons rfl (.cons rfl (.cons rfl .nil))) (wk21 rp2 hy3) fun g2 w2_ v2 hs hr => ?_);have hfr := hfr.ext hs;have rp2 := rp2.ext hs;have b1 := b1.ext hs;obtain ⟨v8, sF, rfl, l9, rfl⟩ := hr;refine EL_mw (.tuple #[v8, .int .i64 (y3.2)]) rfl rfl ?_;refine EL_p v8 (P_extract rfl rfl) rfl ?_;refine EL_p (.int .i64 (y3.2)) (P_extract rfl rfl) rfl ?_;refine EL_do .plain rfl (D_allocOc (g := g2) 2009 (⟨0, 0, []⟩ : ShadeBook) Tryd.zeroValue76 (fun m w => ⟨_, (rep_two rep_int (rep_two rep_int rep_nil)), rfl⟩) fun g4 w4 p4 hs b4 cb => ?_);have hfr := hfr.stp hs;have rp2 := rp2.stp hs;have b1 := b1.stp hs rfl;have l9 := l9.stp hs;have tF : OSF 2009 60902 2 g4 w4 45 76 ([] : List ShadeEntry) p4 := cb.osf (by rfl);clear cb;refine EL_do .plain rfl (D_storeOc (g := g4) (v := v8) Tryd.sizeOf76 rfl b4 rfl l9 fun g5 w5 hs b5 cb => ?_);clear cb;have hfr := hfr.stp hs;have rp2 := rp2.stp hs;have b1 := b1.stp hs rfl;refine EL_at (.int .i64 (y3.2)) rfl rfl ?_;refine EL_nil (thn_n (E_joinC h (fun (s : Span) e w => ∃ (g : Gh) , Fr gI wI g w ∧ e 2 = up2 ∧ RV g.m w (x2 : List ShadeEntry) up2 ∧ e 6 = p1 ∧ OB 2006 g w 28 (s : Span) p1 ∧ e 9 = p4 ∧ OB 2009 g w 76 (y3.1 : ShadeBook) p4) (fun X10 oD aE h => ?_) ?_))
 ·refine E_seq (E_region (EL_mw (.int .i64 (y3.2)) rfl rfl ?_))
  refine EL_in (.bool ((y3.2 != (0 : Int)))) rfl rfl rfl rfl ?_;refine EL_nil (thn_n ?_);rcases csome h with ⟨n9, h⟩ | ⟨n9, h⟩
  ·refine E_ct n9 rfl ?_
   refine E_seq (E_region (EL_do .plain rfl (D_loadO (g := g5) Tryd.isAgg28 Tryd.sizeOf28 rfl b1 fun rE uE => ?_)));refine EL_mw (.int .i64 (y3.2)) rfl rfl ?_;refine EL_do .plain rfl (D_storeOc (g := g5) (v := rE) Tryd.sizeOf28 rfl b1 rfl uE fun yF aG hs b13 cb => ?_);clear cb;have hfr := hfr.stp hs;refine EL_at (.int .i64 (0)) rfl rfl ?_;refine EL_at (.int .i64 (y3.2)) rfl rfl ?_;refine EL_nil (thn_n (E_ret (thn_r ?_)));obtain rfl := sinj h;obtain ⟨ad14, cv14, hp14, bE, cr14⟩ := ob_read Tryd.isAgg28 Tryd.sizeOf28 b13;exact endm_ctt rfl rfl ((show _ = p1 from rfl).trans hp14) bE (show _ = .int .i64 (0) from rfl) (show _ = .int .i64 (y3.2) from rfl) ⟨_, hfr, _, _, _, rfl, cr14, rfl, rfl⟩
  ·refine E_cf n9 rfl ?_
   exact E_skip (thn_n (aE ((⟨0, 0⟩ : Span)) _ _ ⟨g5, hfr, rfl, rp2, rfl, b1, rfl, b5⟩ h))
 ·rintro i6 uF w15 ⟨yD, hfr, yB, l8, g8, t5, zB, cC⟩ h
  refine E_seq (E_region (EL_do .plain rfl (D_loadO (g := yD) Tryd.isAgg76 Tryd.sizeOf76 zB cC fun vE xE => ?_)));obtain ⟨o0, iE, h⟩ := bsome h;refine EL_do .plain rfl (D_call (g := yD) (vs := [vE]) en22 (.cons rfl .nil) (wk22 xE iE) fun mB vF bG hs hr => ?_);have hfr := hfr.ext hs;have l8 := l8.ext hs;have t5 := t5.ext hs;obtain ⟨l5, rF, rfl, uC, rfl⟩ := hr;refine EL_mw (.tuple #[l5, .int .i64 (o0.2)]) rfl rfl ?_;refine EL_p l5 (P_extract rfl rfl) rfl ?_;refine EL_p (.int .i64 (o0.2)) (P_extract rfl rfl) rfl ?_;refine EL_at l5 rfl rfl ?_;refine EL_at (.int .i64 (o0.2)) rfl rfl ?_;refine EL_nil (thn_n (E_joinC h (fun (s : Span) e w => ∃ (g : Gh) , Fr gI wI g w ∧ e 2 = up2 ∧ RV g.m w (x2 : List ShadeEntry) up2 ∧ e 6 = p1 ∧ OB 2006 g w 28 (s : Span) p1 ∧ e 10 = l5 ∧ RV g.m w (o0.1 : List Span) l5) (fun X23 nD lE h => ?_) ?_))
  ·refine E_seq (E_region (EL_mw (.int .i64 (o0.2)) rfl rfl ?_))
   refine EL_in (.bool ((decide (o0.2 ≥ (0 : Int))))) rfl rfl rfl rfl ?_;refine EL_nil (thn_n ?_);rcases csome h with ⟨aB, h⟩ | ⟨aB, h⟩
   ·refine E_ct aB rfl ?_
    refine E_seq (E_region (EL_do .plain rfl (D_loadO (g := mB) Tryd.isAgg28 Tryd.sizeOf28 g8 t5 fun yE zE => ?_)));refine EL_mw (.int .i64 (o0.2)) rfl rfl ?_;refine EL_do .plain rfl (D_storeOc (g := mB) (v := yE) Tryd.sizeOf28 g8 t5 rfl zE fun cG eG hs b26 cb => ?_);clear cb;have hfr := hfr.stp hs;refine EL_at (.int .i64 (o0.2)) rfl rfl ?_;refine EL_at (.int .i64 (90)) rfl rfl ?_;refine EL_nil (thn_n (E_ret (thn_r ?_)));obtain rfl := sinj h;obtain ⟨ad27, cv27, hp27, mE, cr27⟩ := ob_read Tryd.isAgg28 Tryd.sizeOf28 b26;exact endm_ctt rfl rfl ((show _ = p1 from g8).trans hp27) mE (show _ = .int .i64 (o0.2) from rfl) (show _ = .int .i64 (90) from rfl) ⟨_, hfr, _, _, _, rfl, cr27, rfl, rfl⟩
   ·refine E_cf aB rfl ?_
    exact E_skip (thn_n (lE (i6) _ _ ⟨mB, hfr, yB, l8, g8, t5, rfl, uC⟩ h))
  ·rintro vB xF gG ⟨zD, hfr, vC, bD, lB, cD, nB, n8⟩ h
   refine E_seq (E_region (EL_mv nB rfl ?_));refine EL_mv vC rfl ?_;refine EL_p (.int .i64 ((x2).length : Int)) (P_len Tryd.underlying39 rfl bD) rfl ?_;obtain ⟨lD, oB, h⟩ := bsome h;refine EL_p (ePtr l5 ((x2).length : Int) 2) (P_indexAddr (α := Span) Tryd.underlying79 Tryd.sizeOf28 rfl n8 rfl oB) rfl ?_;have cF := PT_idx n8 oB;refine EL_do .plain rfl (D_load (g := zD) Tryd.isAgg28 Tryd.sizeOf28 rfl cF fun dF eF => ?_);refine EL_do .plain rfl (D_storeOc (g := zD) (v := dF) Tryd.sizeOf28 lB cD rfl eF fun iG jG hs b32 cb => ?_);clear cb;have hfr := hfr.stp hs;refine EL_at (.int .i64 (0)) rfl rfl ?_;refine EL_at (.int .i64 (0)) rfl rfl ?_;refine EL_nil (thn_n (E_ret ?_));obtain rfl := sinj h;obtain ⟨ad33, cv33, hp33, oE, cr33⟩ := ob_read Tryd.isAgg28 Tryd.sizeOf28 b32;exact endm_ctt rfl rfl ((show _ = p1 from lB).trans hp33) oE (show _ = .int .i64 (0) from rfl) (show _ = .int .i64 (0) from rfl) ⟨_, hfr, _, _, _, rfl, cr33, rfl, rfl⟩
def f18 (x0 : List Int) (x1 : Int → Int → Option Int) : Option ((List Int)) :=
 (f40 x0 (((x0).length : Int)) x1).bind fun y2 =>
 some (y2)
theorem en18 : Enters Tryd.prog 18 := enters_of Tryd.func18 (by kernel_rfl) rfl
theorem wk18 {iI : Nat} {gI : Gh} {wI : World} {x0 : List Int} {x1 : Int → Int → Option Int} {up0 : Value} (mp0 : OM iI gI wI 3 x0 up0) {up1 : Value} (rp1 : FnV2 Tryd.prog x1 up1 gI wI) {r : (List Int)} (h : f18 x0 x1 = some r) : FnM Tryd.prog 18 #[up0, up1] iI gI wI (fun g w v => v = .tuple #[] ∧ OM iI g w 3 r up0) := by
 unfold f18 at h;refine fnM_of_E Tryd.func18 rfl (Nat.le_of_ble_eq_true rfl) fun g0 hm hfr => ?_;have o0 := mp0;replace mp0 := mp0.enter;rw [← hm] at mp0
 replace hm : g0.m = gI.m := by rw [hm]
 obtain ⟨ff1, fa1, fc1, rfl, fen1, fcl1⟩ := rp1;show E _ 9 none _ _ _ _ _;refine E_region (EL_mw up0 rfl rfl ?_);refine EL_mw up0 rfl rfl ?_;refine EL_p (.int .i64 ((x0).length : Int)) (P_lenM Tryd.underlying34 rfl mp0) rfl ?_;refine EL_mw ((.func (.func ff1) fa1 fc1)) rfl rfl ?_;obtain ⟨y2, hy2, h⟩ := bsome h;refine EL_do .plain rfl (D_callM (g := g0) (i := 1) (vs := [up0, .int .i64 ((x0).length : Int), (.func (.func ff1) fa1 fc1)]) en40 (.cons rfl (.cons rfl (.cons rfl .nil))) (wk40 mp0 (FnV2.ch ⟨_, _, _, rfl, fen1, fcl1⟩ hfr.ch) hy2) fun g1 w1_ v1 hs hr => ?_);obtain ⟨hrv, b1⟩ := hr;have hfr := hfr.stp hs;subst hrv;refine EL_nil ?_;obtain rfl := sinj h;exact end0n rfl rfl ⟨_, hfr, rfl, o0.back b1⟩
def f23 (x0 : List ShadeLot) : Option (Int) :=
 jn (σ := Unit) (fun _ =>
  some ((0 : Int))
  ) fun k5 =>
 bif (decide (((x0).length : Int) > (12 : Int))) then
  some ((5 : Int))
 else
  (f45 x0 ((fun a0 => f46 a0))).bind fun y8 =>
  bif y8 then
   some ((2 : Int))
  else
   k5 ()
theorem en23 : Enters Tryd.prog 23 := enters_of Tryd.func23 (by kernel_rfl) rfl
theorem wk23 {gI : Gh} {wI : World} {x0 : List ShadeLot} {up0 : Value} (rp0 : RV gI.m wI x0 up0) {r : Int} (h : f23 x0 = some r) : Fn Tryd.prog 23 #[up0] gI wI (fun _ _ v => v = .int .i64 (r)) := by
 unfold f23 at h;refine fn_of_E Tryd.func23 rfl (Nat.le_of_ble_eq_true rfl) fun g0 hm hfr => ?_;have rp0 : RV g0.m wI x0 up0 := hm ▸ rp0;show E _ 10 none _ _ _ _ _;refine E_seq (E_region (EL_at (.int .i64 (0)) rfl rfl ?_));refine EL_nil (thn_n (E_joinC h (fun (s : Unit) e w => ∃ (g : Gh) , Fr gI wI g w) (fun X5 k5 hk5 h => ?_) ?_))
 ·refine E_block ?_
  refine E_seq (E_region (EL_mw up0 rfl rfl ?_));refine EL_p (.int .i64 ((x0).length : Int)) (P_len Tryd.underlying25 rfl rp0) rfl ?_;refine EL_in (.bool ((decide (((x0).length : Int) > (12 : Int))))) rfl rfl rfl rfl ?_;refine EL_at (.bool ((decide (((x0).length : Int) > (12 : Int))))) rfl rfl ?_;refine EL_nil (thn_n ?_);rcases csome h with ⟨hc6, h⟩ | ⟨hc6, h⟩
  ·refine E_ct hc6 rfl ?_
   refine E_seq (E_region (EL_at (.int .i64 (5)) rfl rfl ?_));refine EL_nil (thn_n (E_ret (blk_r ?_)));refine thn_r ?_;obtain rfl := sinj h;exact end1 rfl rfl (show _ = .int .i64 (5) from rfl) ⟨_, hfr, rfl⟩
  ·refine E_cf hc6 rfl ?_
   refine E_seq (E_region (EL_mw up0 rfl rfl ?_));obtain ⟨y8, o0, h⟩ := bsome h;refine EL_do .plain rfl (D_call (g := g0) (vs := [up0, .func (.func 46) #[] #[]]) en45 (.cons rfl (.cons rfl .nil)) (wk45 rp0 ⟨46, #[], #[], rfl, en46, fun g' w' hch a0 b0 r hu0 hr => by exact Fn.mono (wk46 hu0  hr) fun _ _ _ h => RV_bool.2 h⟩ o0) fun g7 w7_ v7 hs hr => ?_);have hfr := hfr.ext hs;subst hr;refine EL_at (.bool (y8)) rfl rfl ?_;refine EL_nil (thn_n ?_);rcases csome h with ⟨hc9, h⟩ | ⟨hc9, h⟩
   ·refine E_ct hc9 rfl ?_
    refine E_seq (E_region (EL_at (.int .i64 (2)) rfl rfl ?_));refine EL_nil (thn_n (E_ret (blk_r ?_)));refine thn_r ?_;obtain rfl := sinj h;exact end1 rfl rfl (show _ = .int .i64 (2) from rfl) ⟨_, hfr, rfl⟩
   ·refine E_cf hc9 rfl ?_
    exact E_skip (blk_n (thn_n (hk5 () _ _ ⟨g7, hfr⟩ h)))
 ·rintro _ l5 t5 ⟨i6, hfr⟩ h
  refine E_seq (E_region (EL_at (.int .i64 (0)) rfl rfl ?_));refine EL_nil (thn_n (E_ret ?_));obtain rfl := sinj h;exact end1 rfl rfl (show _ = .int .i64 (0) from rfl) ⟨_, hfr, rfl⟩
def f30 (x0 : PayList) (x1 : PayPiece) : Option (PayPayList × Int) :=
 jn (σ := PayPayList) (fun vB =>
  (f53 ((⟨x0⟩ : PayPayList)) x1).bind fun l5 =>
  some ((⟨x0⟩ : PayPayList), l5)
  ) fun cC =>
 (f52 x0).bind fun o0 =>
 bif (o0 != (0 : Int)) then
  some ((⟨x0⟩ : PayPayList), o0)
 else
  cC ((⟨⟨[], [], 0, 0⟩⟩ : PayPayList))
theorem en30 : Enters Tryd.prog 30 := enters_of Tryd.func30 (by kernel_rfl) rfl
theorem wk30 {gI : Gh} {wI : World} {x0 : PayList} {x1 : PayPiece} {up0 : Value} (rp0 : RV gI.m wI x0 up0) {up1 : Value} (rp1 : RV gI.m wI x1 up1) {r : PayPayList × Int} (h : f30 x0 x1 = some r) : Fn Tryd.prog 30 #[up0, up1] gI wI (fun m w v => ∃ y0 y1, v = .tuple #[y0, y1] ∧ RV m w (r.1) y0 ∧ y1 = .int .i64 (r.2)) := by
 unfold f30 at h;refine fn_of_E Tryd.func30 rfl (Nat.le_of_ble_eq_true rfl) fun g0 hm hfr => ?_;have rp0 : RV g0.m wI x0 up0 := hm ▸ rp0;have rp1 : RV g0.m wI x1 up1 := hm ▸ rp1;show E _ 20 none _ _ _ _ _;refine E_seq (E_region (EL_do .plain rfl (D_box (g := g0) rfl rp0 fun g1 w1 p1 hs q1 => ?_)));have hfr := hfr.ext hs;have rp1 := rp1.ext hs;refine EL_do .plain rfl (D_box (g := g1) rfl rp1 fun g2 w2 p2 hs q2 => ?_);have hfr := hfr.ext hs;have q1 := q1.ext hs;refine EL_do .plain rfl (D_allocOc (g := g2) 2004 (⟨⟨[], [], 0, 0⟩⟩ : PayPayList) Tryd.zeroValue91 (fun m w => ⟨_, (rep_two rep_nil (rep_two rep_nil (rep_two rep_int rep_int))), rfl⟩) fun g3 w3 p3 hs b3 cb => ?_);have hfr := hfr.stp hs;have q1 := q1.stp hs;have q2 := q2.stp hs;have i6 : OSF 2004 60400 0 g3 w3 55 91 ([] : List PayRate) p3 := cb.osf (by rfl);have g8 : OSF 2004 60401 1 g3 w3 3 91 ([] : List Int) p3 := cb.osf (by rfl);clear cb;refine EL_at (.int .i64 (0)) rfl rfl ?_;refine EL_nil (thn_n (E_joinC h (fun (s : PayPayList) e w => ∃ (g : Gh) , Fr gI wI g w ∧ e 2 = p1 ∧ PT g.m w (x0 : PayList) p1 ∧ e 3 = p2 ∧ PT g.m w (x1 : PayPiece) p2 ∧ e 4 = p3 ∧ OB 2004 g w 91 (s : PayPayList) p3 ∧ OSF 2004 60400 0 g w 55 91 (((s).PayList).Rates) p3 ∧ OSF 2004 60401 1 g w 3 91 (((s).PayList).Extras) p3) (fun X12 cC aE h => ?_) ?_))
 ·refine E_seq (E_region (EL_do .plain rfl (D_load (g := g3) Tryd.isAgg58 Tryd.sizeOf58 rfl q1 fun yE zE => ?_)))
  obtain ⟨o0, bE, h⟩ := bsome h;refine EL_do .plain rfl (D_call (g := g3) (vs := [yE]) en52 (.cons rfl .nil) (wk52 zE bE) fun n8 eF sF hs hr => ?_);have hfr := hfr.ext hs;have q1 := q1.ext hs;have q2 := q2.ext hs;have i6 := i6.ext hs;have g8 := g8.ext hs;have b3 := b3.ext hs;subst hr;refine EL_at (.int .i64 (o0)) rfl rfl ?_;refine EL_nil (thn_n (E_seq (E_region (EL_mw (.int .i64 (o0)) rfl rfl ?_))));refine EL_in (.bool ((o0 != (0 : Int)))) rfl rfl rfl rfl ?_;refine EL_nil (thn_n ?_);rcases csome h with ⟨l8, h⟩ | ⟨l8, h⟩
  ·refine E_ct l8 rfl ?_
   refine E_seq (E_region (EL_do .plain rfl (D_load (g := n8) Tryd.isAgg58 Tryd.sizeOf58 rfl q1 fun nB uC => ?_)));have vC : RV n8.m _ (⟨x0⟩ : PayPayList) (.agg (setCh [[.slice none 0 0, .slice none 0 0, .int .i64 0, .int .i64 0]] [(0, nB)]).flatten.toArray) := RV_build rfl (rep_last (RV.cells uC));generalize iE : (Value.agg (setCh [[.slice none 0 0, .slice none 0 0, .int .i64 0, .int .i64 0]] [(0, nB)]).flatten.toArray) = bD at vC;refine EL_p bD (iE ▸ P_build (vs := [(0, nB)]) [[.slice none 0 0, .slice none 0 0, .int .i64 0, .int .i64 0]] lay_91 rfl rfl (.cons rfl .nil) ⟨⟨_, rfl, cells_size uC⟩, trivial⟩) rfl ?_;refine EL_mw (.int .i64 (o0)) rfl rfl ?_;refine EL_do .plain rfl (D_storeOc (g := n8) (v := bD) Tryd.sizeOf91 rfl b3 rfl vC fun tF uF hs b19 cb => ?_);clear cb;have hfr := hfr.stp hs;refine EL_at (.int .i64 (o0)) rfl rfl ?_;refine EL_nil (thn_n (E_ret (thn_r ?_)));obtain rfl := sinj h;obtain ⟨ad20, cv20, hp20, hl20, cr20⟩ := ob_read Tryd.isAgg91 Tryd.sizeOf91 b19;exact endm_ct rfl rfl ((show _ = p3 from rfl).trans hp20) hl20 (show _ = .int .i64 (o0) from rfl) ⟨_, hfr, _, _, rfl, cr20, rfl⟩
  ·refine E_cf l8 rfl ?_
   exact E_skip (thn_n (aE ((⟨⟨[], [], 0, 0⟩⟩ : PayPayList)) _ _ ⟨n8, hfr, rfl, q1, rfl, q2, rfl, b3, i6, g8⟩ h))
 ·rintro vB rF vF ⟨oB, hfr, v8, l9, yB, zB, n9, t5, u4_0_21, u4_1_21⟩ h
  refine E_seq (L_load (x := .tmp 2) Tryd.isAgg58 Tryd.sizeOf58 l9 fun aB cD lE => ?_);have lB : RV oB.m _ (⟨x0⟩ : PayPayList) (.agg (setCh [[.slice none 0 0, .slice none 0 0, .int .i64 0, .int .i64 0]] [(0, aB)]).flatten.toArray) := RV_build rfl (rep_last (RV.cells cD));generalize mE : (Value.agg (setCh [[.slice none 0 0, .slice none 0 0, .int .i64 0, .int .i64 0]] [(0, aB)]).flatten.toArray) = lD at lB;refine L_load (x := .tmp 2) Tryd.isAgg58 Tryd.sizeOf58 l9 fun mB nD oE => ?_;have oD : RV oB.m _ (⟨x0⟩ : PayPayList) (.agg (setCh [[.slice none 0 0, .slice none 0 0, .int .i64 0, .int .i64 0]] [(0, mB)]).flatten.toArray) := RV_build rfl (rep_last (RV.cells nD));generalize rE : (Value.agg (setCh [[.slice none 0 0, .slice none 0 0, .int .i64 0, .int .i64 0]] [(0, mB)]).flatten.toArray) = yD at oD;refine L_load (x := .tmp 3) Tryd.isAgg63 Tryd.sizeOf63 zB fun zD cF uE => ?_;obtain ⟨l5, vE, h⟩ := bsome h;refine E_drawL (g := oB) (n := 6) [(5, (fun v g w => v = .int .i64 (l5)))] [0, 1, 2, 3, 4, 5] rfl mixed (by kernel_rfl) (⟨fun _ => up_eq _, trivial⟩) ?_;refine L_ld (c := aB) rfl rfl .plain (fun _ _ h => h.ch) lE v8 ?_;refine L_p lD rfl rfl (mE ▸ P_build (vs := [(0, aB)]) [[.slice none 0 0, .slice none 0 0, .int .i64 0, .int .i64 0]] lay_91 rfl rfl (.cons rfl .nil) ⟨⟨_, rfl, cells_size cD⟩, trivial⟩) ?_;refine L_ld (c := mB) rfl rfl .plain (fun _ _ h => h.ch) oE v8 ?_;refine L_p yD rfl rfl (rE ▸ P_build (vs := [(0, mB)]) [[.slice none 0 0, .slice none 0 0, .int .i64 0, .int .i64 0]] lay_91 rfl rfl (.cons rfl .nil) ⟨⟨_, rfl, cells_size nD⟩, trivial⟩) ?_;refine L_ld (c := zD) rfl rfl .plain (fun _ _ h => h.ch) uE yB ?_;refine L_do (φ := fun v g w => v = .int .i64 (l5)) rfl rfl .plain (fun g w hd => D_call (g := g) (vs := [yD, zD]) en53 (.cons rfl (.cons rfl .nil)) (wk53 (oD.ext hd.1) (cF.ext hd.1) vE) fun g' w' v hs hr => ⟨g', hs, hr⟩) (fun xF hv => ?_);obtain ⟨_, _, _, rfl⟩ := hv;refine L_nl fun dF w29 hs => ?_;have hfr := hfr.ext hs;have t5 := t5.ext hs;have lB := lB.ext hs;clear hs;refine EL_do .plain rfl (D_storeOc (g := dF) (v := lD) Tryd.sizeOf91 n9 t5 rfl lB fun yF aG hs b39 cb => ?_);clear cb;have hfr := hfr.stp hs;refine EL_at (.int .i64 (l5)) rfl rfl ?_;refine EL_nil (thn_n (E_ret ?_));obtain rfl := sinj h;obtain ⟨ad40, cv40, hp40, xE, cr40⟩ := ob_read Tryd.isAgg91 Tryd.sizeOf91 b39;exact endm_ct rfl rfl ((show _ = p3 from n9).trans hp40) xE (show _ = .int .i64 (l5) from rfl) ⟨_, hfr, _, _, rfl, cr40, rfl⟩
def f34 (x0 : PayTable) : Option (PaySheet × Int) :=
 (f55 x0).bind fun y5 =>
 Option.bind (α := Int) (
  Option.bind (α := Bool) (
   bif (y5.2 == (0 : Int)) then
    (f56 (y5.1)).bind fun n8 =>
    some ((decide (((n8).length : Int) > (0 : Int))))
   else
    some (false)
   ) fun g8 =>
  bif g8 then
   some ((7 : Int))
  else
   some (y5.2)
  ) fun l8 =>
 some (y5.1, l8)
theorem en34 : Enters Tryd.prog 34 := enters_of Tryd.func34 (by kernel_rfl) rfl
theorem wk34 {gI : Gh} {wI : World} {x0 : PayTable} {up0 : Value} (rp0 : RV gI.m wI x0 up0) {r : PaySheet × Int} (h : f34 x0 = some r) : Fn Tryd.prog 34 #[up0] gI wI (fun m w v => ∃ y0 y1, v = .tuple #[y0, y1] ∧ RV m w (r.1) y0 ∧ y1 = .int .i64 (r.2)) := by
 unfold f34 at h;refine fn_of_E Tryd.func34 rfl (Nat.le_of_ble_eq_true rfl) fun g0 hm hfr => ?_;have rp0 : RV g0.m wI x0 up0 := hm ▸ rp0;show E _ 21 none _ _ _ _ _;refine E_seq (E_region (EL_do .plain rfl (D_box (g := g0) rfl rp0 fun g1 w1 p1 hs q1 => ?_)));have hfr := hfr.ext hs;refine EL_do .plain rfl (D_allocOc (g := g1) 2002 (⟨⟨[], [], [], 0⟩⟩ : PaySheet) Tryd.zeroValue97 (fun m w => ⟨_, (rep_two rep_nil (rep_two rep_nil (rep_two rep_nil rep_int))), rfl⟩) fun g2 w2 p2 hs b2 cb => ?_);have hfr := hfr.stp hs;have q1 := q1.stp hs;have o0 : OSF 2002 60200 0 g2 w2 34 97 ([] : List (List Int)) p2 := cb.osf (by rfl);have l5 : OSF 2002 60201 1 g2 w2 3 97 ([] : List Int) p2 := cb.osf (by rfl);have t5 : OSF 2002 60202 2 g2 w2 3 97 ([] : List Int) p2 := cb.osf (by rfl);clear cb;refine EL_at (.int .i64 (0)) rfl rfl ?_;refine EL_nil (thn_n (E_seq (E_region (EL_do .plain rfl (D_load (g := g2) Tryd.isAgg71 Tryd.sizeOf71 rfl q1 fun v3 r3 => ?_)))));obtain ⟨y5, hy5, h⟩ := bsome h;refine EL_do .plain rfl (D_call (g := g2) (vs := [v3]) en55 (.cons rfl .nil) (wk55 r3 hy5) fun g4 w4_ v4 hs hr => ?_);have hfr := hfr.ext hs;have o0 := o0.ext hs;have l5 := l5.ext hs;have t5 := t5.ext hs;have b2 := b2.ext hs;obtain ⟨l9, lE, rfl, n9, rfl⟩ := hr;refine EL_mw (.tuple #[l9, .int .i64 (y5.2)]) rfl rfl ?_;refine EL_p l9 (P_extract rfl rfl) rfl ?_;refine EL_p (.int .i64 (y5.2)) (P_extract rfl rfl) rfl ?_;refine EL_do .plain rfl (D_allocOc (g := g4) 2004 (⟨⟨[], [], [], 0⟩⟩ : PaySheet) Tryd.zeroValue97 (fun m w => ⟨_, (rep_two rep_nil (rep_two rep_nil (rep_two rep_nil rep_int))), rfl⟩) fun g6 w6 p6 hs b6 cb => ?_);have hfr := hfr.stp hs;have o0 := o0.stp hs rfl;have l5 := l5.stp hs rfl;have t5 := t5.stp hs rfl;have b2 := b2.stp hs rfl;have n9 := n9.stp hs;have mE : OSF 2004 60400 0 g6 w6 34 97 ([] : List (List Int)) p6 := cb.osf (by rfl);have oE : OSF 2004 60401 1 g6 w6 3 97 ([] : List Int) p6 := cb.osf (by rfl);have rE : OSF 2004 60402 2 g6 w6 3 97 ([] : List Int) p6 := cb.osf (by rfl);clear cb;refine EL_do .plain rfl (D_storeOc (g := g6) (v := l9) Tryd.sizeOf97 rfl b6 rfl n9 fun g7 w7 hs b7 cb => ?_);clear cb;have hfr := hfr.stp hs;have o0 := o0.stp hs rfl;have l5 := l5.stp hs rfl;have t5 := t5.stp hs rfl;have b2 := b2.stp hs rfl;refine EL_at (.int .i64 (y5.2)) rfl rfl ?_;refine EL_nil (thn_n ?_);obtain ⟨l8, hx, h⟩ := bsome h;refine E_join (fun e w => ∃ (g : Gh) , Fr gI wI g w ∧ e 2 = p2 ∧ OB 2002 g w 97 ((⟨⟨[], [], [], 0⟩⟩ : PaySheet) : PaySheet) p2 ∧ OSF 2002 60200 0 g w 34 97 ((((⟨⟨[], [], [], 0⟩⟩ : PaySheet)).PayTable).Rows) p2 ∧ OSF 2002 60201 1 g w 3 97 ((((⟨⟨[], [], [], 0⟩⟩ : PaySheet)).PayTable).Across) p2 ∧ OSF 2002 60202 2 g w 3 97 ((((⟨⟨[], [], [], 0⟩⟩ : PaySheet)).PayTable).Down) p2 ∧ e 4 = p6 ∧ OB 2004 g w 97 (y5.1 : PaySheet) p6 ∧ e 5 = .int .i64 (l8)) (fun Q' hQ => ?_) (fun uE yE hR => ?_)
 ·replace h := hx
  clear hx;obtain ⟨g8, hx, h⟩ := bsome h;refine E_join (fun e w => ∃ (g : Gh) , Fr gI wI g w ∧ e 2 = p2 ∧ OB 2002 g w 97 ((⟨⟨[], [], [], 0⟩⟩ : PaySheet) : PaySheet) p2 ∧ OSF 2002 60200 0 g w 34 97 ((((⟨⟨[], [], [], 0⟩⟩ : PaySheet)).PayTable).Rows) p2 ∧ OSF 2002 60201 1 g w 3 97 ((((⟨⟨[], [], [], 0⟩⟩ : PaySheet)).PayTable).Across) p2 ∧ OSF 2002 60202 2 g w 3 97 ((((⟨⟨[], [], [], 0⟩⟩ : PaySheet)).PayTable).Down) p2 ∧ e 4 = p6 ∧ OB 2004 g w 97 (y5.1 : PaySheet) p6 ∧ e 5 = .int .i64 (y5.2) ∧ e 18 = .bool (g8)) (fun Q' hQ => ?_) (fun vE zE hR => ?_)
  ·replace h := hx
   clear hx;refine E_region (EL_mw (.int .i64 (y5.2)) rfl rfl ?_);refine EL_in (.bool ((y5.2 == (0 : Int)))) rfl rfl rfl rfl ?_;refine EL_mw (.bool ((y5.2 == (0 : Int)))) rfl rfl ?_;rcases csome h with ⟨i6, h⟩ | ⟨i6, h⟩
   ·refine EL_do (.yes2 rfl rfl i6) rfl (D_loadO (g := g7) Tryd.isAgg97 Tryd.sizeOf97 rfl b7 fun oD yD => ?_)
    obtain ⟨n8, lD, h⟩ := bsome h;refine EL_do (.yes2 rfl rfl i6) rfl (D_call (g := g7) (vs := [oD]) en56 (.cons rfl .nil) (wk56 yD lD) fun zD xE cF hs hr => ?_);have hfr := hfr.ext hs;have o0 := o0.ext hs;have l5 := l5.ext hs;have t5 := t5.ext hs;have b2 := b2.ext hs;have b7 := b7.ext hs;have aE := hr;refine EL_y (.int .i64 ((n8).length : Int)) (P_len Tryd.underlying118 rfl aE) rfl rfl i6 rfl ?_;refine EL_y (.bool ((decide (((n8).length : Int) > (0 : Int))))) (P_int rfl rfl rfl) rfl rfl i6 rfl ?_;refine EL_p (.bool ((decide (((n8).length : Int) > (0 : Int))))) (P_pick (b := (y5.2 == (0 : Int))) rfl (pick_t i6 rfl)) rfl ?_;refine EL_nil ?_;obtain rfl := sinj h;exact hQ _ _ ⟨zD, hfr, rfl, b2, o0, l5, t5, rfl, b7, rfl, rfl⟩
   ·refine EL_s rfl rfl i6 rfl rfl ?_
    iterate 3 refine EL_s rfl rfl i6 rfl rfl ?_
    refine EL_p (.bool false) (P_pick (b := (y5.2 == (0 : Int))) rfl (pick_f i6 rfl)) rfl ?_;refine EL_nil ?_;obtain rfl := sinj h;exact hQ _ _ ⟨g7, hfr, rfl, b2, o0, l5, t5, rfl, b7, rfl, rfl⟩
  ·clear hx
   obtain ⟨bD, hfr, lB, mB, u2_0_26, u2_1_26, u2_2_26, nB, oB, yB, v8⟩ := hR;rcases csome h with ⟨aB, h⟩ | ⟨aB, h⟩
   ·refine E_cond_true (Eq.trans (show ev _ _ = .bool (g8) from v8) (congrArg Value.bool aB)) ?_
    refine E_region (EL_at (.int .i64 (7)) rfl rfl ?_);refine EL_nil ?_;obtain rfl := sinj h;exact hQ _ _ ⟨bD, hfr, lB, mB, u2_0_26, u2_1_26, u2_2_26, nB, oB, rfl⟩
   ·refine E_cond_false (Eq.trans (show ev _ _ = .bool (g8) from v8) (congrArg Value.bool aB)) ?_
    refine E_skip ?_;obtain rfl := sinj h;exact hQ _ _ ⟨bD, hfr, lB, mB, u2_0_26, u2_1_26, u2_2_26, nB, oB, yB⟩
 ·clear hx
  obtain ⟨cD, hfr, vB, zB, u2_0_28, u2_1_28, u2_2_28, cC, uC, vC⟩ := hR;refine E_seq (E_region (EL_do .plain rfl (D_loadO (g := cD) Tryd.isAgg97 Tryd.sizeOf97 cC uC fun bE iE => ?_)));refine EL_mv vC rfl ?_;refine EL_do .plain rfl (D_storeOc (g := cD) (v := bE) Tryd.sizeOf97 vB zB rfl iE fun dF eF hs b30 cb => ?_);clear cb;have hfr := hfr.stp hs;refine EL_at (.int .i64 (l8)) rfl rfl ?_;refine EL_nil (thn_n (E_ret ?_));obtain rfl := sinj h;obtain ⟨ad31, cv31, hp31, nD, cr31⟩ := ob_read Tryd.isAgg97 Tryd.sizeOf97 b30;exact endm_ct rfl rfl ((show _ = p2 from vB).trans hp31) nD (show _ = .int .i64 (l8) from rfl) ⟨_, hfr, _, _, rfl, cr31, rfl⟩
def f8 (x0 : Int) (x1 : List Int) : Option ((List Int) × Int) :=
 Option.bind (α := Int) (
  lp (σ := Int × Int) (fun yN (aE, i6) =>
   bif (decide (i6 < ((x1).length : Int))) then
    Option.bind (α := Int) (
     (idx x1 i6).bind fun yE =>
     some ((w64 (aE + (min64 (max64 yE (0 : Int)) (1000 : Int)))))
     ) fun zE =>
    yN (zE, (w64 (i6 + (1 : Int))))
   else
    some (aE)
   ) big ((0 : Int), (0 : Int))
  ) fun l8 =>
 jn (σ := (List Int)) (fun pI =>
  (mks 8 (0 : Int) (((x1).length : Int))).bind fun sH =>
  Option.bind (α := (List Int) × Int × (List Int)) (
   lp (σ := (List Int) × Int × (List Int) × Int) (fun qK (uF, uC, oD, o0) =>
    bif (decide (o0 < ((x1).length : Int))) then
     Option.bind (α := (List Int) × Int × (List Int)) (
      (idx x1 o0).bind fun vF =>
      (quo64 (w64 (x0 * vF)) l8).bind fun y158 =>
      (apnd 8 uF (([y158] : List Int))).bind fun y161 =>
      (idx oD o0).bind fun eO =>
      (idx y161 o0).bind fun zG =>
      some (y161, (w64 (uC - zG)), (List.set oD (Int.toNat o0) o0))
      ) fun (bE, iE, yD) =>
     qK (bE, iE, yD, (w64 (o0 + (1 : Int))))
    else
     some (uF, uC, oD)
    ) big (pI, x0, sH, (0 : Int))
   ) fun (xF, n8, rE) =>
  (f18 rE ((fun a0 a1 => f19 a0 a1 x0 x1 l8))).bind fun sK =>
  Option.bind (α := (List Int)) (
   (cut sK 0 n8).bind fun cC =>
   lp (σ := (List Int) × Int) (fun tK (vC, l5) =>
    bif (decide (l5 < ((cC).length : Int))) then
     Option.bind (α := (List Int)) (
      (idx cC l5).bind fun bD =>
      (idx vC bD).bind fun aH =>
      (idx vC bD).bind fun gO =>
      some ((List.set vC (Int.toNat bD) ((w64 (aH + (1 : Int))))))
      ) fun lE =>
     tK (lE, (w64 (l5 + (1 : Int))))
    else
     some (vC)
    ) big (xF, (0 : Int))
   ) fun yF =>
  some (yF, (0 : Int))
  ) fun zN =>
 (f17 ((0 : Int)) ((1000000000 : Int)) (([x0] : List Int))).bind fun qI =>
 bif (!qI) then
  some (([] : List Int), (3 : Int))
 else
  bif (decide (((x1).length : Int) > (10 : Int))) then
   some (([] : List Int), (5 : Int))
  else
   Option.bind (α := Bool) (
    (f17 ((0 : Int)) ((1000 : Int)) x1).bind fun tH =>
    bif (!tH) then
     some ((!tH))
    else
     some ((l8 == (0 : Int)))
    ) fun cD =>
   bif cD then
    some (([] : List Int), (2 : Int))
   else
    zN (([] : List Int))
theorem en8 : Enters Tryd.prog 8 := enters_of Tryd.func8 (by kernel_rfl) rfl
theorem wk8 {gI : Gh} {wI : World} {x0 : Int} {x1 : List Int} {up1 : Value} (rp1 : RV gI.m wI x1 up1) {r : (List Int) × Int} (h : f8 x0 x1 = some r) : Fn Tryd.prog 8 #[.int .i64 (x0), up1] gI wI (fun m w v => ∃ y0 y1, v = .tuple #[y0, y1] ∧ RV m w (r.1) y0 ∧ y1 = .int .i64 (r.2)) := by
 unfold f8 at h;refine fn_of_E Tryd.func8 rfl (Nat.le_of_ble_eq_true rfl) fun g0 hm hfr => ?_;have rp1 : RV g0.m wI x1 up1 := hm ▸ rp1;show E _ 91 none _ _ _ _ _;refine E_seq (E_region (EL_do .plain rfl (D_box (g := g0) rfl (RV_int.2 rfl) fun g1 w1 p1 hs q1 => ?_)));have hfr := hfr.ext hs;have rp1 := rp1.ext hs;refine EL_do .plain rfl (D_box (g := g1) rfl rp1 fun g2 w2 p2 hs q2 => ?_);have hfr := hfr.ext hs;have q1 := q1.ext hs;refine EL_at (.slice none 0 0) rfl rfl ?_;have b3 : OA 4004 g2 w2 3 ([] : List Int) (.slice none 0 0) := OA.nil;refine EL_at (.int .i64 (0)) rfl rfl ?_;refine EL_nil (thn_n (E_seq (E_region (EL_do .plain rfl (D_allocOc (g := g2) 2006 (0 : Int) Tryd.zeroValue3 (fun m w => ⟨_, rep_int, rfl⟩) fun g4 w4 p4 hs b4 cb => ?_)))));have hfr := hfr.stp hs;have q1 := q1.stp hs;have q2 := q2.stp hs;have b3 := b3.stp hs rfl;clear cb;refine EL_do .plain rfl (D_storeOc (g := g4) (v := .int .i64 (0)) Tryd.sizeOf3 rfl b4 rfl (RV_int.2 rfl) fun g5 w5 hs b5 cb => ?_);clear cb;have hfr := hfr.stp hs;have q1 := q1.stp hs;have q2 := q2.stp hs;have b3 := b3.stp hs rfl;refine EL_nil (thn_n ?_);obtain ⟨l8, hx, h⟩ := bsome h;refine E_join (fun e w => ∃ (g : Gh) , Fr gI wI g w ∧ e 2 = p1 ∧ PT g.m w (x0 : Int) p1 ∧ e 3 = p2 ∧ PT g.m w (x1 : List Int) p2 ∧ e 4 = .slice none 0 0 ∧ OA 4004 g w 3 (([] : List Int) : List Int) (Value.slice none 0 0) ∧ e 6 = p4 ∧ OB 2006 g w 3 (l8 : Int) p4) (fun Q' hQ => ?_) (fun mQ tR hR => ?_)
 ·replace h := hx
  clear hx;refine E_seq (E_region (EL_do .plain rfl (D_load (g := g5) Tryd.isAgg34 Tryd.sizeOf34 rfl q2 fun uH aO => ?_)));refine EL_p (.int .i64 ((x1).length : Int)) (P_len Tryd.underlying34 rfl aO) rfl ?_;refine EL_mw (.int .i64 (0)) rfl rfl ?_;refine EL_nil (thn_n (E_block ?_));refine E_lp h (fun (s : Int × Int) e w => ∃ (g : Gh) , Fr gI wI g w ∧ e 2 = p1 ∧ PT g.m w (x0 : Int) p1 ∧ e 3 = p2 ∧ PT g.m w (x1 : List Int) p2 ∧ e 4 = .slice none 0 0 ∧ OA 4004 g w 3 (([] : List Int) : List Int) (Value.slice none 0 0) ∧ e 6 = p4 ∧ OB 2006 g w 3 (s.1 : Int) p4 ∧ e 15 = uH ∧ RV g.m w (x1 : List Int) uH ∧ e 16 = .int .i64 (((x1).length : Int)) ∧ e 17 = .int .i64 (s.2)) ⟨g5, hfr, rfl, q1, rfl, q2, rfl, b3, rfl, b5, rfl, aO, rfl, rfl⟩ (fun X22 yN jO => ?_);rintro ⟨aE, i6⟩ nQ uR ⟨sI, hfr, jJ, cF, kJ, dF, lJ, eF, rF, cH, xH, lD, yH, aG⟩ h;refine E_seq (E_region (EL_in (.bool ((decide (i6 < ((x1).length : Int))))) aG yH rfl rfl ?_));refine EL_nil (thn_n (E_seq ?_));rcases csome h with ⟨jI, h⟩ | ⟨jI, h⟩
  ·refine E_ct jI rfl ?_
   refine E_skip (thn_n ?_);obtain ⟨zE, hx, h⟩ := bsome h;refine E_join (fun e w => ∃ (g : Gh) , Fr gI wI g w ∧ e 2 = p1 ∧ PT g.m w (x0 : Int) p1 ∧ e 3 = p2 ∧ PT g.m w (x1 : List Int) p2 ∧ e 4 = .slice none 0 0 ∧ OA 4004 g w 3 (([] : List Int) : List Int) (Value.slice none 0 0) ∧ e 6 = p4 ∧ OB 2006 g w 3 (zE : Int) p4 ∧ e 15 = uH ∧ RV g.m w (x1 : List Int) uH ∧ e 16 = .int .i64 (((x1).length : Int)) ∧ e 17 = .int .i64 (i6)) (fun Q' hQ => ?_) (fun oQ vR hR => ?_)
   ·replace h := hx
    clear hx;refine E_block ?_;refine E_seq (E_region ?_);obtain ⟨yE, uK, h⟩ := bsome h;refine EL_p (ePtr uH i6 1) (P_indexAddr (α := Int) Tryd.underlying34 Tryd.sizeOf3 xH lD aG uK) rfl ?_;have gP := PT_idx lD uK;refine EL_do .plain rfl (D_load (g := sI) Tryd.isAgg3 Tryd.sizeOf3 rfl gP fun xR iP => ?_);obtain rfl := RV_int.1 iP;refine EL_at (.int .i64 (yE)) rfl rfl ?_;refine EL_nil (thn_n (E_region (EL_do .plain rfl (D_loadO (g := sI) Tryd.isAgg3 Tryd.sizeOf3 rF cH fun yR jP => ?_))));obtain rfl := RV_int.1 jP;refine EL_mw (.int .i64 (yE)) rfl rfl ?_;refine EL_p (.int .i64 (max64 yE (0 : Int))) (P_max rfl rfl) rfl ?_;refine EL_p (.int .i64 (min64 (max64 yE (0 : Int)) (1000 : Int))) (P_min rfl rfl) rfl ?_;refine EL_p (.int .i64 ((w64 (aE + (min64 (max64 yE (0 : Int)) (1000 : Int)))))) (P_int rfl rfl rfl) rfl ?_;refine EL_do .plain rfl (D_storeOc (g := sI) (v := .int .i64 ((w64 (aE + (min64 (max64 yE (0 : Int)) (1000 : Int)))))) Tryd.sizeOf3 rF cH rfl (RV_int.2 rfl) fun kP zR hs b34 cb => ?_);clear cb;have hfr := hfr.stp hs;have cF := cF.stp hs;have dF := dF.stp hs;have eF := eF.stp hs rfl;have lD := lD.stp hs;refine EL_nil (blk_n ?_);obtain rfl := sinj h;exact hQ _ _ ⟨kP, hfr, jJ, cF, kJ, dF, lJ, eF, rF, b34, xH, lD, yH, aG⟩
   ·clear hx
    obtain ⟨lP, hfr, tM, uM, vM, xM, bN, cN, dN, eN, vK, xK, yK, zK⟩ := hR;refine E_region (EL_in (.int .i64 ((w64 (i6 + (1 : Int))))) zK rfl rfl rfl ?_);refine EL_mw (.int .i64 ((w64 (i6 + (1 : Int))))) rfl rfl ?_;exact EL_nil (thn_n (jO (zE, (w64 (i6 + (1 : Int)))) _ _ ⟨lP, hfr, tM, uM, vM, xM, bN, cN, dN, eN, vK, xK, yK, rfl⟩ h))
  ·refine E_cf jI rfl ?_
   refine E_exit ?_;refine thn_e ?_;refine thn_e ?_;refine blk_hit ?_;obtain rfl := sinj h;exact hQ _ _ ⟨sI, hfr, jJ, cF, kJ, dF, lJ, eF, rF, cH⟩
 ·clear hx
  obtain ⟨bO, hfr, gH, nB, sF, aB, mJ, yB, jH, oB⟩ := hR;refine E_joinC h (fun (s : (List Int)) e w => ∃ (g : Gh) (v4 : Value), Fr gI wI g w ∧ e 2 = p1 ∧ PT g.m w (x0 : Int) p1 ∧ e 3 = p2 ∧ PT g.m w (x1 : List Int) p2 ∧ e 4 = v4 ∧ OA 4004 g w 3 (s : List Int) v4 ∧ e 6 = p4 ∧ OB 2006 g w 3 (l8 : Int) p4) (fun X62 zN kO h => ?_) ?_
  ·refine E_block ?_
   refine E_seq (E_region (EL_do .plain rfl (D_load (g := bO) Tryd.isAgg3 Tryd.sizeOf3 gH nB fun aS mP => ?_)));obtain rfl := RV_int.1 mP;refine EL_do .plain rfl (D_buildSlice (g := bO) 3029 (xs := ([x0] : List Int)) (vs := [.int .i64 (x0)]) Tryd.underlying34 Tryd.sizeOf3 Tryd.zeroValue3 rfl rfl (.cons rfl .nil) (RVs.cons (RV_int.2 rfl) RVs.nil) rfl rfl fun nP bS oP hs o65 pP hxt hfl => ?_);have hfr := hfr.stp hs;have nB := nB.stp hs;have aB := aB.stp hs;have yB := yB.stp hs rfl;have oB := oB.stp hs rfl;obtain ⟨qI, lO, h⟩ := bsome h;refine EL_do .plain rfl (D_call (g := nP) (vs := [.int .i64 (0), .int .i64 (1000000000), oP]) en17 (.cons rfl (.cons rfl (.cons rfl .nil))) (wk17 pP lO) fun zH aL cS hs hr => ?_);have hfr := hfr.ext hs;have nB := nB.ext hs;have aB := aB.ext hs;have yB := yB.ext hs;have oB := oB.ext hs;subst hr;refine EL_p (.bool (!qI)) (P_not rfl) rfl ?_;refine EL_at (.bool (!qI)) rfl rfl ?_;refine EL_nil (thn_n ?_);rcases csome h with ⟨kI, h⟩ | ⟨kI, h⟩
   ·refine E_ct kI rfl ?_
    refine E_seq (E_region (EL_at (.slice none 0 0) rfl rfl ?_));have b69 : OA 4004 zH aL 3 ([] : List Int) (.slice none 0 0) := OA.nil;refine EL_at (.int .i64 (3)) rfl rfl ?_;refine EL_nil (thn_n (E_ret (blk_r ?_)));refine thn_r ?_;obtain ⟨gp70, hs, rp70⟩ := OM.pub (b69.toM);have hfr := hfr.stp hs;obtain rfl := sinj h;exact end2 rfl rfl (show _ = .slice none 0 0 from rfl) (show _ = .int .i64 (3) from rfl) ⟨_, hfr, _, _, rfl, rp70, rfl⟩
   ·refine E_cf kI rfl ?_
    refine E_seq (E_region (EL_do .plain rfl (D_load (g := zH) Tryd.isAgg34 Tryd.sizeOf34 sF aB fun dS sP => ?_)));refine EL_p (.int .i64 ((x1).length : Int)) (P_len Tryd.underlying34 rfl sP) rfl ?_;refine EL_in (.bool ((decide (((x1).length : Int) > (10 : Int))))) rfl rfl rfl rfl ?_;refine EL_at (.bool ((decide (((x1).length : Int) > (10 : Int))))) rfl rfl ?_;refine EL_nil (thn_n ?_);rcases csome h with ⟨lI, h⟩ | ⟨lI, h⟩
    ·refine E_ct lI rfl ?_
     refine E_seq (E_region (EL_at (.slice none 0 0) rfl rfl ?_));have b73 : OA 4004 zH aL 3 ([] : List Int) (.slice none 0 0) := OA.nil;refine EL_at (.int .i64 (5)) rfl rfl ?_;refine EL_nil (thn_n (E_ret (blk_r ?_)));refine thn_r ?_;obtain ⟨gp74, hs, rp74⟩ := OM.pub (b73.toM);have hfr := hfr.stp hs;obtain rfl := sinj h;exact end2 rfl rfl (show _ = .slice none 0 0 from rfl) (show _ = .int .i64 (5) from rfl) ⟨_, hfr, _, _, rfl, rp74, rfl⟩
    ·refine E_cf lI rfl ?_
     obtain ⟨cD, hx, h⟩ := bsome h;refine E_join (fun e w => ∃ (g : Gh) , Fr gI wI g w ∧ e 2 = p1 ∧ PT g.m w (x0 : Int) p1 ∧ e 3 = p2 ∧ PT g.m w (x1 : List Int) p2 ∧ e 4 = .slice none 0 0 ∧ OA 4004 g w 3 (([] : List Int) : List Int) (Value.slice none 0 0) ∧ e 6 = p4 ∧ OB 2006 g w 3 (l8 : Int) p4 ∧ e 36 = .bool (cD)) (fun Q' hQ => ?_) (fun pQ tP hR => ?_)
     ·replace h := hx
      clear hx;refine E_seq (E_region (EL_do .plain rfl (D_load (g := zH) Tryd.isAgg34 Tryd.sizeOf34 sF aB fun uP vP => ?_)));obtain ⟨tH, mO, h⟩ := bsome h;refine EL_do .plain rfl (D_call (g := zH) (vs := [.int .i64 (0), .int .i64 (1000), uP]) en17 (.cons rfl (.cons rfl (.cons rfl .nil))) (wk17 vP mO) fun bL qQ eS hs hr => ?_);have hfr := hfr.ext hs;have nB := nB.ext hs;have aB := aB.ext hs;have yB := yB.ext hs;have oB := oB.ext hs;subst hr;refine EL_p (.bool (!tH)) (P_not rfl) rfl ?_;refine EL_at (.bool (!tH)) rfl rfl ?_;refine EL_nil (thn_n ?_);rcases csome h with ⟨mI, h⟩ | ⟨mI, h⟩
      ·refine E_ct mI rfl ?_
       refine E_skip ?_;obtain rfl := sinj h;exact hQ _ _ ⟨bL, hfr, gH, nB, sF, aB, mJ, yB, jH, oB, rfl⟩
      ·refine E_cf mI rfl ?_
       refine E_region (EL_do .plain rfl (D_loadO (g := bL) Tryd.isAgg3 Tryd.sizeOf3 jH oB fun gS xP => ?_));obtain rfl := RV_int.1 xP;refine EL_in (.bool ((l8 == (0 : Int)))) rfl rfl rfl rfl ?_;refine EL_at (.bool ((l8 == (0 : Int)))) rfl rfl ?_;refine EL_nil ?_;obtain rfl := sinj h;exact hQ _ _ ⟨bL, hfr, gH, nB, sF, aB, mJ, yB, jH, oB, rfl⟩
     ·clear hx
      obtain ⟨cO, hfr, gN, iN, jN, kN, lN, mN, nN, oN, aI⟩ := hR;rcases csome h with ⟨nI, h⟩ | ⟨nI, h⟩
      ·refine E_cond_true (Eq.trans (show ev _ _ = .bool (cD) from aI) (congrArg Value.bool nI)) ?_
       refine E_seq (E_region (EL_at (.slice none 0 0) rfl rfl ?_));have b87 : OA 4004 cO tP 3 ([] : List Int) (.slice none 0 0) := OA.nil;refine EL_at (.int .i64 (2)) rfl rfl ?_;refine EL_nil (thn_n (E_ret (blk_r ?_)));refine thn_r ?_;obtain ⟨gp88, hs, rp88⟩ := OM.pub (b87.toM);have hfr := hfr.stp hs;obtain rfl := sinj h;exact end2 rfl rfl (show _ = .slice none 0 0 from rfl) (show _ = .int .i64 (2) from rfl) ⟨_, hfr, _, _, rfl, rp88, rfl⟩
      ·refine E_cond_false (Eq.trans (show ev _ _ = .bool (cD) from aI) (congrArg Value.bool nI)) ?_
       exact E_skip (blk_n (thn_n (kO (([] : List Int)) _ _ ⟨cO, (.slice none 0 0), hfr, gN, iN, jN, kN, lN, mN, nN, oN⟩ h)))
  ·rintro pI rQ iS ⟨yP, pN, hfr, nJ, tF, kH, mE, qN, lH, rN, mH⟩ h
   refine E_seq (L_load (x := .tmp 2) Tryd.isAgg3 Tryd.sizeOf3 tF fun jS zP nO => ?_);obtain rfl := RV_int.1 zP;refine L_load (x := .tmp 3) Tryd.isAgg34 Tryd.sizeOf34 mE fun bQ cQ oO => ?_;obtain ⟨sH, pO, h⟩ := bsome h;refine E_drawL (g := yP) (n := 6) [(3, (fun v g w => OM 9045 g w 3 sH v))] [0, 1, 2, 3, 4, 5] rfl mixed (by kernel_rfl) (⟨fun _ => up_om, trivial⟩) ?_;refine L_ld (c := .int .i64 (x0)) rfl rfl .plain (fun _ _ h => h.ch) nO nJ ?_;refine L_ld (c := bQ) rfl rfl .plain (fun _ _ h => h.ch) oO kH ?_;refine L_p (.int .i64 ((x1).length : Int)) rfl rfl (P_len Tryd.underlying34 rfl cQ) ?_;refine L_do (φ := fun v g w => OM 9045 g w 3 sH v) rfl rfl .plain (fun g w hd => D_makeSliceX (g := g) 9045 (0 : Int) rfl Tryd.underlying34 info_3 rfl (fun _ _ => rfl) rfl rfl pO fun g' w' v hs b => ⟨g', hs, b⟩) (fun mB hv => ?_);clear hv;refine L_p (.int .i64 (x0)) rfl rfl (P_assign rfl) ?_;refine L_p mB rfl rfl (P_assign rfl) ?_;refine L_nil fun dO lS hall => ?_;have hs := hall.1;have hfr := hfr.ext hs;have tF := tF.ext hs;have mE := mE.ext hs;have lH := lH.ext hs;have mH := mH.ext hs;have b104 := (word_all (A := fun g w => OM 9045 g w 3 sH mB) 3 rfl hall);clear hs hall;refine EL_nil (thn_n ?_);obtain ⟨⟨xF, n8, rE⟩, hx, h⟩ := bsome h;refine E_join (fun e w => ∃ (g : Gh) (v4 : Value), Fr gI wI g w ∧ e 2 = p1 ∧ PT g.m w (x0 : Int) p1 ∧ e 3 = p2 ∧ PT g.m w (x1 : List Int) p2 ∧ e 4 = v4 ∧ OA 4004 g w 3 (xF : List Int) v4 ∧ e 6 = p4 ∧ OB 2006 g w 3 (l8 : Int) p4 ∧ e 9 = .int .i64 (n8) ∧ e 10 = mB ∧ OM 9045 g w 3 (rE : List Int) mB) (fun Q' hQ => ?_) (fun dQ sQ hR => ?_)
   ·replace h := hx
    clear hx;refine E_seq (E_region (EL_do .plain rfl (D_load (g := dO) Tryd.isAgg34 Tryd.sizeOf34 kH mE fun bG dL => ?_)));refine EL_p (.int .i64 ((x1).length : Int)) (P_len Tryd.underlying34 rfl dL) rfl ?_;refine EL_mw (.int .i64 (0)) rfl rfl ?_;refine EL_nil (thn_n (E_block ?_));refine E_lp h (fun (s : (List Int) × Int × (List Int) × Int) e w => ∃ (g : Gh) (v4 : Value), Fr gI wI g w ∧ e 2 = p1 ∧ PT g.m w (x0 : Int) p1 ∧ e 3 = p2 ∧ PT g.m w (x1 : List Int) p2 ∧ e 4 = v4 ∧ OA 4004 g w 3 (s.1 : List Int) v4 ∧ e 6 = p4 ∧ OB 2006 g w 3 (l8 : Int) p4 ∧ e 9 = .int .i64 (s.2.1) ∧ e 10 = mB ∧ OM 9045 g w 3 (s.2.2.1 : List Int) mB ∧ e 46 = bG ∧ RV g.m w (x1 : List Int) bG ∧ e 47 = .int .i64 (((x1).length : Int)) ∧ e 48 = .int .i64 (s.2.2.2)) ⟨dO, (pN), hfr, nJ, tF, kH, mE, qN, lH, rN, mH, rfl, rfl, b104, rfl, dL, rfl, rfl⟩ (fun X137 qK sN => ?_);rintro ⟨uF, uC, oD, o0⟩ eQ tQ ⟨cG, eL, hfr, eG, v8, bI, lB, dI, oE, gG, l9, iI, uE, n9, lG, t5, mG, zD⟩ h;refine E_seq (E_region (EL_in (.bool ((decide (o0 < ((x1).length : Int))))) zD mG rfl rfl ?_));refine EL_nil (thn_n (E_seq ?_));rcases csome h with ⟨nH, h⟩ | ⟨nH, h⟩
    ·refine E_ct nH rfl ?_
     refine E_skip (thn_n ?_);obtain ⟨⟨bE, iE, yD⟩, hx, h⟩ := bsome h;refine E_join (fun e w => ∃ (g : Gh) (v4 : Value), Fr gI wI g w ∧ e 2 = p1 ∧ PT g.m w (x0 : Int) p1 ∧ e 3 = p2 ∧ PT g.m w (x1 : List Int) p2 ∧ e 4 = v4 ∧ OA 4004 g w 3 (bE : List Int) v4 ∧ e 6 = p4 ∧ OB 2006 g w 3 (l8 : Int) p4 ∧ e 9 = .int .i64 (iE) ∧ e 10 = mB ∧ OM 9045 g w 3 (yD : List Int) mB ∧ e 46 = bG ∧ RV g.m w (x1 : List Int) bG ∧ e 47 = .int .i64 (((x1).length : Int)) ∧ e 48 = .int .i64 (o0)) (fun Q' hQ => ?_) (fun gQ uQ hR => ?_)
     ·replace h := hx
      clear hx;refine E_block ?_;refine E_seq (E_region (EL_mv zD rfl ?_));obtain ⟨vF, oJ, h⟩ := bsome h;refine EL_p (ePtr bG o0 1) (P_indexAddr (α := Int) Tryd.underlying34 Tryd.sizeOf3 lG t5 zD oJ) rfl ?_;have qO := PT_idx t5 oJ;refine EL_do .plain rfl (D_load (g := cG) Tryd.isAgg3 Tryd.sizeOf3 rfl qO fun vQ rO => ?_);obtain rfl := RV_int.1 rO;refine EL_at (.int .i64 (o0)) rfl rfl ?_;refine EL_at (.int .i64 (vF)) rfl rfl ?_;refine EL_nil (thn_n (E_seq (E_region (EL_mv uE rfl ?_))));refine EL_mw (.int .i64 (o0)) rfl rfl ?_;refine EL_mv dI rfl ?_;refine EL_do .plain rfl (D_load (g := cG) Tryd.isAgg3 Tryd.sizeOf3 eG v8 fun xQ sO => ?_);obtain rfl := RV_int.1 sO;refine EL_mw (.int .i64 (vF)) rfl rfl ?_;refine EL_in (.int .i64 ((w64 (x0 * vF)))) rfl rfl rfl rfl ?_;refine EL_do .plain rfl (D_loadO (g := cG) Tryd.isAgg3 Tryd.sizeOf3 gG l9 fun yQ tO => ?_);obtain rfl := RV_int.1 tO;obtain ⟨y158, tN, h⟩ := bsome h;refine EL_p (.int .i64 (y158)) (P_int rfl rfl (congrArg (Option.map (Value.int .i64)) tN)) rfl ?_;refine EL_do .plain rfl (D_buildSlice (g := cG) 3061 (xs := ([y158] : List Int)) (vs := [.int .i64 (y158)]) Tryd.underlying34 Tryd.sizeOf3 Tryd.zeroValue3 rfl rfl (.cons rfl .nil) (RVs.cons (RV_int.2 rfl) RVs.nil) rfl rfl fun uO zQ aR hs o159 vO hxt hfl => ?_);have hfr := hfr.stp hs;have v8 := v8.stp hs;have lB := lB.stp hs;have oE := oE.stp hs rfl;have l9 := l9.stp hs rfl;have n9 := n9.stp hs rfl;have t5 := t5.stp hs;obtain ⟨y161, uN, h⟩ := bsome h;refine EL_do .plain rfl (D_appendA (g := uO) plain_int (i := 4004) Tryd.underlying34 info_3 rfl rfl oE rfl vO uN fun xO bR oH hs b160 => ?_);have hfr := hfr.stp hs;have v8 := v8.stp hs;have lB := lB.stp hs;have l9 := l9.stp hs rfl;have n9 := n9.stp hs rfl;have t5 := t5.stp hs;refine EL_mw (.int .i64 (o0)) rfl rfl ?_;refine EL_at oH rfl rfl ?_;obtain ⟨eO, pJ, h⟩ := bsome h;refine EL_p (ePtr mB o0 1) (P_indexAddrM (α := Int) Tryd.underlying34 Tryd.sizeOf3 rfl n9 rfl pJ) rfl ?_;refine EL_do .plain rfl (D_storeM (g := xO) (α := Int) (a' := o0) Tryd.sizeOf3 rfl n9 pJ rfl (RV_int.2 rfl) fun gL dR hs b163 => ?_);have hfr := hfr.stp hs;have v8 := v8.stp hs;have lB := lB.stp hs;have b160 := b160.stp hs rfl;have l9 := l9.stp hs rfl;have t5 := t5.stp hs;refine EL_nil (thn_n (E_region (EL_mv iI rfl ?_)));refine EL_mw oH rfl rfl ?_;refine EL_mw (.int .i64 (o0)) rfl rfl ?_;obtain ⟨zG, qJ, h⟩ := bsome h;refine EL_p (ePtr oH o0 1) (P_indexAddrM (α := Int) Tryd.underlying34 Tryd.sizeOf3 rfl (b160.toM) rfl qJ) rfl ?_;refine EL_do .plain rfl (D_loadM (g := gL) Tryd.isAgg3 Tryd.sizeOf3 rfl (b160.toM) qJ fun eR yO => ?_);obtain rfl := RV_int.1 yO;refine EL_in (.int .i64 ((w64 (uC - zG)))) rfl rfl rfl rfl ?_;refine EL_at (.int .i64 ((w64 (uC - zG)))) rfl rfl ?_;refine EL_nil (blk_n ?_);obtain ⟨rfl, rfl, rfl⟩ := pairs3 h;exact hQ _ _ ⟨gL, (oH), hfr, eG, v8, bI, lB, rfl, b160, gG, l9, rfl, uE, b163, lG, t5, mG, zD⟩
     ·clear hx
      obtain ⟨zO, iL, hfr, jL, lL, mL, nL, oL, xL, yL, zL, aM, zJ, aK, bK, cK, dK, lK⟩ := hR;refine E_region (EL_in (.int .i64 ((w64 (o0 + (1 : Int))))) lK rfl rfl rfl ?_);refine EL_mw (.int .i64 ((w64 (o0 + (1 : Int))))) rfl rfl ?_;exact EL_nil (thn_n (sN (bE, iE, yD, (w64 (o0 + (1 : Int)))) _ _ ⟨zO, (iL), hfr, jL, lL, mL, nL, oL, xL, yL, zL, aM, zJ, aK, bK, cK, dK, rfl⟩ h))
    ·refine E_cf nH rfl ?_
     refine E_exit ?_;refine thn_e ?_;refine thn_e ?_;refine blk_hit ?_;obtain ⟨rfl, rfl, rfl⟩ := pairs3 h;exact hQ _ _ ⟨cG, (eL), hfr, eG, v8, bI, lB, dI, oE, gG, l9, iI, uE, n9⟩
   ·clear hx
    obtain ⟨gR, g8, hfr, bM, iG, cM, jG, dM, vB, eM, iM, jM, sG, vE⟩ := hR;refine E_seq (E_region (EL_mv sG rfl ?_));obtain ⟨gp168, hs, rp168⟩ := OB.pub iM;have hfr := hfr.stp hs;have iG := iG.stp hs;have jG := jG.stp hs;have vB := vB.stp hs rfl;have vE := vE.stp hs rfl;refine EL_p ((.func (.func 19) #[] #[p1, p2, p4])) (P_makeFunc (capf_0_3 (show ev _ _ = p1 from bM) (show ev _ _ = p2 from cM) (show ev _ _ = p4 from eM))) rfl ?_;obtain ⟨sK, vN, h⟩ := bsome h;refine EL_do .plain rfl (D_callM (g := gp168) (i := 9045) (vs := [mB, (.func (.func 19) #[] #[p1, p2, p4])]) en18 (.cons rfl (.cons rfl .nil)) (wk18 vE ⟨19, #[], #[p1, p2, p4], rfl, en19, fun g' w' hch a0 a1 b0 b1 r hu0 hu1 hr => by obtain rfl := RV_int.1 hu0; obtain rfl := RV_int.1 hu1; exact Fn.mono (wk19  (iG.ch hch) (jG.ch hch) (rp168.ch hch) hr) fun _ _ _ h => RV_int.2 h⟩ vN) fun iR iQ jR hs hr => ?_);obtain ⟨hrv, b169⟩ := hr;have hfr := hfr.stp hs;have vB := vB.stp hs rfl;subst hrv;refine EL_nil (thn_n ?_);obtain ⟨yF, hx, h⟩ := bsome h;refine E_join (fun e w => ∃ (g : Gh) , Fr gI wI g w ∧ e 4 = g8 ∧ OA 4004 g w 3 (yF : List Int) g8) (fun Q' hQ => ?_) (fun jQ lR hR => ?_)
    ·replace h := hx
     clear hx;refine E_seq (E_region (EL_mv sG rfl ?_));refine EL_mv jM rfl ?_;obtain ⟨gp192, hs, rp192⟩ := OM.pub b169;have hfr := hfr.stp hs;have vB := vB.stp hs rfl;obtain ⟨cC, rJ, h⟩ := bsome h;have kM := RV_cut rp192 rJ;refine EL_p ((cutV mB (Int.toNat 0) (Int.toNat n8) 1)) (P_slice Tryd.underlying34 Tryd.sizeOf3 rfl rp192 rfl rfl rJ) rfl ?_;refine EL_p (.int .i64 ((cC).length : Int)) (P_len Tryd.underlying34 rfl kM) rfl ?_;refine EL_mw (.int .i64 (0)) rfl rfl ?_;refine EL_nil (thn_n (E_block ?_));refine E_lp h (fun (s : (List Int) × Int) e w => ∃ (g : Gh) , Fr gI wI g w ∧ e 4 = g8 ∧ OA 4004 g w 3 (s.1 : List Int) g8 ∧ e 77 = (cutV mB (Int.toNat 0) (Int.toNat n8) 1) ∧ RV g.m w (cC : List Int) (cutV mB (Int.toNat 0) (Int.toNat n8) 1) ∧ e 78 = .int .i64 (((cC).length : Int)) ∧ e 79 = .int .i64 (s.2)) ⟨gp192, hfr, dM, vB, rfl, kM, rfl, rfl⟩ (fun X195 tK xN => ?_);rintro ⟨vC, l5⟩ kQ mR ⟨pH, hfr, kG, nD, xG, zB, yG, xE⟩ h;refine E_seq (E_region (EL_in (.bool ((decide (l5 < ((cC).length : Int))))) xE yG rfl rfl ?_));refine EL_nil (thn_n (E_seq ?_));rcases csome h with ⟨qH, h⟩ | ⟨qH, h⟩
     ·refine E_ct qH rfl ?_
      refine E_skip (thn_n ?_);obtain ⟨lE, hx, h⟩ := bsome h;refine E_join (fun e w => ∃ (g : Gh) , Fr gI wI g w ∧ e 4 = g8 ∧ OA 4004 g w 3 (lE : List Int) g8 ∧ e 77 = (cutV mB (Int.toNat 0) (Int.toNat n8) 1) ∧ RV g.m w (cC : List Int) (cutV mB (Int.toNat 0) (Int.toNat n8) 1) ∧ e 78 = .int .i64 (((cC).length : Int)) ∧ e 79 = .int .i64 (l5)) (fun Q' hQ => ?_) (fun lQ nR hR => ?_)
      ·replace h := hx
       clear hx;refine E_block ?_;refine E_seq (E_region ?_);obtain ⟨bD, sJ, h⟩ := bsome h;refine EL_p (ePtr ((cutV mB (Int.toNat 0) (Int.toNat n8) 1)) l5 1) (P_indexAddr (α := Int) Tryd.underlying34 Tryd.sizeOf3 xG zB xE sJ) rfl ?_;have aP := PT_idx zB sJ;refine EL_do .plain rfl (D_load (g := pH) Tryd.isAgg3 Tryd.sizeOf3 rfl aP fun oR bP => ?_);obtain rfl := RV_int.1 bP;refine EL_at (.int .i64 (bD)) rfl rfl ?_;refine EL_nil (thn_n (E_region (EL_mv kG rfl ?_)));refine EL_mw (.int .i64 (bD)) rfl rfl ?_;obtain ⟨aH, vJ, h⟩ := bsome h;refine EL_p (ePtr g8 bD 1) (P_indexAddrM (α := Int) Tryd.underlying34 Tryd.sizeOf3 rfl (nD.toM) rfl vJ) rfl ?_;refine EL_do .plain rfl (D_loadM (g := pH) Tryd.isAgg3 Tryd.sizeOf3 rfl (nD.toM) vJ fun pR cP => ?_);obtain rfl := RV_int.1 cP;refine EL_in (.int .i64 ((w64 (aH + (1 : Int))))) rfl rfl rfl rfl ?_;obtain ⟨gO, xJ, h⟩ := bsome h;refine EL_p (ePtr g8 bD 1) (P_indexAddrM (α := Int) Tryd.underlying34 Tryd.sizeOf3 rfl (nD.toM) rfl xJ) rfl ?_;refine EL_do .plain rfl (D_storeA (g := pH) (α := Int) (a' := ((w64 (aH + (1 : Int))))) Tryd.sizeOf3 rfl nD xJ rfl (RV_int.2 rfl) fun dP qR hs b211 => ?_);have hfr := hfr.stp hs;have zB := zB.stp hs;refine EL_nil (blk_n ?_);obtain rfl := sinj h;exact hQ _ _ ⟨dP, hfr, kG, b211, xG, zB, yG, xE⟩
      ·clear hx
       obtain ⟨eP, hfr, pM, qM, mK, nK, oK, pK⟩ := hR;refine E_region (EL_in (.int .i64 ((w64 (l5 + (1 : Int))))) pK rfl rfl rfl ?_);refine EL_mw (.int .i64 ((w64 (l5 + (1 : Int))))) rfl rfl ?_;exact EL_nil (thn_n (xN (lE, (w64 (l5 + (1 : Int)))) _ _ ⟨eP, hfr, pM, qM, mK, nK, oK, rfl⟩ h))
     ·refine E_cf qH rfl ?_
      refine E_exit ?_;refine thn_e ?_;refine thn_e ?_;refine blk_hit ?_;obtain rfl := sinj h;exact hQ _ _ ⟨pH, hfr, kG, nD⟩
    ·clear hx
     obtain ⟨rR, hfr, rM, sM⟩ := hR;refine E_seq (E_region (EL_mv rM rfl ?_));refine EL_at g8 rfl rfl ?_;refine EL_at (.int .i64 (0)) rfl rfl ?_;refine EL_nil (thn_n (E_ret ?_));obtain ⟨gp214, hs, rp214⟩ := OM.pub (sM.toM);have hfr := hfr.stp hs;obtain rfl := sinj h;exact end2 rfl rfl (show _ = g8 from rfl) (show _ = .int .i64 (0) from rfl) ⟨_, hfr, _, _, rfl, rp214, rfl⟩
def f10 (x0 : List ShadeLot) (x1 : Int) : Option (ShadeStore × Int) :=
 (f23 x0).bind fun y3 =>
 Option.bind (α := Int) (
  Option.bind (α := Bool) (
   bif (y3 == (0 : Int)) then
    (f24 ((0 : Int)) ((1000 : Int)) (([x1] : List Int))).bind fun n8 =>
    some ((!n8))
   else
    some (false)
   ) fun l5 =>
  bif l5 then
   some ((3 : Int))
  else
   some (y3)
  ) fun i6 =>
 some ((⟨x0, x1⟩ : ShadeStore), i6)
theorem en10 : Enters Tryd.prog 10 := enters_of Tryd.func10 (by kernel_rfl) rfl
theorem wk10 {gI : Gh} {wI : World} {x0 : List ShadeLot} {x1 : Int} {up0 : Value} (rp0 : RV gI.m wI x0 up0) {r : ShadeStore × Int} (h : f10 x0 x1 = some r) : Fn Tryd.prog 10 #[up0, .int .i64 (x1)] gI wI (fun m w v => ∃ y0 y1, v = .tuple #[y0, y1] ∧ RV m w (r.1) y0 ∧ y1 = .int .i64 (r.2)) := by
 unfold f10 at h;refine fn_of_E Tryd.func10 rfl (Nat.le_of_ble_eq_true rfl) fun g0 hm hfr => ?_;have rp0 : RV g0.m wI x0 up0 := hm ▸ rp0;show E _ 21 none _ _ _ _ _;refine E_seq (E_region (EL_do .plain rfl (D_allocOc (g := g0) 2004 (⟨[], 0⟩ : ShadeStore) Tryd.zeroValue48 (fun m w => ⟨_, (rep_two rep_nil rep_int), rfl⟩) fun g1 w1 p1 hs b1 cb => ?_)));have hfr := hfr.stp hs;have rp0 := rp0.stp hs;have t5 : OSF 2004 60400 0 g1 w1 31 48 ([] : List ShadeLot) p1 := cb.osf (by rfl);clear cb;refine EL_at (.int .i64 (0)) rfl rfl ?_;refine EL_nil (thn_n (E_seq (E_region (EL_mw up0 rfl rfl ?_))));obtain ⟨y3, hy3, h⟩ := bsome h;refine EL_do .plain rfl (D_call (g := g1) (vs := [up0]) en23 (.cons rfl .nil) (wk23 rp0 hy3) fun g2 w2_ v2 hs hr => ?_);have hfr := hfr.ext hs;have rp0 := rp0.ext hs;have t5 := t5.ext hs;have b1 := b1.ext hs;subst hr;refine EL_at (.int .i64 (y3)) rfl rfl ?_;refine EL_nil (thn_n ?_);obtain ⟨i6, hx, h⟩ := bsome h;refine E_join (fun e w => ∃ (g : Gh) , Fr gI wI g w ∧ e 0 = up0 ∧ RV g.m w (x0 : List ShadeLot) up0 ∧ e 1 = .int .i64 (x1) ∧ e 4 = p1 ∧ OB 2004 g w 48 ((⟨[], 0⟩ : ShadeStore) : ShadeStore) p1 ∧ OSF 2004 60400 0 g w 31 48 (((⟨[], 0⟩ : ShadeStore)).lots) p1 ∧ e 6 = .int .i64 (i6)) (fun Q' hQ => ?_) (fun iE oE hR => ?_)
 ·replace h := hx
  clear hx;obtain ⟨l5, hx, h⟩ := bsome h;refine E_join (fun e w => ∃ (g : Gh) , Fr gI wI g w ∧ e 0 = up0 ∧ RV g.m w (x0 : List ShadeLot) up0 ∧ e 1 = .int .i64 (x1) ∧ e 4 = p1 ∧ OB 2004 g w 48 ((⟨[], 0⟩ : ShadeStore) : ShadeStore) p1 ∧ OSF 2004 60400 0 g w 31 48 (((⟨[], 0⟩ : ShadeStore)).lots) p1 ∧ e 6 = .int .i64 (y3) ∧ e 16 = .bool (l5)) (fun Q' hQ => ?_) (fun lE rE hR => ?_)
  ·replace h := hx
   clear hx;refine E_region (EL_mw (.int .i64 (y3)) rfl rfl ?_);refine EL_in (.bool ((y3 == (0 : Int)))) rfl rfl rfl rfl ?_;refine EL_mw (.bool ((y3 == (0 : Int)))) rfl rfl ?_;rcases csome h with ⟨o0, h⟩ | ⟨o0, h⟩
   ·refine EL_y (.int .i64 (x1)) (P_move rfl) rfl rfl o0 rfl ?_
    refine EL_do (.yes2 rfl rfl o0) rfl (D_buildSlice (g := g2) 3013 (xs := ([x1] : List Int)) (vs := [.int .i64 (x1)]) Tryd.underlying34 Tryd.sizeOf3 Tryd.zeroValue3 rfl rfl (.cons rfl .nil) (RVs.cons (RV_int.2 rfl) RVs.nil) rfl rfl fun yD uE zD hs o19 aE hxt hfl => ?_);have hfr := hfr.stp hs;have rp0 := rp0.stp hs;have t5 := t5.stp hs rfl;have b1 := b1.stp hs rfl;obtain ⟨n8, lD, h⟩ := bsome h;refine EL_do (.yes2 rfl rfl o0) rfl (D_call (g := yD) (vs := [.int .i64 (0), .int .i64 (1000), zD]) en24 (.cons rfl (.cons rfl (.cons rfl .nil))) (wk24 aE lD) fun bE mE vE hs hr => ?_);have hfr := hfr.ext hs;have rp0 := rp0.ext hs;have t5 := t5.ext hs;have b1 := b1.ext hs;subst hr;refine EL_y (.bool (!n8)) (P_not rfl) rfl rfl o0 rfl ?_;refine EL_p (.bool (!n8)) (P_pick (b := (y3 == (0 : Int))) rfl (pick_t o0 rfl)) rfl ?_;refine EL_nil ?_;obtain rfl := sinj h;exact hQ _ _ ⟨bE, hfr, rfl, rp0, rfl, rfl, b1, t5, rfl, rfl⟩
   ·refine EL_s rfl rfl o0 rfl rfl ?_
    iterate 3 refine EL_s rfl rfl o0 rfl rfl ?_
    refine EL_p (.bool false) (P_pick (b := (y3 == (0 : Int))) rfl (pick_f o0 rfl)) rfl ?_;refine EL_nil ?_;obtain rfl := sinj h;exact hQ _ _ ⟨g2, hfr, rfl, rp0, rfl, rfl, b1, t5, rfl, rfl⟩
  ·clear hx
   obtain ⟨uC, hfr, v8, l9, n9, aB, lB, u4_0_22, oB, g8⟩ := hR;rcases csome h with ⟨l8, h⟩ | ⟨l8, h⟩
   ·refine E_cond_true (Eq.trans (show ev _ _ = .bool (l5) from g8) (congrArg Value.bool l8)) ?_
    refine E_region (EL_at (.int .i64 (3)) rfl rfl ?_);refine EL_nil ?_;obtain rfl := sinj h;exact hQ _ _ ⟨uC, hfr, v8, l9, n9, aB, lB, u4_0_22, rfl⟩
   ·refine E_cond_false (Eq.trans (show ev _ _ = .bool (l5) from g8) (congrArg Value.bool l8)) ?_
    refine E_skip ?_;obtain rfl := sinj h;exact hQ _ _ ⟨uC, hfr, v8, l9, n9, aB, lB, u4_0_22, oB⟩
 ·clear hx
  obtain ⟨vC, hfr, vB, mB, yB, nB, zB, u4_0_24, cC⟩ := hR;refine E_seq (E_region (EL_mv vB rfl ?_));refine EL_mv yB rfl ?_;have bD : RV vC.m _ (⟨x0, x1⟩ : ShadeStore) (.agg (setCh [[.slice none 0 0], [.int .i64 0]] [(0, up0), (1, .int .i64 (x1))]).flatten.toArray) := RV_build rfl (rep_pair (RV.cells mB) (rep_last (rfl)));generalize nD : (Value.agg (setCh [[.slice none 0 0], [.int .i64 0]] [(0, up0), (1, .int .i64 (x1))]).flatten.toArray) = cD at bD;refine EL_p cD (nD ▸ P_build (vs := [(0, up0), (1, .int .i64 (x1))]) [[.slice none 0 0], [.int .i64 0]] lay_48 rfl rfl (.cons rfl (.cons rfl .nil)) ⟨⟨_, rfl, cells_size mB⟩, ⟨⟨_, rfl, rfl⟩, trivial⟩⟩) rfl ?_;refine EL_mv cC rfl ?_;refine EL_do .plain rfl (D_storeOc (g := vC) (v := cD) Tryd.sizeOf48 nB zB rfl bD fun xE yE hs b26 cb => ?_);clear cb;have hfr := hfr.stp hs;refine EL_at (.int .i64 (i6)) rfl rfl ?_;refine EL_nil (thn_n (E_ret ?_));obtain rfl := sinj h;obtain ⟨ad27, cv27, hp27, oD, cr27⟩ := ob_read Tryd.isAgg48 Tryd.sizeOf48 b26;exact endm_ct rfl rfl ((show _ = p1 from nB).trans hp27) oD (show _ = .int .i64 (i6) from rfl) ⟨_, hfr, _, _, rfl, cr27, rfl⟩
def f14 (x0 : PayList) (x1 : PayPiece) : Option (Int × Int × Int × Int) :=
 (f30 x0 x1).bind fun y6 =>
 jn (σ := Unit) (fun _ =>
  (f31 (y6.1) x1).bind fun l5 =>
  (f32 (y6.1) l5 ((x1).Faults)).bind fun l8 =>
  (f33 (y6.1) x1 ((x1).Faults)).bind fun n8 =>
  some (l5, l8, n8, (0 : Int))
  ) fun mB =>
 bif (y6.2 != (0 : Int)) then
  some ((0 : Int), (0 : Int), (0 : Int), y6.2)
 else
  mB ()
theorem en14 : Enters Tryd.prog 14 := enters_of Tryd.func14 (by kernel_rfl) rfl
theorem wk14 {gI : Gh} {wI : World} {x0 : PayList} {x1 : PayPiece} {up0 : Value} (rp0 : RV gI.m wI x0 up0) {up1 : Value} (rp1 : RV gI.m wI x1 up1) {r : Int × Int × Int × Int} (h : f14 x0 x1 = some r) : Fn Tryd.prog 14 #[up0, up1] gI wI (fun m w v => ∃ y0 y1 y2 y3, v = .tuple #[y0, y1, y2, y3] ∧ y0 = .int .i64 (r.1) ∧ y1 = .int .i64 (r.2.1) ∧ y2 = .int .i64 (r.2.2.1) ∧ y3 = .int .i64 (r.2.2.2)) := by
 unfold f14 at h;refine fn_of_E Tryd.func14 rfl (Nat.le_of_ble_eq_true rfl) fun g0 hm hfr => ?_;have rp0 : RV g0.m wI x0 up0 := hm ▸ rp0;have rp1 : RV g0.m wI x1 up1 := hm ▸ rp1;show E _ 32 none _ _ _ _ _;refine E_seq (E_region (EL_do .plain rfl (D_box (g := g0) rfl rp0 fun g1 w1 p1 hs q1 => ?_)));have hfr := hfr.ext hs;have rp1 := rp1.ext hs;refine EL_do .plain rfl (D_box (g := g1) rfl rp1 fun g2 w2 p2 hs q2 => ?_);have hfr := hfr.ext hs;have q1 := q1.ext hs;iterate 4 refine EL_at (.int .i64 (0)) rfl rfl ?_
 refine EL_nil (thn_n (E_seq (E_region (EL_do .plain rfl (D_load (g := g2) Tryd.isAgg58 Tryd.sizeOf58 rfl q1 fun v3 r3 => ?_)))));refine EL_do .plain rfl (D_load (g := g2) Tryd.isAgg63 Tryd.sizeOf63 rfl q2 fun v4 r4 => ?_);obtain ⟨y6, oD, h⟩ := bsome h;refine EL_do .plain rfl (D_call (g := g2) (vs := [v3, v4]) en30 (.cons rfl (.cons rfl .nil)) (wk30 r3 r4 oD) fun g5 w5_ v5 hs hr => ?_);have hfr := hfr.ext hs;have q2 := q2.ext hs;obtain ⟨l9, yE, rfl, n9, rfl⟩ := hr;refine EL_mw (.tuple #[l9, .int .i64 (y6.2)]) rfl rfl ?_;refine EL_p l9 (P_extract rfl rfl) rfl ?_;refine EL_p (.int .i64 (y6.2)) (P_extract rfl rfl) rfl ?_;refine EL_do .plain rfl (D_allocOc (g := g5) 2008 (⟨⟨[], [], 0, 0⟩⟩ : PayPayList) Tryd.zeroValue91 (fun m w => ⟨_, (rep_two rep_nil (rep_two rep_nil (rep_two rep_int rep_int))), rfl⟩) fun g7 w7 p7 hs b7 cb => ?_);have hfr := hfr.stp hs;have q2 := q2.stp hs;have n9 := n9.stp hs;have zE : OSF 2008 60800 0 g7 w7 55 91 ([] : List PayRate) p7 := cb.osf (by rfl);have cF : OSF 2008 60801 1 g7 w7 3 91 ([] : List Int) p7 := cb.osf (by rfl);clear cb;refine EL_do .plain rfl (D_storeOc (g := g7) (v := l9) Tryd.sizeOf91 rfl b7 rfl n9 fun g8 w8 hs b8 cb => ?_);clear cb;have hfr := hfr.stp hs;have q2 := q2.stp hs;refine EL_at (.int .i64 (y6.2)) rfl rfl ?_;refine EL_nil (thn_n (E_joinC h (fun (s : Unit) e w => ∃ (g : Gh) , Fr gI wI g w ∧ e 3 = p2 ∧ PT g.m w (x1 : PayPiece) p2 ∧ e 8 = p7 ∧ OB 2008 g w 91 (y6.1 : PayPayList) p7) (fun X10 mB yB h => ?_) ?_))
 ·refine E_seq (E_region (EL_mw (.int .i64 (y6.2)) rfl rfl ?_))
  refine EL_in (.bool ((y6.2 != (0 : Int)))) rfl rfl rfl rfl ?_;refine EL_nil (thn_n ?_);rcases csome h with ⟨aB, h⟩ | ⟨aB, h⟩
  ·refine E_ct aB rfl ?_
   refine E_seq (E_region (EL_mw (.int .i64 (y6.2)) rfl rfl ?_));iterate 3 refine EL_at (.int .i64 (0)) rfl rfl ?_
   refine EL_at (.int .i64 (y6.2)) rfl rfl ?_;refine EL_nil (thn_n (E_ret (thn_r ?_)));obtain rfl := sinj h;exact end4 rfl rfl (show _ = .int .i64 (0) from rfl) (show _ = .int .i64 (0) from rfl) (show _ = .int .i64 (0) from rfl) (show _ = .int .i64 (y6.2) from rfl) ⟨_, hfr, _, _, _, _, rfl, rfl, rfl, rfl, rfl⟩
  ·refine E_cf aB rfl ?_
   exact E_skip (thn_n (yB () _ _ ⟨g8, hfr, rfl, q2, rfl, b8⟩ h))
 ·rintro _ dF rF ⟨lB, hfr, i6, o0, v8, t5⟩ h
  refine E_seq (E_region (EL_do .plain rfl (D_loadO (g := lB) Tryd.isAgg91 Tryd.sizeOf91 v8 t5 fun yD zD => ?_)));refine EL_do .plain rfl (D_load (g := lB) Tryd.isAgg63 Tryd.sizeOf63 i6 o0 fun aE bE => ?_);obtain ⟨l5, zB, h⟩ := bsome h;refine EL_do .plain rfl (D_call (g := lB) (vs := [yD, aE]) en31 (.cons rfl (.cons rfl .nil)) (wk31 zD bE zB) fun iE eF sF hs hr => ?_);have hfr := hfr.ext hs;have o0 := o0.ext hs;have t5 := t5.ext hs;subst hr;refine EL_at (.int .i64 (l5)) rfl rfl ?_;refine EL_nil (thn_n (E_seq (L_loadO0 (x := .tmp 8) Tryd.isAgg91 Tryd.sizeOf91 t5 fun nB lE cC => ?_)));have mE := PT_field (part_PayPiece_4).1 o0;refine L_load (x := .tmp 24) Tryd.isAgg3 Tryd.sizeOf3 mE fun tF oE uC => ?_;obtain rfl := RV_int.1 oE;obtain ⟨l8, vC, h⟩ := bsome h;refine L_loadO0 (x := .tmp 8) Tryd.isAgg91 Tryd.sizeOf91 t5 fun oB rE bD => ?_;refine L_load (x := .tmp 3) Tryd.isAgg63 Tryd.sizeOf63 o0 fun vB uE cD => ?_;have vE := PT_field (part_PayPiece_4).1 o0;refine L_load (x := .tmp 29) Tryd.isAgg3 Tryd.sizeOf3 vE fun uF xE lD => ?_;obtain rfl := RV_int.1 xE;obtain ⟨n8, nD, h⟩ := bsome h;refine E_drawL (g := iE) (n := 15) [(5, (fun v g w => v = .int .i64 (l8))), (10, (fun v g w => v = .int .i64 (n8)))] [0, 1, 2, 3, 4, 5, 6, 7, 8, 9, 10, 11, 12, 13, 14] rfl mixed (by kernel_rfl) (⟨fun _ => up_eq _, fun _ => up_eq _, trivial⟩) ?_;refine L_p (.int .i64 (l5)) rfl rfl (P_move rfl) ?_;refine L_ld (c := nB) rfl rfl .plain (fun _ _ h => ⟨h.ch, fun b hb _ => h.below.block b hb⟩) cC v8 ?_;refine L_p (.int .i64 (l5)) rfl rfl (P_move rfl) ?_;refine L_p (fPtr p2 4) rfl rfl (P_fieldAddr at_63_4 i6 (PT.ptr o0)) ?_;refine L_ld (c := .int .i64 ((x1).Faults)) rfl rfl .plain (fun _ _ h => h.ch) uC rfl ?_;refine L_do (φ := fun v g w => v = .int .i64 (l8)) rfl rfl .plain (fun g w hd => D_call (g := g) (vs := [nB, .int .i64 (l5), .int .i64 ((x1).Faults)]) en32 (.cons rfl (.cons rfl (.cons rfl .nil))) (wk32 (lE.ext hd.1) vC) fun g' w' v hs hr => ⟨g', hs, hr⟩) (fun vF hv => ?_);obtain ⟨_, _, _, rfl⟩ := hv;refine L_ld (c := oB) rfl rfl .plain (fun _ _ h => ⟨h.ch, fun b hb _ => h.below.block b hb⟩) bD v8 ?_;refine L_ld (c := vB) rfl rfl .plain (fun _ _ h => h.ch) cD i6 ?_;refine L_p (fPtr p2 4) rfl rfl (P_fieldAddr at_63_4 i6 (PT.ptr o0)) ?_;refine L_ld (c := .int .i64 ((x1).Faults)) rfl rfl .plain (fun _ _ h => h.ch) lD rfl ?_;refine L_do (φ := fun v g w => v = .int .i64 (n8)) rfl rfl .plain (fun g w hd => D_call (g := g) (vs := [oB, vB, .int .i64 ((x1).Faults)]) en33 (.cons rfl (.cons rfl (.cons rfl .nil))) (wk33 (rE.ext hd.1) (uE.ext hd.1) nD) fun g' w' v hs hr => ⟨g', hs, hr⟩) (fun xF hv => ?_);obtain ⟨_, _, _, rfl⟩ := hv;refine L_p (.int .i64 (l5)) rfl rfl (P_assign rfl) ?_;refine L_p (.int .i64 (l8)) rfl rfl (P_assign rfl) ?_;refine L_p (.int .i64 (n8)) rfl rfl (P_assign rfl) ?_;refine L_p (.int .i64 (0)) rfl rfl (P_assign rfl) ?_;refine L_nl fun yF aG hs => ?_;have hfr := hfr.ext hs;clear hs;refine EL_nil (thn_n (E_ret ?_));obtain rfl := sinj h;exact end4 rfl rfl (show _ = .int .i64 (l5) from rfl) (show _ = .int .i64 (l8) from rfl) (show _ = .int .i64 (n8) from rfl) (show _ = .int .i64 (0) from rfl) ⟨_, hfr, _, _, _, _, rfl, rfl, rfl, rfl, rfl⟩
end Go.Proofs.YticdblhibbaojaaDoor
