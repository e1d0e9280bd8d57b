import Derived.Test.YtnfjhdagbknlbaaCode5
set_option maxRecDepth 8000
set_option maxHeartbeats 4000000
namespace Go.Proofs.Ytnfjhdagbknlbaa
open Go.RowKit
def f9 (x0 : Hall) (x1 : Vector UInt8 7) (x2 : Vector UInt8 4) : Option (Bool) :=
 (f39 x0).bind fun y6 =>
 Option.bind (α := (List LoomOrder)) (
  lp (σ := (List LoomOrder) × Int) (fun yM (jB, j6) =>
   jn (σ := Unit) (fun _ =>
    Option.bind (α := (List LoomOrder)) (
     (idx jB j6).bind fun y125 =>
     (idx (x1).toList j6).bind fun iF =>
     (rem64 ((iF).toNat : Int) (20 : Int)).bind fun y132 =>
     (idx jB j6).bind fun xI =>
     some ((List.set jB (Int.toNat j6) ({ xI with Late := (max64 (0 : Int) (w64 ((y125).Late - y132))) })))
     ) fun mD =>
    yM (mD, (w64 (j6 + (1 : Int))))
    ) fun zM =>
   bif (decide (j6 < ((jB).length : Int))) then
    zM ()
   else
    some (jB)
   ) big (y6.2.1, (0 : Int))
  ) fun v8 =>
 (f15 (y6.1)).bind fun yI =>
 (f16 v8).bind fun zI =>
 (f24 yI zI).bind fun y168 =>
 jn (σ := Unit) (fun _ =>
  (f15 (y6.1)).bind fun y175 =>
  (f15 (y6.1)).bind fun mB =>
  (f16 v8).bind fun y180 =>
  (f16 v8).bind fun nB =>
  Option.bind (α := LoomMill) (
   bif (decide ((((y175).Widths).length : Int) < (3 : Int))) then
    (idx (x2).toList (0 : Int)).bind fun nG =>
    (rem64 ((nG).toNat : Int) (30 : Int)).bind fun cE =>
    (apnd 8 ((y175).Widths) (([(w64 ((1 : Int) + cE))] : List Int))).bind fun oG =>
    some (({ (({ y175 with Widths := [] } : LoomMill)) with Widths := oG } : LoomMill))
   else
    (idx (x2).toList (0 : Int)).bind fun nF =>
    (rem64 ((nF).toNat : Int) (3 : Int)).bind fun eC =>
    (idx ((y175).Widths) eC).bind fun dE =>
    (idx (x2).toList (1 : Int)).bind fun oF =>
    (rem64 ((oF).toNat : Int) (9 : Int)).bind fun eE =>
    some (({ y175 with Widths := (List.set ((y175).Widths) (Int.toNat eC) (w64 (dE + eE))) } : LoomMill))
   ) fun eD =>
  (idx (x2).toList (1 : Int)).bind fun sG =>
  (rem64 ((sG).toNat : Int) (4 : Int)).bind fun iE =>
  Option.bind (α := (List LoomOrder) × (List LoomOrder)) (
   bif (decide (((v8).length : Int) > (0 : Int))) then
    (idx (x2).toList (2 : Int)).bind fun tG =>
    (rem64 ((tG).toNat : Int) ((v8).length : Int)).bind fun d7 =>
    (cut y180 0 d7).bind fun aJ =>
    (cut y180 (w64 (d7 + (1 : Int))) ((y180).length : Int)).bind fun bJ =>
    (cutFit y180 aJ bJ).bind fun cJ =>
    (idx nB d7).bind fun jE =>
    (idx (x2).toList (3 : Int)).bind fun pF =>
    (rem64 ((pF).toNat : Int) (7 : Int)).bind fun kE =>
    (idx nB d7).bind fun sE =>
    (idx (x2).toList (3 : Int)).bind fun qF =>
    (quo64 ((qF).toNat : Int) (7 : Int)).bind fun uG =>
    (rem64 uG (9 : Int)).bind fun tE =>
    (idx nB d7).bind fun vG =>
    (idx ((List.set nB (Int.toNat d7) ({ vG with Early := (max64 (0 : Int) (w64 ((jE).Early - kE))) }))) d7).bind fun dJ =>
    some (cJ, (List.set ((List.set nB (Int.toNat d7) ({ vG with Early := (max64 (0 : Int) (w64 ((jE).Early - kE))) }))) (Int.toNat d7) ({ dJ with Late := (min64 (300 : Int) (w64 ((sE).Late + tE))) })))
   else
    some (y180, nB)
   ) fun (lE, mE) =>
  (f16 v8).bind fun nE =>
  (f24 eD nE).bind fun m7 =>
  (f16 v8).bind fun oE =>
  (f24 ({ mB with Change := (max64 (0 : Int) (w64 ((mB).Change - iE))) }) oE).bind fun i7 =>
  (f15 (y6.1)).bind fun eJ =>
  (f24 eJ lE).bind fun l9 =>
  (f15 (y6.1)).bind fun gJ =>
  (f24 gJ mE).bind fun n9 =>
  Option.bind (α := Bool) (
   bif (m7.2 == (0 : Int)) then
    bif (i7.2 == (0 : Int)) then
     bif (l9.2 == (0 : Int)) then
      bif (n9.2 == (0 : Int)) then
       bif (decide ((((m7.1 : List Int)).length : Int) ≤ ((y168.1).length : Int))) then
        bif (decide ((((i7.1 : List Int)).length : Int) ≤ ((y168.1).length : Int))) then
         bif (decide (((l9.1).length : Int) ≤ ((y168.1).length : Int))) then
          bif (decide (((n9.1).length : Int) ≤ ((y168.1).length : Int))) then
           (f14).bind fun rF =>
           some (rF)
          else
           some (false)
         else
          some (false)
        else
         some (false)
       else
        some (false)
      else
       some (false)
     else
      some (false)
    else
     some (false)
   else
    some (false)
   ) fun nD =>
  some (nD)
  ) fun iJ =>
 bif (y168.2 != (0 : Int)) then
  some (false)
 else
  iJ ()
theorem wk9 {gI : Gh} {wI : World} {x0 : Hall} {x1 : Vector UInt8 7} {x2 : Vector UInt8 4} {up0 : Value} (rp0 : RV gI.m wI x0 up0) {up1 : Value} (rp1 : RV gI.m wI x1 up1) {up2 : Value} (rp2 : RV gI.m wI x2 up2) {r : Bool} (h : f9 x0 x1 x2 = some r) : Fn Try.prog 9 #[up0, up1, up2] gI wI (fun _ _ v => v = .bool (r)) := by
 unfold f9 at h
 refine fn_of_E Try.func9 rfl (Nat.le_of_ble_eq_true rfl) fun g0 hm hfr => ?_
 have rp0 : RV g0.m wI x0 up0 := hm ▸ rp0
 have rp1 : RV g0.m wI x1 up1 := hm ▸ rp1
 have rp2 : RV g0.m wI x2 up2 := hm ▸ rp2
 show E _ 230 none _ _ _ _ _
 refine E_seq (E_region (EL_do .plain rfl (D_box (g := g0) rfl rp0 fun g1 w1 p1 hs q1 => ?_)))
 have hfr := hfr.ext hs
 have rp1 := rp1.ext hs
 have rp2 := rp2.ext hs
 refine EL_do .plain rfl (D_box (g := g1) rfl rp1 fun g2 w2 p2 hs q2 => ?_)
 have hfr := hfr.ext hs
 have rp2 := rp2.ext hs
 have q1 := q1.ext hs
 refine EL_do .plain rfl (D_box (g := g2) rfl rp2 fun g3 w3 p3 hs q3 => ?_)
 have hfr := hfr.ext hs
 have q1 := q1.ext hs
 have q2 := q2.ext hs
 refine EL_at (.bool false) rfl rfl ?_
 refine EL_nil (thn_n (E_seq (E_region (EL_do .plain rfl (D_load (g := g3) Try.isAgg71 Try.sizeOf71 rfl q1 fun v4 r4 => ?_)))))
 obtain ⟨y6, yP, h⟩ := bsome h
 refine EL_do .plain rfl (D_callG (g := g3) (vs := [v4]) en39 (.cons rfl .nil) (v39_1 (iO := 9128) r4 yP) fun g5 w5_ v5 hs hr => ?_)
 have hfr := hfr.ext hs
 have q2 := q2.ext hs
 have q3 := q3.ext hs
 obtain ⟨xG, x6, yG, rfl, zG, hm5, uQ⟩ := hr
 refine EL_mw (.tuple #[xG, x6, yG]) rfl rfl ?_
 refine EL_p xG (P_extract rfl rfl) rfl ?_
 refine EL_p x6 (P_extract rfl rfl) rfl ?_
 refine EL_p yG (P_extract rfl rfl) rfl ?_
 refine EL_do .plain rfl (D_allocOc (g := g5) 2007 (⟨[], 0⟩ : LoomMill) Try.zeroValue24 (fun m w => ⟨_, (rep_two rep_nil rep_int), rfl⟩) fun g7 w7 p7 hs b7 cb => ?_)
 have hfr := hfr.stp hs
 have q2 := q2.stp hs
 have q3 := q3.stp hs
 have hm5 := hm5.stp hs rfl
 have zG := zG.stp hs
 have vQ : OSF 2007 60700 0 g7 w7 3 24 ([] : List Int) p7 := cb.osf (by rfl)
 clear cb
 refine EL_do .plain rfl (D_storeOc (g := g7) (v := xG) Try.sizeOf24 rfl b7 rfl zG fun g8 w8 hs b8 cb => ?_)
 clear cb
 have hfr := hfr.stp hs
 have q2 := q2.stp hs
 have q3 := q3.stp hs
 have hm5 := hm5.stp hs rfl
 refine EL_at x6 rfl rfl ?_
 refine EL_at yG rfl rfl ?_
 refine EL_nil (thn_n ?_)
 obtain ⟨v8, hx, h⟩ := bsome h
 refine E_join (fun e w => ∃ (g : Gh) , Fr gI wI g w ∧ e 5 = p3 ∧ PT g.m w (x2 : Vector UInt8 4) p3 ∧ e 7 = p7 ∧ OB 2007 g w 24 (y6.1 : LoomMill) p7 ∧ e 8 = x6 ∧ OM 9128 g w 82 (v8 : List LoomOrder) x6) (fun Q' hQ => ?_) (fun eQ xQ hR => ?_)
 ·replace h := hx
  clear hx
  refine E_seq (E_region (EL_at (.int .i64 (0)) rfl rfl ?_))
  refine EL_nil (thn_n (E_block ?_))
  refine E_lp h (fun (s : (List LoomOrder) × Int) e w => ∃ (g : Gh) , Fr gI wI g w ∧ e 4 = p2 ∧ PT g.m w (x1 : Vector UInt8 7) p2 ∧ e 5 = p3 ∧ PT g.m w (x2 : Vector UInt8 4) p3 ∧ e 7 = p7 ∧ OB 2007 g w 24 (y6.1 : LoomMill) p7 ∧ e 8 = x6 ∧ OM 9128 g w 82 (s.1 : List LoomOrder) x6 ∧ e 10 = .int .i64 (s.2)) ⟨g8, hfr, rfl, q2, rfl, q3, rfl, b8, rfl, hm5, rfl⟩ (fun X85 yM dN => ?_)
  rintro ⟨jB, j6⟩ yQ sT ⟨bN, hfr, sK, tK, pH, qH, sH, tH, sF, tF, hG⟩ h
  refine E_joinC h (fun (s : Unit) e w => ∃ (g : Gh) , Fr gI wI g w ∧ e 4 = p2 ∧ PT g.m w (x1 : Vector UInt8 7) p2 ∧ e 5 = p3 ∧ PT g.m w (x2 : Vector UInt8 4) p3 ∧ e 7 = p7 ∧ OB 2007 g w 24 (y6.1 : LoomMill) p7 ∧ e 8 = x6 ∧ OM 9128 g w 82 (jB : List LoomOrder) x6 ∧ e 10 = .int .i64 (j6)) (fun X88 zM eN h => ?_) ?_
  ·refine E_seq (E_region (EL_mv hG rfl ?_))
   refine EL_mv sF rfl ?_
   refine EL_p (.int .i64 ((jB).length : Int)) (P_lenM Try.underlying25 rfl tF) rfl ?_
   refine EL_in (.bool ((decide (j6 < ((jB).length : Int))))) rfl rfl rfl rfl ?_
   refine EL_nil (thn_n ?_)
   rcases csome h with ⟨aH, h⟩ | ⟨aH, h⟩
   ·refine E_ct aH rfl ?_
    exact E_skip (thn_n (eN () _ _ ⟨bN, hfr, sK, tK, pH, qH, sH, tH, sF, tF, hG⟩ h))
   ·refine E_cf aH rfl ?_
    refine E_exit ?_
    refine thn_e ?_
    refine thn_e ?_
    refine blk_hit ?_
    obtain rfl := sinj h
    exact hQ _ _ ⟨bN, hfr, pH, qH, sH, tH, sF, tF⟩
  ·rintro _ zQ tT ⟨zP, hfr, uH, mC, uK, oD, vK, sD, uF, tB, tD⟩ h
   obtain ⟨mD, hx, h⟩ := bsome h
   refine E_join (fun e w => ∃ (g : Gh) , Fr gI wI g w ∧ e 4 = p2 ∧ PT g.m w (x1 : Vector UInt8 7) p2 ∧ e 5 = p3 ∧ PT g.m w (x2 : Vector UInt8 4) p3 ∧ e 7 = p7 ∧ OB 2007 g w 24 (y6.1 : LoomMill) p7 ∧ e 8 = x6 ∧ OM 9128 g w 82 (mD : List LoomOrder) x6 ∧ e 10 = .int .i64 (j6)) (fun Q' hQ => ?_) (fun gQ aR hR => ?_)
   ·replace h := hx
    clear hx
    refine E_block ?_
    obtain ⟨y125, vF, h⟩ := bsome h
    obtain ⟨pb127, po127, pe127⟩ := OM.ptrE (k := 5) tB vF
    refine L_loadMF (x := .tmp 43) part_LoomOrder_4.1 Try.isAgg3 Try.sizeOf3 tB vF fun bR gN xK => ?_
    obtain rfl := RV_int.1 gN
    obtain ⟨iF, xH, h⟩ := bsome h
    have iN := PT_idxA mC xH
    refine L_load (x := .tmp 46) Try.isAgg5 Try.sizeOf5 iN fun cR jN yK => ?_
    obtain rfl := RV_u8.1 jN
    obtain ⟨y132, zK, h⟩ := bsome h
    obtain ⟨xI, xF, h⟩ := bsome h
    obtain ⟨pb135, po135, pe135⟩ := OM.ptrE (k := 5) tB xF
    refine E_drawL (g := zP) (n := 16) [] [0, 1, 2, 3, 4, 5, 6, 7, 8, 9, 10, 11, 12, 13, 14, 15] rfl mixed (by kernel_rfl) trivial ?_
    refine L_p x6 rfl rfl (P_move uF) ?_
    refine L_p (.int .i64 (j6)) rfl rfl (P_move tD) ?_
    refine L_p x6 rfl rfl (P_move uF) ?_
    refine L_p (.int .i64 (j6)) rfl rfl (P_move tD) ?_
    refine L_p (ePtr x6 j6 5) rfl rfl (P_indexAddrM (α := LoomOrder) Try.underlying25 Try.sizeOf82 rfl tB rfl vF) ?_
    refine L_p (fPtr (ePtr x6 j6 5) 4) rfl rfl (P_fieldAddr at_82_4 rfl ⟨_, _, pe127⟩) ?_
    refine L_ld (c := .int .i64 ((y125).Late)) rfl rfl .plain (fun _ _ h => ⟨h.ch, fun b hb _ => h.below.block b hb⟩) xK rfl ?_
    refine L_p (.int .i64 (j6)) rfl rfl (P_move tD) ?_
    refine L_p (fPtr p2 ((j6 : Int).toNat * 1)) rfl rfl (P_indexAddrA (α := UInt8) Try.underlying79 Try.sizeOf5 uH (PT.ptr mC) rfl xH) ?_
    refine L_ld (c := .int .u8 (UInt8.toNat (iF))) rfl rfl .plain (fun _ _ h => h.ch) yK rfl ?_
    refine L_p (.int .i64 (((iF).toNat : Int))) rfl rfl (P_u8int Try.underlying5 Try.underlying3 rfl) ?_
    refine L_p (.int .i64 (y132)) rfl rfl (P_int rfl rfl (congrArg (Option.map (Value.int .i64)) zK)) ?_
    refine L_p (.int .i64 ((w64 ((y125).Late - y132)))) rfl rfl (P_int rfl rfl rfl) ?_
    refine L_p (.int .i64 (max64 (0 : Int) (w64 ((y125).Late - y132)))) rfl rfl (P_max rfl rfl) ?_
    refine L_p (ePtr x6 j6 5) rfl rfl (P_indexAddrM (α := LoomOrder) Try.underlying25 Try.sizeOf82 rfl tB rfl xF) ?_
    refine L_p (fPtr (ePtr x6 j6 5) 4) rfl rfl (P_fieldAddr at_82_4 rfl ⟨_, _, pe135⟩) ?_
    refine L_nl fun kN dR hs => ?_
    have hfr := hfr.ext hs
    have mC := mC.ext hs
    have oD := oD.ext hs
    have sD := sD.ext hs
    have tB := tB.ext hs
    clear hs
    refine EL_do .plain rfl (D_storeMF (g := kN) part_LoomOrder_4 Try.sizeOf3 rfl tB xF rfl (RV_int.2 rfl) fun lN eR hs b158 => ?_)
    have hfr := hfr.stp hs
    have mC := mC.stp hs
    have oD := oD.stp hs
    have sD := sD.stp hs rfl
    refine EL_nil (blk_n ?_)
    obtain rfl := sinj h
    exact hQ _ _ ⟨lN, hfr, uH, mC, uK, oD, vK, sD, uF, b158, tD⟩
   ·clear hx
    obtain ⟨mN, hfr, jJ, kJ, lJ, mJ, nJ, oJ, pJ, qJ, nI⟩ := hR
    refine E_region (EL_mv nI rfl ?_)
    refine EL_in (.int .i64 ((w64 (j6 + (1 : Int))))) rfl rfl rfl rfl ?_
    refine EL_at (.int .i64 ((w64 (j6 + (1 : Int))))) rfl rfl ?_
    exact EL_nil (thn_n (dN (mD, (w64 (j6 + (1 : Int)))) _ _ ⟨mN, hfr, jJ, kJ, lJ, mJ, nJ, oJ, pJ, qJ, rfl⟩ h))
 ·clear hx
  obtain ⟨rJ, hfr, sJ, iA, iG, y9, jG, uE⟩ := hR
  refine E_seq (E_region (EL_do .plain rfl (D_loadO (g := rJ) Try.isAgg24 Try.sizeOf24 iG y9 fun nN oN => ?_)))
  obtain ⟨yI, aL, h⟩ := bsome h
  refine EL_do .plain rfl (D_call (g := rJ) (vs := [nN]) en15 (.cons rfl .nil) (wk15 oN aL) fun gR iQ pN hs hr => ?_)
  have hfr := hfr.ext hs
  have iA := iA.ext hs
  have y9 := y9.ext hs
  have uE := uE.ext hs
  have vE := hr
  refine EL_mv jG rfl ?_
  obtain ⟨gp164, hs, rp164⟩ := OM.pub uE
  have hfr := hfr.stp hs
  have iA := iA.stp hs
  have y9 := y9.stp hs rfl
  have vE := vE.stp hs
  obtain ⟨zI, bL, h⟩ := bsome h
  refine EL_do .plain rfl (D_call (g := gp164) (vs := [x6]) en16 (.cons rfl .nil) (wk16 rp164 bL) fun qN jQ rN hs hr => ?_)
  have hfr := hfr.ext hs
  have iA := iA.ext hs
  have y9 := y9.ext hs
  have rp164 := rp164.ext hs
  have vE := vE.ext hs
  have sN := hr
  obtain ⟨y168, dL, h⟩ := bsome h
  refine EL_do .plain rfl (D_call (g := qN) (vs := [pN, rN]) en24 (.cons rfl (.cons rfl .nil)) (wk24 vE sN dL) fun tN kQ iR hs hr => ?_)
  have hfr := hfr.ext hs
  have iA := iA.ext hs
  have y9 := y9.ext hs
  have rp164 := rp164.ext hs
  obtain ⟨d9, bQ, rfl, vJ, rfl⟩ := hr
  refine EL_mw (.tuple #[d9, .int .i64 (y168.2)]) rfl rfl ?_
  refine EL_p d9 (P_extract rfl rfl) rfl ?_
  refine EL_p (.int .i64 (y168.2)) (P_extract rfl rfl) rfl ?_
  refine EL_at d9 rfl rfl ?_
  refine EL_at (.int .i64 (y168.2)) rfl rfl ?_
  refine EL_nil (thn_n (E_joinC h (fun (s : Unit) e w => ∃ (g : Gh) , Fr gI wI g w ∧ e 5 = p3 ∧ PT g.m w (x2 : Vector UInt8 4) p3 ∧ e 7 = p7 ∧ OB 2007 g w 24 (y6.1 : LoomMill) p7 ∧ e 8 = x6 ∧ RV g.m w (v8 : List LoomOrder) x6 ∧ e 11 = d9 ∧ RV g.m w (y168.1 : List Int) d9) (fun X170 iJ eL h => ?_) ?_))
  ·refine E_seq (E_region (EL_mw (.int .i64 (y168.2)) rfl rfl ?_))
   refine EL_in (.bool ((y168.2 != (0 : Int)))) rfl rfl rfl rfl ?_
   refine EL_nil (thn_n ?_)
   rcases csome h with ⟨yF, h⟩ | ⟨yF, h⟩
   ·refine E_ct yF rfl ?_
    refine E_seq (E_region (EL_at (.bool false) rfl rfl ?_))
    refine EL_nil (thn_n (E_ret (thn_r ?_)))
    obtain rfl := sinj h
    exact end1 rfl rfl (show _ = .bool false from rfl) ⟨_, hfr, rfl⟩
   ·refine E_cf yF rfl ?_
    exact E_skip (thn_n (eL () _ _ ⟨tN, hfr, sJ, iA, iG, y9, jG, rp164, rfl, vJ⟩ h))
  ·rintro _ lQ jR ⟨uN, hfr, cD, o0, uD, l5, vD, t5, cF, u3⟩ h
   refine E_seq (L_loadO0 (x := .tmp 7) Try.isAgg24 Try.sizeOf24 l5 fun xJ vN gL => ?_)
   obtain ⟨y175, iL, h⟩ := bsome h
   refine L_loadO0 (x := .tmp 7) Try.isAgg24 Try.sizeOf24 l5 fun yJ xN jL => ?_
   obtain ⟨mB, lL, h⟩ := bsome h
   obtain ⟨y180, mL, h⟩ := bsome h
   obtain ⟨nB, nL, h⟩ := bsome h
   refine E_drawL (g := uN) (n := 10) [(1, (fun v g w => OWx ow_LoomMill 4065 g w y175 v)), (3, (fun v g w => RV g.m w mB v)), (5, (fun v g w => OM 9069 g w 82 y180 v)), (7, (fun v g w => OM 9071 g w 82 nB v)), (8, (fun v g w => OB 2013 g w 24 (⟨[], 0⟩ : LoomMill) v)), (9, (fun v g w => OB 2014 g w 24 (⟨[], 0⟩ : LoomMill) v))] [0, 1, 2, 3, 4, 5, 6, 7, 8, 9] rfl mixed (by kernel_rfl) (⟨fun _ => up_owx, fun _ => up_rv, fun _ => up_om, fun _ => up_om, fun _ => up_ob, fun _ => up_ob, trivial⟩) ?_
   refine L_ld (c := xJ) rfl rfl .plain (fun _ _ h => ⟨h.ch, fun b hb _ => h.below.block b hb⟩) gL uD ?_
   refine L_do (φ := fun v g w => OWx ow_LoomMill 4065 g w y175 v) rfl rfl .plain (fun g w hd => D_callG (g := g) (vs := [xJ]) en15 (.cons rfl .nil) (W15 (iO := 4065) (vN.ext hd.1) iL) fun g' w' v hs hr => ⟨g', hs, hr⟩) (fun yN hv => ?_)
   clear hv
   refine L_ld (c := yJ) rfl rfl .plain (fun _ _ h => ⟨h.ch, fun b hb _ => h.below.block b hb⟩) jL uD ?_
   refine L_do (φ := fun v g w => RV g.m w mB v) rfl rfl .plain (fun g w hd => D_call (g := g) (vs := [yJ]) en15 (.cons rfl .nil) (wk15 (xN.ext hd.1) lL) fun g' w' v hs hr => ⟨g', hs, hr⟩) (fun zJ hv => ?_)
   obtain ⟨_, _, _, rq177⟩ := hv
   refine L_p x6 rfl rfl (P_move vD) ?_
   refine L_do (φ := fun v g w => OM 9069 g w 82 y180 v) rfl rfl .plain (fun g w hd => D_callG (g := g) (vs := [x6]) en16 (.cons rfl .nil) (v16_0 (iO := 9069) (t5.ext hd.1) mL) fun g' w' v hs hr => ⟨g', hs, hr⟩) (fun qC hv => ?_)
   clear hv
   refine L_p x6 rfl rfl (P_move vD) ?_
   refine L_do (φ := fun v g w => OM 9071 g w 82 nB v) rfl rfl .plain (fun g w hd => D_callG (g := g) (vs := [x6]) en16 (.cons rfl .nil) (v16_0 (iO := 9071) (t5.ext hd.1) nL) fun g' w' v hs hr => ⟨g', hs, hr⟩) (fun k9 hv => ?_)
   clear hv
   refine L_do (φ := fun v g w => OB 2013 g w 24 (⟨[], 0⟩ : LoomMill) v) rfl rfl .plain (fun g w hd => D_allocX (g := g) 2013 (⟨[], 0⟩ : LoomMill) Try.zeroValue24 (fun m w => ⟨_, (rep_two rep_nil rep_int), rfl⟩) fun g' w' v hs b => ⟨g', hs, b⟩) (fun zN hv => ?_)
   clear hv
   refine L_do (φ := fun v g w => OB 2014 g w 24 (⟨[], 0⟩ : LoomMill) v) rfl rfl .plain (fun g w hd => D_allocX (g := g) 2014 (⟨[], 0⟩ : LoomMill) Try.zeroValue24 (fun m w => ⟨_, (rep_two rep_nil rep_int), rfl⟩) fun g' w' v hs b => ⟨g', hs, b⟩) (fun lD hv => ?_)
   clear hv
   refine L_nil fun aO lR hall => ?_
   have hs := hall.1
   have hfr := hfr.ext hs
   have o0 := o0.ext hs
   have l5 := l5.ext hs
   have t5 := t5.ext hs
   have u3 := u3.ext hs
   obtain ⟨sk191, ow191, ok191⟩ := (word_all (A := fun g w => OWx ow_LoomMill 4065 g w y175 yN) 1 rfl hall)
   have xE := (word_all (A := fun g w => RV g.m w mB zJ) 3 rfl hall)
   have b195 := (word_all (A := fun g w => OM 9069 g w 82 y180 qC) 5 rfl hall)
   have b197 := (word_all (A := fun g w => OM 9071 g w 82 nB k9) 7 rfl hall)
   have b198 := (word_all (A := fun g w => OB 2013 g w 24 (⟨[], 0⟩ : LoomMill) zN) 8 rfl hall)
   have b199 := (word_all (A := fun g w => OB 2014 g w 24 (⟨[], 0⟩ : LoomMill) lD) 9 rfl hall)
   clear hs hall
   refine EL_do .plain rfl (D_storeOW (g := aO) Try.sizeOf24 rfl b198 rfl ow191 rfl fun gj200 bO mR bk200 hsa hsb hpp b200 => ?_)
   have hfr := hfr.stp hsa
   have o0 := o0.stp hsa
   have l5 := l5.stp hsa rfl
   have t5 := t5.stp hsa
   have u3 := u3.stp hsa
   have xE := xE.stp hsa
   have b195 := b195.stp hsa rfl
   have b197 := b197.stp hsa rfl
   have b199 := b199.stp hsa rfl
   have hfr := hfr.stp hsb
   have o0 := o0.stp hsb
   have l5 := l5.stp hsb rfl
   have t5 := t5.stp hsb
   have u3 := u3.stp hsb
   have xE := xE.stp hsb
   have b195 := b195.stp hsb rfl
   have b197 := b197.stp hsb rfl
   have b199 := b199.stp hsb rfl
   clear hsa hsb
   subst hpp
   refine EL_do .plain rfl (D_storeOc (g := bO) (v := zJ) Try.sizeOf24 rfl b199 rfl xE fun yE nR hs b201 cb => ?_)
   clear cb
   have hfr := hfr.stp hs
   have o0 := o0.stp hs
   have l5 := l5.stp hs rfl
   have t5 := t5.stp hs
   have u3 := u3.stp hs
   have b195 := b195.stp hs rfl
   have b197 := b197.stp hs rfl
   have b200 := b200.stp hs rfl
   refine EL_at qC rfl rfl ?_
   refine EL_at k9 rfl rfl ?_
   refine EL_nil (thn_n ?_)
   obtain ⟨eD, hx, h⟩ := bsome h
   refine E_join (fun e w => ∃ (g : Gh) , Fr gI wI g w ∧ e 5 = p3 ∧ PT g.m w (x2 : Vector UInt8 4) p3 ∧ e 7 = p7 ∧ OB 2007 g w 24 (y6.1 : LoomMill) p7 ∧ e 8 = x6 ∧ RV g.m w (v8 : List LoomOrder) x6 ∧ e 11 = d9 ∧ RV g.m w (y168.1 : List Int) d9 ∧ e 13 = (Value.pointer (some ⟨bk200, 0, none⟩)) ∧ OVb ow_LoomMill 2013 g w 24 (eD : LoomMill) bk200 ∧ e 14 = lD ∧ OB 2014 g w 24 (mB : LoomMill) lD ∧ e 15 = qC ∧ OM 9069 g w 82 (y180 : List LoomOrder) qC ∧ e 16 = k9 ∧ OM 9071 g w 82 (nB : List LoomOrder) k9) (fun Q' hQ => ?_) (fun mQ oR hR => ?_)
   ·replace h := hx
    clear hx
    refine E_seq (E_region (EL_p ((.pointer (some ⟨bk200, (0 + 0), none⟩))) (P_fieldAddrH at_24_0 rfl) rfl ?_))
    refine EL_do .plain rfl (D_loadH (g := yE) (Cxt.fld (Cxt.root ow_LoomMill bk200) fl_LoomMill_0 (y175) (sk191)) rfl rfl (ok191.1) Try.isAgg22 rfl b200 ?_)
    have hz277 := (OV.slice b200 (Cxt.fld (Cxt.root ow_LoomMill bk200) fl_LoomMill_0 (y175) (sk191)) rfl rfl (ok191.1)).1
    refine EL_p (.int .i64 (((y175).Widths).length : Int)) (P_lenH Try.underlying22 rfl hz277) rfl ?_
    refine EL_p (.bool ((decide ((((y175).Widths).length : Int) < (3 : Int))))) (P_int rfl rfl rfl) rfl ?_
    refine EL_nil (thn_n ?_)
    rcases csome h with ⟨zF, h⟩ | ⟨zF, h⟩
    ·refine E_ct zF rfl ?_
     refine E_region (EL_p ((.pointer (some ⟨bk200, (0 + 0), none⟩))) (P_fieldAddrH at_24_0 rfl) rfl ?_)
     refine EL_do .plain rfl (D_loadH (g := yE) (Cxt.fld (Cxt.root ow_LoomMill bk200) fl_LoomMill_0 (y175) (sk191)) rfl rfl (ok191.1) Try.isAgg22 rfl b200 ?_)
     obtain ⟨nG, yH, h⟩ := bsome h
     refine EL_p (fPtr p3 (((0 : Int) : Int).toNat * 1)) (P_indexAddrA (α := UInt8) Try.underlying86 Try.sizeOf5 cD (PT.ptr o0) rfl yH) rfl ?_
     have cO := PT_idxA o0 yH
     refine EL_do .plain rfl (D_load (g := yE) Try.isAgg5 Try.sizeOf5 rfl cO fun pR dO => ?_)
     obtain rfl := RV_u8.1 dO
     refine EL_p (.int .i64 (((nG).toNat : Int))) (P_u8int Try.underlying5 Try.underlying3 rfl) rfl ?_
     obtain ⟨cE, oL, h⟩ := bsome h
     refine EL_p (.int .i64 (cE)) (P_int rfl rfl (congrArg (Option.map (Value.int .i64)) oL)) rfl ?_
     refine EL_in (.int .i64 ((w64 ((1 : Int) + cE)))) rfl rfl rfl rfl ?_
     refine EL_do .plain rfl (D_buildSlice (g := yE) 3083 (xs := ([(w64 ((1 : Int) + cE))] : List Int)) (vs := [.int .i64 ((w64 ((1 : Int) + cE)))]) Try.underlying22 Try.sizeOf3 Try.zeroValue3 rfl rfl (.cons rfl .nil) (RVs.cons (RV_int.2 rfl) RVs.nil) rfl rfl fun qR eO rR hs o286 cH hxt hfl => ?_)
     have hfr := hfr.stp hs
     have o0 := o0.stp hs
     have l5 := l5.stp hs rfl
     have t5 := t5.stp hs
     have u3 := u3.stp hs
     have b200 := b200.stp hs rfl
     have b201 := b201.stp hs rfl
     have b195 := b195.stp hs rfl
     have b197 := b197.stp hs rfl
     obtain ⟨gt287, hs, b287, wt287⟩ := OV.take b200 (Cxt.fld (Cxt.root ow_LoomMill bk200) fl_LoomMill_0 (y175) (sk191)) rfl rfl (ok191.1) 704287 rfl
     have oa287 := OW.toA wt287 (ok191.1)
     clear wt287
     have hfr := hfr.stp hs
     have o0 := o0.stp hs
     have l5 := l5.stp hs rfl
     have t5 := t5.stp hs
     have u3 := u3.stp hs
     have b201 := b201.stp hs rfl
     have b195 := b195.stp hs rfl
     have b197 := b197.stp hs rfl
     have cH := cH.stp hs
     replace b287 : OV ow_LoomMill 2013 gt287 eO 24 (({ y175 with Widths := [] } : LoomMill) : LoomMill) bk200 (Sl.hole, Prod.snd sk191) := b287
     obtain ⟨oG, pL, h⟩ := bsome h
     refine EL_do .plain rfl (D_appendA (g := gt287) plain_int (i := 704287) Try.underlying22 info_3 rfl rfl oa287 rfl cH pL fun gO tR uR hs b288 => ?_)
     have hfr := hfr.stp hs
     have o0 := o0.stp hs
     have l5 := l5.stp hs rfl
     have t5 := t5.stp hs
     have u3 := u3.stp hs
     have b287 := b287.stp hs rfl
     have b201 := b201.stp hs rfl
     have b195 := b195.stp hs rfl
     have b197 := b197.stp hs rfl
     refine EL_p ((.pointer (some ⟨bk200, (0 + 0), none⟩))) (P_fieldAddrH at_24_0 rfl) rfl ?_
     obtain ⟨sk292, ow292, ok292⟩ := OA.toW b288
     refine EL_do .plain rfl (D_storeW (g := gO) (Cxt.fld (Cxt.root ow_LoomMill bk200) fl_LoomMill_0 (({ y175 with Widths := [] } : LoomMill)) ((Sl.hole, Prod.snd sk191))) rfl rfl Try.sizeOf22 rfl b287 rfl ow292 rfl fun gj293 aK jO hsa hsb b293 => ?_)
     have hfr := hfr.stp hsa
     have o0 := o0.stp hsa
     have l5 := l5.stp hsa rfl
     have t5 := t5.stp hsa
     have u3 := u3.stp hsa
     have b201 := b201.stp hsa rfl
     have b195 := b195.stp hsa rfl
     have b197 := b197.stp hsa rfl
     have hfr := hfr.stp hsb
     have o0 := o0.stp hsb
     have l5 := l5.stp hsb rfl
     have t5 := t5.stp hsb
     have u3 := u3.stp hsb
     have b201 := b201.stp hsb rfl
     have b195 := b195.stp hsb rfl
     have b197 := b197.stp hsb rfl
     clear hsa hsb
     replace b293 : OV ow_LoomMill 2013 aK jO 24 (({ (({ y175 with Widths := [] } : LoomMill)) with Widths := oG } : LoomMill) : LoomMill) bk200 (sk292, Prod.snd (Sl.hole, Prod.snd sk191)) := b293
     refine EL_nil ?_
     obtain rfl := sinj h
     exact hQ _ _ ⟨aK, hfr, cD, o0, uD, l5, vD, t5, cF, u3, rfl, ⟨_, b293, ⟨ok292, (ok191.2)⟩⟩, rfl, b201, rfl, b195, rfl, b197⟩
    ·refine E_cf zF rfl ?_
     refine L_loadH (x := .tmp 86) (Cxt.fld (Cxt.root ow_LoomMill bk200) fl_LoomMill_0 (y175) (sk191)) rfl rfl (ok191.1) Try.isAgg22 b200 fun qL => ?_
     obtain ⟨nF, zH, h⟩ := bsome h
     have kO := PT_idxA o0 zH
     refine L_load (x := .tmp 88) Try.isAgg5 Try.sizeOf5 kO fun vR lO rL => ?_
     obtain rfl := RV_u8.1 lO
     obtain ⟨eC, tL, h⟩ := bsome h
     obtain ⟨dE, rC, h⟩ := bsome h
     obtain ⟨bb302, cc302, ss302, hq302, aI⟩ := (OV.slice b200 (Cxt.fld (Cxt.root ow_LoomMill bk200) fl_LoomMill_0 (y175) (sk191)) rfl rfl (ok191.1)).2 rC
     refine L_loadV (x := .tmp 92) (Cxt.idx (Cxt.fld (Cxt.root ow_LoomMill bk200) fl_LoomMill_0 (y175) (sk191)) ((y175).Widths) (Int.toNat eC) bb302 cc302 ss302 (idx_nat rC).2 aI) ((congrArg (fun q => ({ y175 with Widths := q } : LoomMill)) (set_idx rC)).trans rfl) (((congrArg (fun q => ((Sl.at bb302 cc302 q), Prod.snd sk191)) set_unit).trans (congrArg (fun q => (q, Prod.snd sk191)) (hq302).symm)).trans rfl) Try.isAgg3 Try.sizeOf3 b200 fun xR mO uL => ?_
     obtain rfl := RV_int.1 mO
     obtain ⟨oF, bI, h⟩ := bsome h
     have nO := PT_idxA o0 bI
     refine L_load (x := .tmp 94) Try.isAgg5 Try.sizeOf5 nO fun yR oO vL => ?_
     obtain rfl := RV_u8.1 oO
     obtain ⟨eE, xL, h⟩ := bsome h
     refine E_drawL (g := yE) (n := 14) [] [0, 1, 2, 3, 4, 5, 6, 7, 8, 9, 10, 11, 12, 13] rfl mixed (by kernel_rfl) trivial ?_
     refine L_p ((.pointer (some ⟨bk200, (0 + 0), none⟩))) rfl rfl (P_fieldAddrH at_24_0 rfl) ?_
     refine L_ld (c := (hdrV (Prod.fst sk191) ((y175).Widths).length)) rfl rfl .plain (fun _ _ h => ⟨h.ch, fun b hb _ => h.below.block b hb⟩) qL rfl ?_
     refine L_p (fPtr p3 (((0 : Int) : Int).toNat * 1)) rfl rfl (P_indexAddrA (α := UInt8) Try.underlying86 Try.sizeOf5 cD (PT.ptr o0) rfl zH) ?_
     refine L_ld (c := .int .u8 (UInt8.toNat (nF))) rfl rfl .plain (fun _ _ h => h.ch) rL rfl ?_
     refine L_p (.int .i64 (((nF).toNat : Int))) rfl rfl (P_u8int Try.underlying5 Try.underlying3 rfl) ?_
     refine L_p (.int .i64 (eC)) rfl rfl (P_int rfl rfl (congrArg (Option.map (Value.int .i64)) tL)) ?_
     refine L_p ((.pointer (some ⟨bb302, ((Int.toNat eC) * 1), none⟩))) rfl rfl (P_indexH Try.underlying22 Try.sizeOf3 (rfl.trans (hdr_at hq302 _)) rfl (idx_nat rC)) ?_
     refine L_ld (c := .int .i64 (dE)) rfl rfl .plain (fun _ _ h => ⟨h.ch, fun b hb _ => h.below.block b hb⟩) uL rfl ?_
     refine L_p (fPtr p3 (((1 : Int) : Int).toNat * 1)) rfl rfl (P_indexAddrA (α := UInt8) Try.underlying86 Try.sizeOf5 cD (PT.ptr o0) rfl bI) ?_
     refine L_ld (c := .int .u8 (UInt8.toNat (oF))) rfl rfl .plain (fun _ _ h => h.ch) vL rfl ?_
     refine L_p (.int .i64 (((oF).toNat : Int))) rfl rfl (P_u8int Try.underlying5 Try.underlying3 rfl) ?_
     refine L_p (.int .i64 (eE)) rfl rfl (P_int rfl rfl (congrArg (Option.map (Value.int .i64)) xL)) ?_
     refine L_p (.int .i64 ((w64 (dE + eE)))) rfl rfl (P_int rfl rfl rfl) ?_
     refine L_p ((.pointer (some ⟨bb302, ((Int.toNat eC) * 1), none⟩))) rfl rfl (P_indexH Try.underlying22 Try.sizeOf3 (rfl.trans (hdr_at hq302 _)) rfl (idx_nat rC)) ?_
     refine L_nl fun pO zR hs => ?_
     have hfr := hfr.ext hs
     have o0 := o0.ext hs
     have l5 := l5.ext hs
     have t5 := t5.ext hs
     have u3 := u3.ext hs
     have b200 := b200.ext hs
     have b201 := b201.ext hs
     have b195 := b195.ext hs
     have b197 := b197.ext hs
     clear hs
     refine EL_do .plain rfl (D_storeOV (g := pO) (u' := ((w64 (dE + eE)) : Int)) (Cxt.idx (Cxt.fld (Cxt.root ow_LoomMill bk200) fl_LoomMill_0 (y175) (sk191)) ((y175).Widths) (Int.toNat eC) bb302 cc302 ss302 (idx_nat rC).2 aI) ((congrArg (fun q => ({ y175 with Widths := q } : LoomMill)) (set_idx rC)).trans rfl) (((congrArg (fun q => ((Sl.at bb302 cc302 q), Prod.snd sk191)) set_unit).trans (congrArg (fun q => (q, Prod.snd sk191)) (hq302).symm)).trans rfl) Try.sizeOf3 rfl b200 rfl (RV_int.2 rfl) fun bK qO hs b345 => ?_)
     have hfr := hfr.stp hs
     have o0 := o0.stp hs
     have l5 := l5.stp hs rfl
     have t5 := t5.stp hs
     have u3 := u3.stp hs
     have b201 := b201.stp hs rfl
     have b195 := b195.stp hs rfl
     have b197 := b197.stp hs rfl
     replace b345 : OV ow_LoomMill 2013 bK qO 24 (({ y175 with Widths := (List.set ((y175).Widths) (Int.toNat eC) (w64 (dE + eE))) } : LoomMill) : LoomMill) bk200 sk191 := b345
     refine EL_nil ?_
     obtain rfl := sinj h
     exact hQ _ _ ⟨bK, hfr, cD, o0, uD, l5, vD, t5, cF, u3, rfl, ⟨_, b345, ok191⟩, rfl, b201, rfl, b195, rfl, b197⟩
   ·clear hx
    obtain ⟨dH, hfr, xD, n8, kG, x8, yD, r8, dF, l8, eF, ⟨rO, m8, zE⟩, gD, iD, rE, bA, lB, i6⟩ := hR
    refine E_seq (E_region (EL_p (fPtr lD 1) (P_fieldAddr at_24_1 gD (OB.ptr iD)) rfl ?_))
    refine EL_do .plain rfl (D_loadF (g := dH) part_LoomMill_1.1 Try.isAgg3 Try.sizeOf3 rfl iD fun aS sO => ?_)
    obtain rfl := RV_int.1 sO
    obtain ⟨sG, dI, h⟩ := bsome h
    refine EL_p (fPtr p3 (((1 : Int) : Int).toNat * 1)) (P_indexAddrA (α := UInt8) Try.underlying86 Try.sizeOf5 xD (PT.ptr n8) rfl dI) rfl ?_
    have tO := PT_idxA n8 dI
    refine EL_do .plain rfl (D_load (g := dH) Try.isAgg5 Try.sizeOf5 rfl tO fun bS uO => ?_)
    obtain rfl := RV_u8.1 uO
    refine EL_p (.int .i64 (((sG).toNat : Int))) (P_u8int Try.underlying5 Try.underlying3 rfl) rfl ?_
    obtain ⟨iE, yL, h⟩ := bsome h
    refine EL_p (.int .i64 (iE)) (P_int rfl rfl (congrArg (Option.map (Value.int .i64)) yL)) rfl ?_
    refine EL_in (.int .i64 ((w64 ((mB).Change - iE)))) rfl rfl rfl rfl ?_
    refine EL_p (.int .i64 (max64 (0 : Int) (w64 ((mB).Change - iE)))) (P_max rfl rfl) rfl ?_
    refine EL_p (fPtr lD 1) (P_fieldAddr at_24_1 gD (OB.ptr iD)) rfl ?_
    refine EL_do .plain rfl (D_storeFc (g := dH) part_LoomMill_1 Try.sizeOf3 rfl iD rfl (RV_int.2 rfl) fun gH cS hs b354 rst hos => ?_)
    clear rst hos
    have hfr := hfr.stp hs
    have n8 := n8.stp hs
    have x8 := x8.stp hs rfl
    have r8 := r8.stp hs
    have l8 := l8.stp hs
    have m8 := m8.stp hs rfl
    have bA := bA.stp hs rfl
    have i6 := i6.stp hs rfl
    refine EL_nil (thn_n ?_)
    obtain ⟨⟨lE, mE⟩, hx, h⟩ := bsome h
    refine E_join (fun e w => ∃ (g : Gh) (cN : Value), Fr gI wI g w ∧ e 7 = p7 ∧ OB 2007 g w 24 (y6.1 : LoomMill) p7 ∧ e 8 = x6 ∧ RV g.m w (v8 : List LoomOrder) x6 ∧ e 11 = d9 ∧ RV g.m w (y168.1 : List Int) d9 ∧ e 13 = (Value.pointer (some ⟨bk200, 0, none⟩)) ∧ OVb ow_LoomMill 2013 g w 24 (eD : LoomMill) bk200 ∧ e 14 = lD ∧ OB 2014 g w 24 ({ mB with Change := (max64 (0 : Int) (w64 ((mB).Change - iE))) } : LoomMill) lD ∧ e 15 = cN ∧ OM 9069 g w 82 (lE : List LoomOrder) cN ∧ e 16 = k9 ∧ OM 9071 g w 82 (mE : List LoomOrder) k9) (fun Q' hQ => ?_) (fun nQ dS hR => ?_)
    ·replace h := hx
     clear hx
     refine E_seq (E_region (EL_mv yD rfl ?_))
     refine EL_p (.int .i64 ((v8).length : Int)) (P_len Try.underlying25 rfl r8) rfl ?_
     refine EL_in (.bool ((decide (((v8).length : Int) > (0 : Int))))) rfl rfl rfl rfl ?_
     refine EL_nil (thn_n ?_)
     rcases csome h with ⟨aG, h⟩ | ⟨aG, h⟩
     ·refine E_ct aG rfl ?_
      refine E_seq (E_region ?_)
      obtain ⟨tG, iI, h⟩ := bsome h
      refine EL_p (fPtr p3 (((2 : Int) : Int).toNat * 1)) (P_indexAddrA (α := UInt8) Try.underlying86 Try.sizeOf5 xD (PT.ptr n8) rfl iI) rfl ?_
      have vO := PT_idxA n8 iI
      refine EL_do .plain rfl (D_load (g := gH) Try.isAgg5 Try.sizeOf5 rfl vO fun eS xO => ?_)
      obtain rfl := RV_u8.1 xO
      refine EL_p (.int .i64 (((tG).toNat : Int))) (P_u8int Try.underlying5 Try.underlying3 rfl) rfl ?_
      refine EL_mv yD rfl ?_
      refine EL_p (.int .i64 ((v8).length : Int)) (P_len Try.underlying25 rfl r8) rfl ?_
      obtain ⟨d7, zL, h⟩ := bsome h
      refine EL_p (.int .i64 (d7)) (P_int rfl rfl (congrArg (Option.map (Value.int .i64)) zL)) rfl ?_
      refine EL_at (.int .i64 (d7)) rfl rfl ?_
      refine EL_nil (thn_n (E_seq ?_))
      obtain ⟨aJ, jI, h⟩ := bsome h
      obtain ⟨bJ, kI, h⟩ := bsome h
      refine E_drawL (g := gH) (n := 7) [] [0, 1, 2, 3, 4, 5, 6] rfl mixed (by kernel_rfl) trivial ?_
      refine L_p qC rfl rfl (P_move rE) ?_
      refine L_p (.int .i64 (d7)) rfl rfl (P_move rfl) ?_
      refine L_p ((cutV qC 0 (Int.toNat d7) 5)) rfl rfl (P_cutM (α := LoomOrder) Try.underlying25 Try.sizeOf82 rfl (OM.hdr bA) rfl rfl jI) ?_
      refine L_p qC rfl rfl (P_move rE) ?_
      refine L_p (.int .i64 (d7)) rfl rfl (P_move rfl) ?_
      refine L_p (.int .i64 ((w64 (d7 + (1 : Int))))) rfl rfl (P_int rfl rfl rfl) ?_
      refine L_p ((cutV qC (Int.toNat (w64 (d7 + (1 : Int)))) (Int.toNat ((y180).length : Int)) 5)) rfl rfl (P_cutM (α := LoomOrder) Try.underlying25 Try.sizeOf82 rfl (OM.hdr bA) rfl rfl kI) ?_
      refine L_nl fun yO gS hs => ?_
      have hfr := hfr.ext hs
      have n8 := n8.ext hs
      have x8 := x8.ext hs
      have r8 := r8.ext hs
      have l8 := l8.ext hs
      have m8 := m8.ext hs
      have b354 := b354.ext hs
      have bA := bA.ext hs
      have i6 := i6.ext hs
      clear hs
      obtain ⟨cJ, aM, h⟩ := bsome h
      refine EL_do .plain rfl (D_cutOut (g := yO) (α := LoomOrder) Try.underlying25 info_82 rfl bA rfl jI kI aM fun cK zO dK hs b471 => ?_)
      have hfr := hfr.stp hs
      have n8 := n8.stp hs
      have x8 := x8.stp hs rfl
      have r8 := r8.stp hs
      have l8 := l8.stp hs
      have m8 := m8.stp hs rfl
      have b354 := b354.stp hs rfl
      have i6 := i6.stp hs rfl
      refine EL_at dK rfl rfl ?_
      refine EL_nil (thn_n ?_)
      obtain ⟨jE, bG, h⟩ := bsome h
      obtain ⟨pb480, po480, pe480⟩ := OM.ptrE (k := 5) i6 bG
      refine L_loadMF (x := .tmp 133) part_LoomOrder_3.1 Try.isAgg3 Try.sizeOf3 i6 bG fun iS aP bM => ?_
      obtain rfl := RV_int.1 aP
      obtain ⟨pF, lI, h⟩ := bsome h
      have iH := PT_idxA n8 lI
      refine L_load (x := .tmp 135) Try.isAgg5 Try.sizeOf5 iH fun jS bP cM => ?_
      obtain rfl := RV_u8.1 bP
      obtain ⟨kE, dM, h⟩ := bsome h
      obtain ⟨sE, cG, h⟩ := bsome h
      obtain ⟨pb488, po488, pe488⟩ := OM.ptrE (k := 5) i6 cG
      refine L_loadMF (x := .tmp 144) part_LoomOrder_4.1 Try.isAgg3 Try.sizeOf3 i6 cG fun lS cP eM => ?_
      obtain rfl := RV_int.1 cP
      obtain ⟨qF, mI, h⟩ := bsome h
      have jH := PT_idxA n8 mI
      refine L_load (x := .tmp 146) Try.isAgg5 Try.sizeOf5 jH fun mS dP iM => ?_
      obtain rfl := RV_u8.1 dP
      obtain ⟨uG, jM, h⟩ := bsome h
      obtain ⟨tE, kM, h⟩ := bsome h
      obtain ⟨vG, eG, h⟩ := bsome h
      obtain ⟨pb497, po497, pe497⟩ := OM.ptrE (k := 5) i6 eG
      refine E_drawE (g := cK) (w := zO) (n := 30) [0, 1, 2, 3, 4, 5, 6, 7, 9, 10, 11, 12, 13, 14, 15, 16, 17, 18, 20, 21, 22, 23, 24, 25, 26, 27, 28] [8, 19] [9071] [] 29 [0, 1, 2, 3, 4, 5, 6, 7, 8, 9, 10, 11, 12, 13, 14, 15, 16, 17, 18, 19, 20, 21, 22, 23, 24, 25, 26, 27, 28, 29] rfl mixed (by kernel_rfl) rfl fun w_c477 hs hlt => ?_
      have hfr := hfr.ext hs
      have n8 := n8.ext hs
      have x8 := x8.ext hs
      have r8 := r8.ext hs
      have l8 := l8.ext hs
      have m8 := m8.ext hs
      have b354 := b354.ext hs
      have b471 := b471.ext hs
      have i6 := i6.ext hs
      clear hs
      refine CE_pur (c := k9) rfl rfl .plain (P_move lB) ?_
      refine CE_pur (c := .int .i64 (d7)) rfl rfl .plain (P_move rfl) ?_
      refine CE_pur (c := k9) rfl rfl .plain (P_move lB) ?_
      refine CE_pur (c := .int .i64 (d7)) rfl rfl .plain (P_move rfl) ?_
      refine CE_pur (c := k9) rfl rfl .plain (P_move lB) ?_
      refine CE_pur (c := .int .i64 (d7)) rfl rfl .plain (P_move rfl) ?_
      refine CE_pur (c := ePtr k9 d7 5) rfl rfl .plain (P_indexAddrM (α := LoomOrder) Try.underlying25 Try.sizeOf82 rfl i6 rfl bG) ?_
      refine CE_pur (c := fPtr (ePtr k9 d7 5) 3) rfl rfl .plain (P_fieldAddr at_82_3 rfl ⟨_, _, pe480⟩) ?_
      refine CE_ldO true (n := 9071) (c := .int .i64 ((jE).Early)) rfl rfl .plain bM rfl rfl ?_
      refine CE_pur (c := fPtr p3 (((3 : Int) : Int).toNat * 1)) rfl rfl .plain (P_indexAddrA (α := UInt8) Try.underlying86 Try.sizeOf5 xD (PT.ptr n8) rfl lI) ?_
      have iH := iH.ch hlt.1
      refine CE_ldP (c := .int .u8 (UInt8.toNat (pF))) rfl rfl .plain cM rfl ?_
      refine CE_pur (c := .int .i64 (((pF).toNat : Int))) rfl rfl .plain (P_u8int Try.underlying5 Try.underlying3 rfl) ?_
      refine CE_pur (c := .int .i64 (kE)) rfl rfl .plain (P_int rfl rfl (congrArg (Option.map (Value.int .i64)) dM)) ?_
      refine CE_pur (c := .int .i64 ((w64 ((jE).Early - kE)))) rfl rfl .plain (P_int rfl rfl rfl) ?_
      refine CE_pur (c := .int .i64 (max64 (0 : Int) (w64 ((jE).Early - kE)))) rfl rfl .plain (P_max rfl rfl) ?_
      refine CE_pur (c := k9) rfl rfl .plain (P_move lB) ?_
      refine CE_pur (c := .int .i64 (d7)) rfl rfl .plain (P_move rfl) ?_
      refine CE_pur (c := ePtr k9 d7 5) rfl rfl .plain (P_indexAddrM (α := LoomOrder) Try.underlying25 Try.sizeOf82 rfl i6 rfl cG) ?_
      refine CE_pur (c := fPtr (ePtr k9 d7 5) 4) rfl rfl .plain (P_fieldAddr at_82_4 rfl ⟨_, _, pe488⟩) ?_
      refine CE_ldO true (n := 9071) (c := .int .i64 ((sE).Late)) rfl rfl .plain eM rfl rfl ?_
      refine CE_pur (c := fPtr p3 (((3 : Int) : Int).toNat * 1)) rfl rfl .plain (P_indexAddrA (α := UInt8) Try.underlying86 Try.sizeOf5 xD (PT.ptr n8) rfl mI) ?_
      have jH := jH.ch hlt.1
      refine CE_ldP (c := .int .u8 (UInt8.toNat (qF))) rfl rfl .plain iM rfl ?_
      refine CE_pur (c := .int .i64 (((qF).toNat : Int))) rfl rfl .plain (P_u8int Try.underlying5 Try.underlying3 rfl) ?_
      refine CE_pur (c := .int .i64 (uG)) rfl rfl .plain (P_int rfl rfl (congrArg (Option.map (Value.int .i64)) jM)) ?_
      refine CE_pur (c := .int .i64 (tE)) rfl rfl .plain (P_int rfl rfl (congrArg (Option.map (Value.int .i64)) kM)) ?_
      refine CE_pur (c := .int .i64 ((w64 ((sE).Late + tE)))) rfl rfl .plain (P_int rfl rfl rfl) ?_
      refine CE_pur (c := .int .i64 (min64 (300 : Int) (w64 ((sE).Late + tE)))) rfl rfl .plain (P_min rfl rfl) ?_
      refine CE_pur (c := ePtr k9 d7 5) rfl rfl .plain (P_indexAddrM (α := LoomOrder) Try.underlying25 Try.sizeOf82 rfl i6 rfl eG) ?_
      refine CE_pur (c := fPtr (ePtr k9 d7 5) 3) rfl rfl .plain (P_fieldAddr at_82_3 rfl ⟨_, _, pe497⟩) ?_
      replace hlt := hlt.weak (U := []) rfl
      refine CE_do [] rfl rfl rfl .plain (D_storeMF (g := cK) part_LoomOrder_3 Try.sizeOf3 rfl i6 eG rfl (RV_int.2 rfl) fun eP nS hs b498 => ?_)
      have hfr := hfr.stp hs
      have hlt := hlt.stp hs
      have x8 := x8.stp hs rfl
      have r8 := r8.stp hs
      have l8 := l8.stp hs
      have m8 := m8.stp hs rfl
      have b354 := b354.stp hs rfl
      have b471 := b471.stp hs rfl
      refine ⟨hlt.toW, ?_⟩
      refine CE_nil ?_
      clear hlt
      obtain ⟨dJ, gG, h⟩ := bsome h
      refine EL_p (ePtr k9 d7 5) (P_indexAddrM (α := LoomOrder) Try.underlying25 Try.sizeOf82 rfl b498 rfl gG) rfl ?_
      obtain ⟨pb501, po501, pe501⟩ := OM.ptrE (k := 5) b498 gG
      refine EL_p (fPtr (ePtr k9 d7 5) 4) (P_fieldAddr at_82_4 rfl ⟨_, _, pe501⟩) rfl ?_
      refine EL_do .plain rfl (D_storeMF (g := eP) part_LoomOrder_4 Try.sizeOf3 rfl b498 gG rfl (RV_int.2 rfl) fun gP oS hs b502 => ?_)
      have hfr := hfr.stp hs
      have x8 := x8.stp hs rfl
      have r8 := r8.stp hs
      have l8 := l8.stp hs
      have m8 := m8.stp hs rfl
      have b354 := b354.stp hs rfl
      have b471 := b471.stp hs rfl
      refine EL_nil ?_
      obtain ⟨rfl, rfl⟩ := pairs2 h
      exact hQ _ _ ⟨gP, (dK), hfr, kG, x8, yD, r8, dF, l8, eF, ⟨_, m8, zE⟩, gD, b354, rfl, b471, lB, b502⟩
     ·refine E_cf aG rfl ?_
      refine E_skip ?_
      obtain ⟨rfl, rfl⟩ := pairs2 h
      exact hQ _ _ ⟨gH, (qC), hfr, kG, x8, yD, r8, dF, l8, eF, ⟨_, m8, zE⟩, gD, b354, rE, bA, lB, i6⟩
    ·clear hx
     obtain ⟨pS, pI, hfr, lG, a9, mG, vB, jD, x5, qI, ⟨iP, sI, kH⟩, tI, yB, uI, u9, vI, k8⟩ := hR
     refine E_seq ?_
     obtain ⟨go504, hs, b504⟩ := OV.toOB sI kH
     have hfr := hfr.stp hs
     have a9 := a9.stp hs rfl
     have vB := vB.stp hs
     have x5 := x5.stp hs
     have yB := yB.stp hs rfl
     have u9 := u9.stp hs rfl
     have k8 := k8.stp hs rfl
     clear hs
     refine L_loadO0 (x := .tmp 13) Try.isAgg24 Try.sizeOf24 b504 fun lK jP mM => ?_
     obtain ⟨nE, nM, h⟩ := bsome h
     obtain ⟨m7, oM, h⟩ := bsome h
     refine E_drawL (g := go504) (n := 9) [(2, (fun v g w => RV g.m w nE v)), (3, (fun v g w => ∃ y0 y1 : Value, v = .tuple #[y0, y1] ∧ RV g.m w (m7.1 : List Int) y0 ∧ y1 = .int .i64 (m7.2)))] [0, 1, 2, 3, 4, 5, 6, 7, 8] rfl mixed (by kernel_rfl) (⟨fun _ => up_rv, fun _ => (up_ex fun _ => (up_ex fun _ => (up_and (up_eq _) (up_and up_rv (up_eq _))))), trivial⟩) ?_
     refine L_ld (c := lK) rfl rfl .plain (fun _ _ h => ⟨h.ch, fun b hb _ => h.below.block b hb⟩) mM qI ?_
     refine L_p x6 rfl rfl (P_move mG) ?_
     refine L_do (φ := fun v g w => RV g.m w nE v) rfl rfl .plain (fun g w hd => D_call (g := g) (vs := [x6]) en16 (.cons rfl .nil) (wk16 (vB.ext hd.1) nM) fun g' w' v hs hr => ⟨g', hs, hr⟩) (fun lH hv => ?_)
     obtain ⟨_, _, _, rq506⟩ := hv
     refine L_do (φ := fun v g w => ∃ y0 y1 : Value, v = .tuple #[y0, y1] ∧ RV g.m w (m7.1 : List Int) y0 ∧ y1 = .int .i64 (m7.2)) rfl rfl .plain (fun g w hd => D_call (g := g) (vs := [lK, lH]) en24 (.cons rfl (.cons rfl .nil)) (wk24 (jP.ext hd.1) (word (A := fun g w => RV g.m w nE lH) 2 rfl rfl (deps_of hd)) oM) fun g' w' v hs hr => ⟨g', hs, hr⟩) (fun qS hv => ?_)
     obtain ⟨_, _, _, zB, _, rfl, vP, rfl⟩ := hv
     refine L_p (.tuple #[zB, .int .i64 (m7.2)]) rfl rfl (P_move rfl) ?_
     refine L_p zB rfl rfl (P_extract rfl rfl) ?_
     refine L_p (.int .i64 (m7.2)) rfl rfl (P_extract rfl rfl) ?_
     refine L_p zB rfl rfl (P_assign rfl) ?_
     refine L_p (.int .i64 (m7.2)) rfl rfl (P_assign rfl) ?_
     refine L_nil fun kP rS hall => ?_
     have hs := hall.1
     have hfr := hfr.ext hs
     have a9 := a9.ext hs
     have vB := vB.ext hs
     have x5 := x5.ext hs
     have yB := yB.ext hs
     have u9 := u9.ext hs
     have k8 := k8.ext hs
     have sS := (word_all (A := fun g w => RV g.m w nE lH) 2 rfl hall)
     have tS := (tup2_0 (word_all (A := fun g w => ∃ y0 y1 : Value, Value.tuple #[zB, .int .i64 (m7.2)] = .tuple #[y0, y1] ∧ RV g.m w (m7.1 : List Int) y0 ∧ y1 = .int .i64 (m7.2)) 3 rfl hall))
     have z9 := (tup2_0 (word_all (A := fun g w => ∃ y0 y1 : Value, Value.tuple #[zB, .int .i64 (m7.2)] = .tuple #[y0, y1] ∧ RV g.m w (m7.1 : List Int) y0 ∧ y1 = .int .i64 (m7.2)) 3 rfl hall))
     clear hs hall
     refine EL_nil (thn_n (E_seq (L_loadO0 (x := .tmp 14) Try.isAgg24 Try.sizeOf24 yB fun mK lP pM => ?_)))
     obtain ⟨oE, qM, h⟩ := bsome h
     obtain ⟨i7, rM, h⟩ := bsome h
     refine E_drawL (g := kP) (n := 9) [(2, (fun v g w => RV g.m w oE v)), (3, (fun v g w => ∃ y0 y1 : Value, v = .tuple #[y0, y1] ∧ RV g.m w (i7.1 : List Int) y0 ∧ y1 = .int .i64 (i7.2)))] [0, 1, 2, 3, 4, 5, 6, 7, 8] rfl mixed (by kernel_rfl) (⟨fun _ => up_rv, fun _ => (up_ex fun _ => (up_ex fun _ => (up_and (up_eq _) (up_and up_rv (up_eq _))))), trivial⟩) ?_
     refine L_ld (c := mK) rfl rfl .plain (fun _ _ h => ⟨h.ch, fun b hb _ => h.below.block b hb⟩) pM tI ?_
     refine L_p x6 rfl rfl (P_move mG) ?_
     refine L_do (φ := fun v g w => RV g.m w oE v) rfl rfl .plain (fun g w hd => D_call (g := g) (vs := [x6]) en16 (.cons rfl .nil) (wk16 (vB.ext hd.1) qM) fun g' w' v hs hr => ⟨g', hs, hr⟩) (fun mH hv => ?_)
     obtain ⟨_, _, _, rq528⟩ := hv
     refine L_do (φ := fun v g w => ∃ y0 y1 : Value, v = .tuple #[y0, y1] ∧ RV g.m w (i7.1 : List Int) y0 ∧ y1 = .int .i64 (i7.2)) rfl rfl .plain (fun g w hd => D_call (g := g) (vs := [mK, mH]) en24 (.cons rfl (.cons rfl .nil)) (wk24 (lP.ext hd.1) (word (A := fun g w => RV g.m w oE mH) 2 rfl rfl (deps_of hd)) rM) fun g' w' v hs hr => ⟨g', hs, hr⟩) (fun uS hv => ?_)
     obtain ⟨_, _, _, cC, _, rfl, xP, rfl⟩ := hv
     refine L_p (.tuple #[cC, .int .i64 (i7.2)]) rfl rfl (P_move rfl) ?_
     refine L_p cC rfl rfl (P_extract rfl rfl) ?_
     refine L_p (.int .i64 (i7.2)) rfl rfl (P_extract rfl rfl) ?_
     refine L_p cC rfl rfl (P_assign rfl) ?_
     refine L_p (.int .i64 (i7.2)) rfl rfl (P_assign rfl) ?_
     refine L_nil fun nK vS hall => ?_
     have hs := hall.1
     have hfr := hfr.ext hs
     have a9 := a9.ext hs
     have x5 := x5.ext hs
     have u9 := u9.ext hs
     have k8 := k8.ext hs
     have z9 := z9.ext hs
     have xS := (word_all (A := fun g w => RV g.m w oE mH) 2 rfl hall)
     have yS := (tup2_0 (word_all (A := fun g w => ∃ y0 y1 : Value, Value.tuple #[cC, .int .i64 (i7.2)] = .tuple #[y0, y1] ∧ RV g.m w (i7.1 : List Int) y0 ∧ y1 = .int .i64 (i7.2)) 3 rfl hall))
     have rA := (tup2_0 (word_all (A := fun g w => ∃ y0 y1 : Value, Value.tuple #[cC, .int .i64 (i7.2)] = .tuple #[y0, y1] ∧ RV g.m w (i7.1 : List Int) y0 ∧ y1 = .int .i64 (i7.2)) 3 rfl hall))
     clear hs hall
     refine EL_nil (thn_n (E_seq (E_region (EL_do .plain rfl (D_loadO (g := nK) Try.isAgg24 Try.sizeOf24 lG a9 fun mP nP => ?_)))))
     obtain ⟨eJ, sM, h⟩ := bsome h
     refine EL_do .plain rfl (D_call (g := nK) (vs := [mP]) en15 (.cons rfl .nil) (wk15 nP sM) fun zS oQ oP hs hr => ?_)
     have hfr := hfr.ext hs
     have a9 := a9.ext hs
     have x5 := x5.ext hs
     have u9 := u9.ext hs
     have k8 := k8.ext hs
     have z9 := z9.ext hs
     have rA := rA.ext hs
     have nH := hr
     refine EL_mv uI rfl ?_
     obtain ⟨gp561, hs, rp561⟩ := OM.pub u9
     have hfr := hfr.stp hs
     have a9 := a9.stp hs rfl
     have x5 := x5.stp hs
     have k8 := k8.stp hs rfl
     have z9 := z9.stp hs
     have rA := rA.stp hs
     have nH := nH.stp hs
     obtain ⟨l9, tM, h⟩ := bsome h
     refine EL_do .plain rfl (D_call (g := gp561) (vs := [oP, pI]) en24 (.cons rfl (.cons rfl .nil)) (wk24 nH rp561 tM) fun oK pQ eT hs hr => ?_)
     have hfr := hfr.ext hs
     have a9 := a9.ext hs
     have x5 := x5.ext hs
     have k8 := k8.ext hs
     have z9 := z9.ext hs
     have rA := rA.ext hs
     obtain ⟨zD, cQ, rfl, oB, rfl⟩ := hr
     refine EL_mw (.tuple #[zD, .int .i64 (l9.2)]) rfl rfl ?_
     refine EL_p zD (P_extract rfl rfl) rfl ?_
     refine EL_p (.int .i64 (l9.2)) (P_extract rfl rfl) rfl ?_
     refine EL_at zD rfl rfl ?_
     refine EL_at (.int .i64 (l9.2)) rfl rfl ?_
     refine EL_nil (thn_n (E_seq (E_region (EL_do .plain rfl (D_loadO (g := oK) Try.isAgg24 Try.sizeOf24 lG a9 fun pP sP => ?_)))))
     obtain ⟨gJ, uM, h⟩ := bsome h
     refine EL_do .plain rfl (D_call (g := oK) (vs := [pP]) en15 (.cons rfl .nil) (wk15 sP uM) fun lT qQ tP hs hr => ?_)
     have hfr := hfr.ext hs
     have x5 := x5.ext hs
     have k8 := k8.ext hs
     have z9 := z9.ext hs
     have rA := rA.ext hs
     have oB := oB.ext hs
     have oH := hr
     refine EL_mv vI rfl ?_
     obtain ⟨gp567, hs, rp567⟩ := OM.pub k8
     have hfr := hfr.stp hs
     have x5 := x5.stp hs
     have z9 := z9.stp hs
     have rA := rA.stp hs
     have oB := oB.stp hs
     have oH := oH.stp hs
     obtain ⟨n9, vM, h⟩ := bsome h
     refine EL_do .plain rfl (D_call (g := gp567) (vs := [tP, k9]) en24 (.cons rfl (.cons rfl .nil)) (wk24 oH rp567 vM) fun uC rQ mT hs hr => ?_)
     have hfr := hfr.ext hs
     have x5 := x5.ext hs
     have z9 := z9.ext hs
     have rA := rA.ext hs
     have oB := oB.ext hs
     obtain ⟨aE, dQ, rfl, pK, rfl⟩ := hr
     refine EL_mw (.tuple #[aE, .int .i64 (n9.2)]) rfl rfl ?_
     refine EL_p aE (P_extract rfl rfl) rfl ?_
     refine EL_p (.int .i64 (n9.2)) (P_extract rfl rfl) rfl ?_
     refine EL_at aE rfl rfl ?_
     refine EL_at (.int .i64 (n9.2)) rfl rfl ?_
     refine EL_nil (thn_n ?_)
     obtain ⟨nD, hx, h⟩ := bsome h
     refine E_join (fun e w => ∃ (g : Gh) , Fr gI wI g w ∧ e 6 = .bool (nD)) (fun Q' hQ => ?_) (fun sQ nT hR => ?_)
     ·replace h := hx
      clear hx
      refine E_region (EL_mw (.int .i64 (m7.2)) rfl rfl ?_)
      refine EL_in (.bool ((m7.2 == (0 : Int)))) rfl rfl rfl rfl ?_
      refine EL_mw (.bool ((m7.2 == (0 : Int)))) rfl rfl ?_
      rcases csome h with ⟨vC, h⟩ | ⟨vC, h⟩
      ·refine EL_y (.int .i64 (i7.2)) (P_move rfl) rfl rfl vC rfl ?_
       refine EL_y (.bool ((i7.2 == (0 : Int)))) (P_int rfl rfl rfl) rfl rfl vC rfl ?_
       refine EL_p (.bool ((i7.2 == (0 : Int)))) (P_pick (b := (m7.2 == (0 : Int))) rfl (pick_t vC rfl)) rfl ?_
       refine EL_mw (.bool ((i7.2 == (0 : Int)))) rfl rfl ?_
       rcases csome h with ⟨aD, h⟩ | ⟨aD, h⟩
       ·refine EL_y (.int .i64 (l9.2)) (P_move rfl) rfl rfl aD rfl ?_
        refine EL_y (.bool ((l9.2 == (0 : Int)))) (P_int rfl rfl rfl) rfl rfl aD rfl ?_
        refine EL_p (.bool ((l9.2 == (0 : Int)))) (P_pick (b := (i7.2 == (0 : Int))) rfl (pick_t aD rfl)) rfl ?_
        refine EL_mw (.bool ((l9.2 == (0 : Int)))) rfl rfl ?_
        rcases csome h with ⟨bD, h⟩ | ⟨bD, h⟩
        ·refine EL_y (.int .i64 (n9.2)) (P_move rfl) rfl rfl bD rfl ?_
         refine EL_y (.bool ((n9.2 == (0 : Int)))) (P_int rfl rfl rfl) rfl rfl bD rfl ?_
         refine EL_p (.bool ((n9.2 == (0 : Int)))) (P_pick (b := (l9.2 == (0 : Int))) rfl (pick_t bD rfl)) rfl ?_
         refine EL_mw (.bool ((n9.2 == (0 : Int)))) rfl rfl ?_
         rcases csome h with ⟨yA, h⟩ | ⟨yA, h⟩
         ·refine EL_y zB (P_move rfl) rfl rfl yA rfl ?_
          refine EL_y (.int .i64 (((m7.1 : List Int)).length : Int)) (P_len Try.underlying22 rfl z9) rfl rfl yA rfl ?_
          refine EL_y d9 (P_move jD) rfl rfl yA rfl ?_
          refine EL_y (.int .i64 ((y168.1).length : Int)) (P_len Try.underlying22 rfl x5) rfl rfl yA rfl ?_
          refine EL_y (.bool ((decide ((((m7.1 : List Int)).length : Int) ≤ ((y168.1).length : Int))))) (P_int rfl rfl rfl) rfl rfl yA rfl ?_
          refine EL_p (.bool ((decide ((((m7.1 : List Int)).length : Int) ≤ ((y168.1).length : Int))))) (P_pick (b := (n9.2 == (0 : Int))) rfl (pick_t yA rfl)) rfl ?_
          refine EL_p (.bool ((decide ((((m7.1 : List Int)).length : Int) ≤ ((y168.1).length : Int))))) (P_move rfl) rfl ?_
          rcases csome h with ⟨aB, h⟩ | ⟨aB, h⟩
          ·refine EL_y cC (P_move rfl) rfl rfl aB rfl ?_
           refine EL_y (.int .i64 (((i7.1 : List Int)).length : Int)) (P_len Try.underlying22 rfl rA) rfl rfl aB rfl ?_
           refine EL_y d9 (P_move jD) rfl rfl aB rfl ?_
           refine EL_y (.int .i64 ((y168.1).length : Int)) (P_len Try.underlying22 rfl x5) rfl rfl aB rfl ?_
           refine EL_y (.bool ((decide ((((i7.1 : List Int)).length : Int) ≤ ((y168.1).length : Int))))) (P_int rfl rfl rfl) rfl rfl aB rfl ?_
           refine EL_p (.bool ((decide ((((i7.1 : List Int)).length : Int) ≤ ((y168.1).length : Int))))) (P_pick (b := (decide ((((m7.1 : List Int)).length : Int) ≤ ((y168.1).length : Int)))) rfl (pick_t aB rfl)) rfl ?_
           refine EL_p (.bool ((decide ((((i7.1 : List Int)).length : Int) ≤ ((y168.1).length : Int))))) (P_move rfl) rfl ?_
           rcases csome h with ⟨dB, h⟩ | ⟨dB, h⟩
           ·refine EL_y zD (P_move rfl) rfl rfl dB rfl ?_
            refine EL_y (.int .i64 ((l9.1).length : Int)) (P_len Try.underlying22 rfl oB) rfl rfl dB rfl ?_
            refine EL_y d9 (P_move jD) rfl rfl dB rfl ?_
            refine EL_y (.int .i64 ((y168.1).length : Int)) (P_len Try.underlying22 rfl x5) rfl rfl dB rfl ?_
            refine EL_y (.bool ((decide (((l9.1).length : Int) ≤ ((y168.1).length : Int))))) (P_int rfl rfl rfl) rfl rfl dB rfl ?_
            refine EL_p (.bool ((decide (((l9.1).length : Int) ≤ ((y168.1).length : Int))))) (P_pick (b := (decide ((((i7.1 : List Int)).length : Int) ≤ ((y168.1).length : Int)))) rfl (pick_t dB rfl)) rfl ?_
            refine EL_mw (.bool ((decide (((l9.1).length : Int) ≤ ((y168.1).length : Int))))) rfl rfl ?_
            rcases csome h with ⟨iB, h⟩ | ⟨iB, h⟩
            ·refine EL_y aE (P_move rfl) rfl rfl iB rfl ?_
             refine EL_y (.int .i64 ((n9.1).length : Int)) (P_len Try.underlying22 rfl pK) rfl rfl iB rfl ?_
             refine EL_y d9 (P_move jD) rfl rfl iB rfl ?_
             refine EL_y (.int .i64 ((y168.1).length : Int)) (P_len Try.underlying22 rfl x5) rfl rfl iB rfl ?_
             refine EL_y (.bool ((decide (((n9.1).length : Int) ≤ ((y168.1).length : Int))))) (P_int rfl rfl rfl) rfl rfl iB rfl ?_
             refine EL_p (.bool ((decide (((n9.1).length : Int) ≤ ((y168.1).length : Int))))) (P_pick (b := (decide (((l9.1).length : Int) ≤ ((y168.1).length : Int)))) rfl (pick_t iB rfl)) rfl ?_
             refine EL_mw (.bool ((decide (((n9.1).length : Int) ≤ ((y168.1).length : Int))))) rfl rfl ?_
             rcases csome h with ⟨bE, h⟩ | ⟨bE, h⟩
             ·obtain ⟨rF, xM, h⟩ := bsome h
              refine EL_do (.yes2 rfl rfl bE) rfl (D_call (g := uC) (vs := []) en14 .nil (wk14  xM) fun uP tQ oT hs hr => ?_)
              have hfr := hfr.ext hs
              subst hr
              refine EL_p (.bool (rF)) (P_pick (b := (decide (((n9.1).length : Int) ≤ ((y168.1).length : Int)))) rfl (pick_t bE rfl)) rfl ?_
              refine EL_at (.bool (rF)) rfl rfl ?_
              refine EL_nil ?_
              obtain rfl := sinj h
              exact hQ _ _ ⟨uP, hfr, rfl⟩
             ·refine EL_s rfl rfl bE rfl rfl ?_
              refine EL_p (.bool false) (P_pick (b := (decide (((n9.1).length : Int) ≤ ((y168.1).length : Int)))) rfl (pick_f bE rfl)) rfl ?_
              refine EL_at (.bool false) rfl rfl ?_
              refine EL_nil ?_
              obtain rfl := sinj h
              exact hQ _ _ ⟨uC, hfr, rfl⟩
            ·refine EL_s rfl rfl iB rfl rfl ?_
             iterate 4 refine EL_s rfl rfl iB rfl rfl ?_
             refine EL_p (.bool false) (P_pick (b := (decide (((l9.1).length : Int) ≤ ((y168.1).length : Int)))) rfl (pick_f iB rfl)) rfl ?_
             refine EL_dead 3 rfl ?_
             refine EL_at (.bool false) rfl rfl ?_
             refine EL_nil ?_
             obtain rfl := sinj h
             exact hQ _ _ ⟨uC, hfr, rfl⟩
           ·refine EL_s rfl rfl dB rfl rfl ?_
            iterate 4 refine EL_s rfl rfl dB rfl rfl ?_
            refine EL_p (.bool false) (P_pick (b := (decide ((((i7.1 : List Int)).length : Int) ≤ ((y168.1).length : Int)))) rfl (pick_f dB rfl)) rfl ?_
            refine EL_dead 10 rfl ?_
            refine EL_at (.bool false) rfl rfl ?_
            refine EL_nil ?_
            obtain rfl := sinj h
            exact hQ _ _ ⟨uC, hfr, rfl⟩
          ·refine EL_s rfl rfl aB rfl rfl ?_
           iterate 4 refine EL_s rfl rfl aB rfl rfl ?_
           refine EL_p (.bool false) (P_pick (b := (decide ((((m7.1 : List Int)).length : Int) ≤ ((y168.1).length : Int)))) rfl (pick_f aB rfl)) rfl ?_
           refine EL_dead 17 rfl ?_
           refine EL_at (.bool false) rfl rfl ?_
           refine EL_nil ?_
           obtain rfl := sinj h
           exact hQ _ _ ⟨uC, hfr, rfl⟩
         ·refine EL_s rfl rfl yA rfl rfl ?_
          iterate 4 refine EL_s rfl rfl yA rfl rfl ?_
          refine EL_p (.bool false) (P_pick (b := (n9.2 == (0 : Int))) rfl (pick_f yA rfl)) rfl ?_
          refine EL_dead 24 rfl ?_
          refine EL_at (.bool false) rfl rfl ?_
          refine EL_nil ?_
          obtain rfl := sinj h
          exact hQ _ _ ⟨uC, hfr, rfl⟩
        ·refine EL_s rfl rfl bD rfl rfl ?_
         refine EL_s rfl rfl bD rfl rfl ?_
         refine EL_p (.bool false) (P_pick (b := (l9.2 == (0 : Int))) rfl (pick_f bD rfl)) rfl ?_
         refine EL_dead 31 rfl ?_
         refine EL_at (.bool false) rfl rfl ?_
         refine EL_nil ?_
         obtain rfl := sinj h
         exact hQ _ _ ⟨uC, hfr, rfl⟩
       ·refine EL_s rfl rfl aD rfl rfl ?_
        refine EL_s rfl rfl aD rfl rfl ?_
        refine EL_p (.bool false) (P_pick (b := (i7.2 == (0 : Int))) rfl (pick_f aD rfl)) rfl ?_
        refine EL_dead 35 rfl ?_
        refine EL_at (.bool false) rfl rfl ?_
        refine EL_nil ?_
        obtain rfl := sinj h
        exact hQ _ _ ⟨uC, hfr, rfl⟩
      ·refine EL_s rfl rfl vC rfl rfl ?_
       refine EL_s rfl rfl vC rfl rfl ?_
       refine EL_p (.bool false) (P_pick (b := (m7.2 == (0 : Int))) rfl (pick_f vC rfl)) rfl ?_
       refine EL_dead 39 rfl ?_
       refine EL_at (.bool false) rfl rfl ?_
       refine EL_nil ?_
       obtain rfl := sinj h
       exact hQ _ _ ⟨uC, hfr, rfl⟩
     ·clear hx
      obtain ⟨pT, hfr, qK⟩ := hR
      refine E_ret ?_
      obtain rfl := sinj h
      exact end1 rfl rfl (show _ = .bool (nD) from qK) ⟨_, hfr, rfl⟩
end Go.Proofs.Ytnfjhdagbknlbaa
