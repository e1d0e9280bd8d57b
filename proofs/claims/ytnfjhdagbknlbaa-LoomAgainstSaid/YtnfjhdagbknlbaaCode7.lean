import Derived.Test.YtnfjhdagbknlbaaCode6
set_option maxRecDepth 8000
set_option maxHeartbeats 4000000
namespace Go.Proofs.Ytnfjhdagbknlbaa
open Go.RowKit
def f8 (x0 : Hall) (x1 : Vector UInt8 7) (x2 : List UInt8) : Option (Bool) :=
 (f39 x0).bind fun y5 =>
 Option.bind (α := (List LoomOrder)) (
  lp (σ := (List LoomOrder) × Int) (fun rY (q7, d4) =>
   jn (σ := Unit) (fun (_ : Unit) =>
    Option.bind (α := (List LoomOrder)) (
     (idx q7 d4).bind fun y180 =>
     (idx q7 d4).bind fun jF =>
     (idx q7 d4).bind fun kF =>
     (idx (x1).toList d4).bind fun aN =>
     (rem64 ((aN).toNat : Int) (40 : Int)).bind fun lF =>
     (idx q7 d4).bind fun sY =>
     some ((List.set q7 (Int.toNat d4) ({ sY with Late := (max64 (w64 ((y180).Early + (jF).Woven)) (w64 ((kF).Late - lF))) })))
     ) fun pD =>
    rY (pD, (w64 (d4 + (1 : Int))))
    ) fun tY =>
   bif (decide (d4 < ((q7).length : Int))) then
    tY ()
   else
    some (q7)
   ) big (y5.2.1, (0 : Int))
  ) fun j3 =>
 (f15 (y5.1)).bind fun uY =>
 (f16 j3).bind fun vY =>
 (f23 uY vY).bind fun z2 =>
 (f15 (y5.1)).bind fun xY =>
 (f16 j3).bind fun yY =>
 (f24 xY yY).bind fun i3 =>
 (f15 (y5.1)).bind fun zY =>
 (f16 j3).bind fun aZ =>
 (f17 zY aZ).bind fun u3 =>
 (f15 (y5.1)).bind fun bZ =>
 (f16 j3).bind fun cZ =>
 (f30 bZ cZ).bind fun o0 =>
 jn (σ := Unit) (fun (_ : Unit) =>
  (f42 j3 (i3.1)).bind fun oB =>
  jn (σ := Unit) (fun (_ : Unit) =>
   jn (σ := Unit) (fun (_ : Unit) =>
    jn (σ := Unit) (fun (_ : Unit) =>
     jn (σ := Unit) (fun (_ : Unit) =>
      jn (σ := Unit) (fun (_ : Unit) =>
       (f42 j3 (z2.1)).bind fun t5 =>
       jn (σ := Unit) (fun (_ : Unit) =>
        jn (σ := Unit) (fun (_ : Unit) =>
         jn (σ := Unit) (fun (_ : Unit) =>
          Option.bind (α := Bool) (
           lp (σ := Bool × Int) (fun aT (pB, u5) =>
            jn (σ := Unit) (fun (_ : Unit) =>
             Option.bind (α := Bool) (
              lp (σ := Bool × Int) (fun bT (z6, c6) =>
               jn (σ := Unit) (fun (_ : Unit) =>
                Option.bind (α := Bool) (
                 bif z6 then
                  some (true)
                 else
                  (idx (z2.1) u5).bind fun nC =>
                  (idx (i3.1) c6).bind fun oC =>
                  some ((nC == oC))
                 ) fun qB =>
                bT (qB, (w64 (c6 + (1 : Int))))
                ) fun cT =>
               bif (decide (c6 < ((i3.1).length : Int))) then
                cT ()
               else
                some (z6)
               ) big (pB, (0 : Int))
              ) fun rB =>
             aT (rB, (w64 (u5 + (1 : Int))))
             ) fun dT =>
            bif (decide (u5 < ((z2.1).length : Int))) then
             dT ()
            else
             some (pB)
            ) big (false, (0 : Int))
           ) fun y8 =>
          Option.bind (α := Bool) (
           bif y8 then
            (f14).bind fun dF =>
            some (dF)
           else
            some (false)
           ) fun qC =>
          some (qC)
          ) fun eT =>
         lp (σ := Int) (fun gT d6 =>
          jn (σ := Unit) (fun (_ : Unit) =>
           jn (σ := Unit) (fun (_ : Unit) =>
            gT ((w64 (d6 + (1 : Int))))
            ) fun iT =>
           (f42 (t5.2.1) (([d6] : List Int))).bind fun qD =>
           (f15 (y5.1)).bind fun jT =>
           (f17 jT (qD.1)).bind fun sB =>
           bif (sB.2 != (0 : Int)) then
            some (false)
           else
            iT ()
           ) fun kT =>
          bif (decide (d6 < ((t5.2.1).length : Int))) then
           kT ()
          else
           eT ()
          ) big ((0 : Int))
         ) fun lT =>
        (f15 (y5.1)).bind fun mT =>
        (f16 (t5.2.1)).bind fun nT =>
        (f17 mT nT).bind fun tB =>
        bif (tB.2 != (9 : Int)) then
         some (false)
        else
         lT ()
        ) fun oT =>
       Option.bind (α := Bool) (
        bif (!t5.2.2) then
         some (true)
        else
         some ((((t5.2.1).length : Int) == (0 : Int)))
        ) fun i9 =>
       bif i9 then
        some (false)
       else
        oT ()
       ) fun pT =>
      bif (z2.2 != (0 : Int)) then
       Option.bind (α := Bool) (
        bif (z2.2 == (7 : Int)) then
         bif (((z2.1).length : Int) == (0 : Int)) then
          (f14).bind fun eF =>
          some (eF)
         else
          some (false)
        else
         some (false)
        ) fun rC =>
       some (rC)
      else
       pT ()
      ) fun bN =>
     bif (o0.2.2 == (0 : Int)) then
      Option.bind (α := Int) (
       lp (σ := Int × Int) (fun qT (t7, m4) =>
        jn (σ := Unit) (fun (_ : Unit) =>
         Option.bind (α := Int) (
          Option.bind (α := Bool) (
           (idx j3 m4).bind fun g9 =>
           bif (decide ((g9).Early ≥ (o0.1).Low)) then
            (idx j3 m4).bind fun rD =>
            some ((decide ((rD).Late ≤ (o0.1).High)))
           else
            some (false)
           ) fun j9 =>
          bif j9 then
           (idx j3 m4).bind fun gF =>
           some ((w64 (t7 + (gF).Woven)))
          else
           some (t7)
          ) fun uB =>
         qT (uB, (w64 (m4 + (1 : Int))))
         ) fun rT =>
        bif (decide (m4 < ((j3).length : Int))) then
         rT ()
        else
         some (t7)
        ) big ((0 : Int), (0 : Int))
       ) fun e7 =>
      Option.bind (α := Bool) (
       bif (decide ((o0.1).Low < (0 : Int))) then
        some (true)
       else
        bif (decide ((o0.1).High > (300 : Int))) then
         some (true)
        else
         bif (decide ((o0.1).Low ≥ (o0.1).High)) then
          some (true)
         else
          bif (e7 != o0.2.1) then
           some (true)
          else
           some ((decide (o0.2.1 ≤ (w64 ((w64 ((o0.1).High - (o0.1).Low)) * (((y5.1).Widths).length : Int))))))
       ) fun k9 =>
      bif k9 then
       some (false)
      else
       bN ()
     else
      bN ()
     ) fun dZ =>
    lp (σ := Int) (fun eZ d5 =>
     jn (σ := Unit) (fun (_ : Unit) =>
      jn (σ := Unit) (fun (_ : Unit) =>
       eZ ((w64 (d5 + (1 : Int))))
       ) fun qP =>
      Option.bind (α := (List Int)) (
       lp (σ := (List Int) × Int) (fun gZ (l6, o5) =>
        jn (σ := Unit) (fun (_ : Unit) =>
         Option.bind (α := (List Int)) (
          (idx x2 d5).bind fun hZ =>
          (u8shr hZ (wu64 o5)).bind fun mF =>
          bif ((mF &&& (1 : UInt8)) == (1 : UInt8)) then
           (apnd 8 l6 (([o5] : List Int))).bind fun iZ =>
           some (iZ)
          else
           some (l6)
          ) fun vA =>
         gZ (vA, (w64 (o5 + (1 : Int))))
         ) fun jZ =>
        Option.bind (α := Bool) (
         bif (decide (o5 < ((j3).length : Int))) then
          some ((decide (((l6).length : Int) < (w64 (((i3.1).length : Int) - (1 : Int))))))
         else
          some (false)
         ) fun cA =>
        bif cA then
         jZ ()
        else
         some (l6)
        ) big (([] : List Int), (0 : Int))
       ) fun sC =>
      (f42 j3 sC).bind fun tA =>
      Option.bind (α := Bool) (
       bif (decide (((i3.1).length : Int) > (0 : Int))) then
        some ((decide (((tA.1).length : Int) > (0 : Int))))
       else
        some (false)
       ) fun dA =>
      bif dA then
       (f15 (y5.1)).bind fun kZ =>
       (f17 kZ (tA.1)).bind fun dD =>
       bif (dD.2 != (9 : Int)) then
        some (false)
       else
        qP ()
      else
       qP ()
      ) fun lZ =>
     Option.bind (α := Bool) (
      bif (decide (d5 < ((x2).length : Int))) then
       some ((decide (d5 < (10 : Int))))
      else
       some (false)
      ) fun eA =>
     bif eA then
      lZ ()
     else
      dZ ()
     ) big ((0 : Int))
    ) fun mZ =>
   (f15 (y5.1)).bind fun nZ =>
   (f17 nZ (oB.1)).bind fun eD =>
   bif (eD.2 != (0 : Int)) then
    some (false)
   else
    mZ ()
   ) fun oZ =>
  bif (!oB.2.2) then
   some (false)
  else
   oZ ()
  ) fun pZ =>
 Option.bind (α := Bool) (
  bif (i3.2 != (0 : Int)) then
   some (true)
  else
   bif (u3.2 != (0 : Int)) then
    bif (u3.2 != (9 : Int)) then
     some (true)
    else
     bif (!((u3.2 == (0 : Int)) == (z2.2 == (7 : Int)))) then
      some (true)
     else
      bif (!((u3.2 == (0 : Int)) == (((i3.1).length : Int) == (0 : Int)))) then
       some (true)
      else
       bif (o0.2.2 == (0 : Int)) then
        some ((u3.2 == (0 : Int)))
       else
        some (false)
   else
    bif (!((u3.2 == (0 : Int)) == (z2.2 == (7 : Int)))) then
     some (true)
    else
     bif (!((u3.2 == (0 : Int)) == (((i3.1).length : Int) == (0 : Int)))) then
      some (true)
     else
      bif (o0.2.2 == (0 : Int)) then
       some ((u3.2 == (0 : Int)))
      else
       some (false)
  ) fun gA =>
 bif gA then
  some (false)
 else
  pZ ()
theorem wk8 {gI : Gh} {wI : World} {x0 : Hall} {x1 : Vector UInt8 7} {x2 : List UInt8} {up0 : Value} (rp0 : RV gI.m wI x0 up0) {up1 : Value} (rp1 : RV gI.m wI x1 up1) {up2 : Value} (rp2 : RV gI.m wI x2 up2) {r : Bool} (h : f8 x0 x1 x2 = some r) : Fn Try.prog 8 #[up0, up1, up2] gI wI (fun _ _ v => v = .bool (r)) := by
 unfold f8 at h
 refine fn_of_E Try.func8 rfl (Nat.le_of_ble_eq_true rfl) fun g0 hm hfr => ?_
 have rp0 : RV g0.m wI x0 up0 := hm ▸ rp0
 have rp1 : RV g0.m wI x1 up1 := hm ▸ rp1
 have rp2 : RV g0.m wI x2 up2 := hm ▸ rp2
 show E _ 386 none _ _ _ _ _
 refine E_seq (E_region (EL_do .plain rfl (D_box (g := g0) rfl rp0 fun g1 w1 p1 hs q1 => ?_)))
 have hfr := hfr.ext hs
 have rp1 := rp1.ext hs
 have rp2 := rp2.ext hs
 refine EL_do .plain rfl (D_box (g := g1) rfl rp1 fun g2 w2 p2 hs q2 => ?_)
 have hfr := hfr.ext hs
 have rp2 := rp2.ext hs
 have q1 := q1.ext hs
 refine EL_at (.bool false) rfl rfl ?_
 refine EL_nil (thn_n (E_seq (E_region (EL_do .plain rfl (D_load (g := g2) Try.isAgg71 Try.sizeOf71 rfl q1 fun v3 r3 => ?_)))))
 obtain ⟨y5, hy5, h⟩ := bsome h
 refine EL_do .plain rfl (D_callG (g := g2) (vs := [v3]) en39 (.cons rfl .nil) (v39_1 (iO := 9150) r3 hy5) fun g4 w4_ v4 hs hr => ?_)
 have hfr := hfr.ext hs
 have rp2 := rp2.ext hs
 have q2 := q2.ext hs
 obtain ⟨sP, d3, tP, rfl, uP, hm4, q0F⟩ := hr
 refine EL_mw (.tuple #[sP, d3, tP]) rfl rfl ?_
 refine EL_pur (v := sP) (P_extract rfl rfl) .plain rfl ?_
 refine EL_pur (v := d3) (P_extract rfl rfl) .plain rfl ?_
 refine EL_pur (v := tP) (P_extract rfl rfl) .plain rfl ?_
 refine EL_do .plain rfl (D_allocOc (g := g4) 2007 (⟨[], 0⟩ : LoomMill) Try.zeroValue24 (fun m w => ⟨_, (rep_two rep_nil rep_int), rfl⟩) fun g6 w6 p6 hs b6 cb => ?_)
 have hfr := hfr.stp hs
 have rp2 := rp2.stp hs
 have q2 := q2.stp hs
 have hm4 := hm4.stp hs rfl
 have uP := uP.stp hs
 have r0F : OSF 2007 60700 0 g6 w6 3 24 ([] : List Int) p6 := cb.osf (by rfl)
 clear cb
 refine EL_do .plain rfl (D_storeOc (g := g6) (v := sP) Try.sizeOf24 rfl b6 rfl uP fun g7 w7 hs b7 cb => ?_)
 clear cb
 have hfr := hfr.stp hs
 have rp2 := rp2.stp hs
 have q2 := q2.stp hs
 have hm4 := hm4.stp hs rfl
 refine EL_at d3 rfl rfl ?_
 refine EL_at tP rfl rfl ?_
 refine EL_nil (thn_n ?_)
 obtain ⟨j3, hx, h⟩ := bsome h
 refine E_join (fun e w => ∃ (g : Gh) , Fr gI wI g w ∧ e 2 = up2 ∧ RV g.m w (x2 : List UInt8) up2 ∧ e 7 = p6 ∧ OB 2007 g w 24 (y5.1 : LoomMill) p6 ∧ e 8 = d3 ∧ OM 9150 g w 82 (j3 : List LoomOrder) d3) (fun Q' hQ => ?_) (fun z0B s0F hR => ?_)
 ·replace h := hx
  clear hx
  refine E_seq (E_region (EL_at (.int .i64 (0)) rfl rfl ?_))
  refine EL_nil (thn_n (E_block ?_))
  refine E_lp h (fun (s : (List LoomOrder) × Int) e w => ∃ (g : Gh) , Fr gI wI g w ∧ e 2 = up2 ∧ RV g.m w (x2 : List UInt8) up2 ∧ e 4 = p2 ∧ PT g.m w (x1 : Vector UInt8 7) p2 ∧ e 7 = p6 ∧ OB 2007 g w 24 (y5.1 : LoomMill) p6 ∧ e 8 = d3 ∧ OM 9150 g w 82 (s.1 : List LoomOrder) d3 ∧ e 10 = .int .i64 (s.2)) ⟨g7, hfr, rfl, rp2, rfl, q2, rfl, b7, rfl, hm4, rfl⟩ (fun X121 rY g03 => ?_)
  rintro ⟨q7, d4⟩ a0C t0F ⟨qZ, hfr, uN, vN, rZ, sZ, xN, yN, nF, oF, mJ⟩ h
  refine E_joinC h (fun (s : Unit) e w => ∃ (g : Gh) , Fr gI wI g w ∧ e 2 = up2 ∧ RV g.m w (x2 : List UInt8) up2 ∧ e 4 = p2 ∧ PT g.m w (x1 : Vector UInt8 7) p2 ∧ e 7 = p6 ∧ OB 2007 g w 24 (y5.1 : LoomMill) p6 ∧ e 8 = d3 ∧ OM 9150 g w 82 (q7 : List LoomOrder) d3 ∧ e 10 = .int .i64 (d4)) (fun X124 tY h03 h => ?_) ?_
  ·refine E_seq (E_region (EL_mv mJ rfl ?_))
   refine EL_mv nF rfl ?_
   refine EL_pur (v := .int .i64 ((q7).length : Int)) (P_lenM Try.underlying25 rfl oF) .plain rfl ?_
   refine EL_in (.bool ((decide (d4 < ((q7).length : Int))))) rfl rfl rfl rfl ?_
   refine EL_nil (thn_n ?_)
   rcases csome h with ⟨cN, h⟩ | ⟨cN, h⟩
   ·refine E_ct cN rfl ?_
    exact E_skip (thn_n (h03 () _ _ ⟨qZ, hfr, uN, vN, rZ, sZ, xN, yN, nF, oF, mJ⟩ h))
   ·refine E_cf cN rfl ?_
    refine E_exit ?_
    refine thn_e ?_
    refine thn_e ?_
    refine blk_hit ?_
    obtain rfl := sinj h
    exact hQ _ _ ⟨qZ, hfr, uN, vN, xN, yN, nF, oF⟩
  ·rintro _ b0C u0F ⟨x06, hfr, tZ, bC, zN, iA, uZ, cC, dC, v6, o9⟩ h
   obtain ⟨pD, hx, h⟩ := bsome h
   refine E_join (fun e w => ∃ (g : Gh) , Fr gI wI g w ∧ e 2 = up2 ∧ RV g.m w (x2 : List UInt8) up2 ∧ e 4 = p2 ∧ PT g.m w (x1 : Vector UInt8 7) p2 ∧ e 7 = p6 ∧ OB 2007 g w 24 (y5.1 : LoomMill) p6 ∧ e 8 = d3 ∧ OM 9150 g w 82 (pD : List LoomOrder) d3 ∧ e 10 = .int .i64 (d4)) (fun Q' hQ => ?_) (fun c0C v0F hR => ?_)
   ·replace h := hx
    clear hx
    refine E_block ?_
    obtain ⟨y180, dN, h⟩ := bsome h
    obtain ⟨pb182, po182, pe182⟩ := OM.ptrE (k := 5) v6 dN
    refine L_loadMF (x := .tmp 65) part_LoomOrder_3.1 Try.isAgg3 Try.sizeOf3 v6 dN fun x0F y06 i03 => ?_
    obtain rfl := RV_int.1 y06
    obtain ⟨jF, eN, h⟩ := bsome h
    obtain ⟨pb186, po186, pe186⟩ := OM.ptrE (k := 5) v6 eN
    refine L_loadMF (x := .tmp 70) part_LoomOrder_2.1 Try.isAgg3 Try.sizeOf3 v6 eN fun y0F z06 j03 => ?_
    obtain rfl := RV_int.1 z06
    obtain ⟨kF, gN, h⟩ := bsome h
    obtain ⟨pb190, po190, pe190⟩ := OM.ptrE (k := 5) v6 gN
    refine L_loadMF (x := .tmp 76) part_LoomOrder_4.1 Try.isAgg3 Try.sizeOf3 v6 gN fun z0F a07 k03 => ?_
    obtain rfl := RV_int.1 a07
    obtain ⟨aN, sT, h⟩ := bsome h
    have b07 := PT_idxA iA sT
    refine L_load (x := .tmp 79) Try.isAgg5 Try.sizeOf5 b07 fun a0G c07 l03 => ?_
    obtain rfl := RV_u8.1 c07
    obtain ⟨lF, m03, h⟩ := bsome h
    obtain ⟨sY, iN, h⟩ := bsome h
    obtain ⟨pb198, po198, pe198⟩ := OM.ptrE (k := 5) v6 iN
    refine E_drawL (g := x06) (n := 27) [] [0, 1, 2, 3, 4, 5, 6, 7, 8, 9, 10, 11, 12, 13, 14, 15, 16, 17, 18, 19, 20, 21, 22, 23, 24, 25, 26] rfl mixed (by kernel_rfl) trivial ?_
    refine L_pur (c := d3) rfl rfl .plain (fun _ _ hd => P_move dC) ?_
    refine L_pur (c := .int .i64 (d4)) rfl rfl .plain (fun _ _ hd => P_move o9) ?_
    refine L_pur (c := d3) rfl rfl .plain (fun _ _ hd => P_move dC) ?_
    refine L_pur (c := .int .i64 (d4)) rfl rfl .plain (fun _ _ hd => P_move o9) ?_
    refine L_pur (c := ePtr d3 d4 5) rfl rfl .plain (fun _ _ hd => P_indexAddrM (α := LoomOrder) Try.underlying25 Try.sizeOf82 rfl v6 rfl dN) ?_
    refine L_pur (c := fPtr (ePtr d3 d4 5) 3) rfl rfl .plain (fun _ _ hd => P_fieldAddr at_82_3 rfl ⟨_, _, pe182⟩) ?_
    refine L_ld (c := .int .i64 ((y180).Early)) rfl rfl .plain (fun _ _ h => ⟨h.ch, fun b hb _ => h.below.block b hb⟩) i03 rfl ?_
    refine L_pur (c := d3) rfl rfl .plain (fun _ _ hd => P_move dC) ?_
    refine L_pur (c := .int .i64 (d4)) rfl rfl .plain (fun _ _ hd => P_move o9) ?_
    refine L_pur (c := ePtr d3 d4 5) rfl rfl .plain (fun _ _ hd => P_indexAddrM (α := LoomOrder) Try.underlying25 Try.sizeOf82 rfl v6 rfl eN) ?_
    refine L_pur (c := fPtr (ePtr d3 d4 5) 2) rfl rfl .plain (fun _ _ hd => P_fieldAddr at_82_2 rfl ⟨_, _, pe186⟩) ?_
    refine L_ld (c := .int .i64 ((jF).Woven)) rfl rfl .plain (fun _ _ h => ⟨h.ch, fun b hb _ => h.below.block b hb⟩) j03 rfl ?_
    refine L_pur (c := .int .i64 ((w64 ((y180).Early + (jF).Woven)))) rfl rfl .plain (fun _ _ hd => P_int rfl rfl rfl) ?_
    refine L_pur (c := d3) rfl rfl .plain (fun _ _ hd => P_move dC) ?_
    refine L_pur (c := .int .i64 (d4)) rfl rfl .plain (fun _ _ hd => P_move o9) ?_
    refine L_pur (c := ePtr d3 d4 5) rfl rfl .plain (fun _ _ hd => P_indexAddrM (α := LoomOrder) Try.underlying25 Try.sizeOf82 rfl v6 rfl gN) ?_
    refine L_pur (c := fPtr (ePtr d3 d4 5) 4) rfl rfl .plain (fun _ _ hd => P_fieldAddr at_82_4 rfl ⟨_, _, pe190⟩) ?_
    refine L_ld (c := .int .i64 ((kF).Late)) rfl rfl .plain (fun _ _ h => ⟨h.ch, fun b hb _ => h.below.block b hb⟩) k03 rfl ?_
    refine L_pur (c := .int .i64 (d4)) rfl rfl .plain (fun _ _ hd => P_move o9) ?_
    refine L_pur (c := fPtr p2 ((d4 : Int).toNat * 1)) rfl rfl .plain (fun _ _ hd => P_indexAddrA (α := UInt8) Try.underlying79 Try.sizeOf5 zN (PT.ptr iA) rfl sT) ?_
    refine L_ld (c := .int .u8 (UInt8.toNat (aN))) rfl rfl .plain (fun _ _ h => h.ch) l03 rfl ?_
    refine L_pur (c := .int .i64 (((aN).toNat : Int))) rfl rfl .plain (fun _ _ hd => P_u8int Try.underlying5 Try.underlying3 rfl) ?_
    refine L_pur (c := .int .i64 (lF)) rfl rfl .plain (fun _ _ hd => P_int rfl rfl (congrArg (Option.map (Value.int .i64)) m03)) ?_
    refine L_pur (c := .int .i64 ((w64 ((kF).Late - lF)))) rfl rfl .plain (fun _ _ hd => P_int rfl rfl rfl) ?_
    refine L_pur (c := .int .i64 (max64 (w64 ((y180).Early + (jF).Woven)) (w64 ((kF).Late - lF)))) rfl rfl .plain (fun _ _ hd => P_max rfl rfl) ?_
    refine L_pur (c := ePtr d3 d4 5) rfl rfl .plain (fun _ _ hd => P_indexAddrM (α := LoomOrder) Try.underlying25 Try.sizeOf82 rfl v6 rfl iN) ?_
    refine L_pur (c := fPtr (ePtr d3 d4 5) 4) rfl rfl .plain (fun _ _ hd => P_fieldAddr at_82_4 rfl ⟨_, _, pe198⟩) ?_
    refine L_nil fun d07 b0G hall => ?_
    have hs := hall.1
    have hfr := hfr.ext hs
    have bC := bC.ext hs
    have iA := iA.ext hs
    have cC := cC.ext hs
    have v6 := v6.ext hs
    clear hs hall
    refine EL_do .plain rfl (D_storeMF (g := d07) part_LoomOrder_4 Try.sizeOf3 rfl v6 iN rfl (RV_int.2 rfl) fun e07 c0G hs b232 => ?_)
    have hfr := hfr.stp hs
    have bC := bC.stp hs
    have iA := iA.stp hs
    have cC := cC.stp hs rfl
    refine EL_nil (blk_n ?_)
    obtain rfl := sinj h
    exact hQ _ _ ⟨e07, hfr, tZ, bC, zN, iA, uZ, cC, dC, b232, o9⟩
   ·clear hx
    obtain ⟨g07, hfr, vZ, xZ, yZ, zZ, a00, b00, c00, d00, kU⟩ := hR
    refine E_region (EL_mv kU rfl ?_)
    refine EL_in (.int .i64 ((w64 (d4 + (1 : Int))))) rfl rfl rfl rfl ?_
    refine EL_at (.int .i64 ((w64 (d4 + (1 : Int))))) rfl rfl ?_
    exact EL_nil (thn_n (g03 (pD, (w64 (d4 + (1 : Int)))) _ _ ⟨g07, hfr, vZ, xZ, yZ, zZ, a00, b00, c00, d00, rfl⟩ h))
 ·clear hx
  obtain ⟨e00, hfr, m8, z3, x6, o3, y6, pF⟩ := hR
  refine E_seq (E_region (EL_do .plain rfl (D_loadO (g := e00) Try.isAgg24 Try.sizeOf24 x6 o3 fun h07 i07 => ?_)))
  obtain ⟨uY, n03, h⟩ := bsome h
  refine EL_do .plain rfl (D_call (g := e00) (vs := [h07]) en15 (.cons rfl .nil) (wk15 i07 n03) fun d0G d0C j07 hs hr => ?_)
  have hfr := hfr.ext hs
  have z3 := z3.ext hs
  have o3 := o3.ext hs
  have pF := pF.ext hs
  have qF := hr
  refine EL_mv y6 rfl ?_
  obtain ⟨gp238, hs, rp238⟩ := OM.pub pF
  have hfr := hfr.stp hs
  have z3 := z3.stp hs
  have o3 := o3.stp hs rfl
  have qF := qF.stp hs
  obtain ⟨vY, o03, h⟩ := bsome h
  refine EL_do .plain rfl (D_call (g := gp238) (vs := [d3]) en16 (.cons rfl .nil) (wk16 rp238 o03) fun k07 e0C l07 hs hr => ?_)
  have hfr := hfr.ext hs
  have z3 := z3.ext hs
  have o3 := o3.ext hs
  have rp238 := rp238.ext hs
  have qF := qF.ext hs
  have m07 := hr
  obtain ⟨z2, p03, h⟩ := bsome h
  refine EL_do .plain rfl (D_call (g := k07) (vs := [j07, l07]) en23 (.cons rfl (.cons rfl .nil)) (wk23 qF m07 p03) fun g00 g0C e0G hs hr => ?_)
  have hfr := hfr.ext hs
  have z3 := z3.ext hs
  have o3 := o3.ext hs
  have rp238 := rp238.ext hs
  obtain ⟨j1, a0A, rfl, z4, rfl⟩ := hr
  refine EL_mw (.tuple #[j1, .int .i64 (z2.2)]) rfl rfl ?_
  refine EL_pur (v := j1) (P_extract rfl rfl) .plain rfl ?_
  refine EL_pur (v := .int .i64 (z2.2)) (P_extract rfl rfl) .plain rfl ?_
  refine EL_at j1 rfl rfl ?_
  refine EL_at (.int .i64 (z2.2)) rfl rfl ?_
  refine EL_nil (thn_n (E_seq (E_region (EL_do .plain rfl (D_loadO (g := g00) Try.isAgg24 Try.sizeOf24 x6 o3 fun n07 o07 => ?_)))))
  obtain ⟨xY, q03, h⟩ := bsome h
  refine EL_do .plain rfl (D_call (g := g00) (vs := [n07]) en15 (.cons rfl .nil) (wk15 o07 q03) fun p07 h0C q07 hs hr => ?_)
  have hfr := hfr.ext hs
  have z3 := z3.ext hs
  have o3 := o3.ext hs
  have rp238 := rp238.ext hs
  have z4 := z4.ext hs
  have vP := hr
  refine EL_mv y6 rfl ?_
  obtain ⟨yY, r03, h⟩ := bsome h
  refine EL_do .plain rfl (D_call (g := p07) (vs := [d3]) en16 (.cons rfl .nil) (wk16 rp238 r03) fun r07 i0C s07 hs hr => ?_)
  have hfr := hfr.ext hs
  have z3 := z3.ext hs
  have o3 := o3.ext hs
  have rp238 := rp238.ext hs
  have z4 := z4.ext hs
  have vP := vP.ext hs
  have t07 := hr
  obtain ⟨i3, s03, h⟩ := bsome h
  refine EL_do .plain rfl (D_call (g := r07) (vs := [q07, s07]) en24 (.cons rfl (.cons rfl .nil)) (wk24 vP t07 s03) fun h00 j0C g0G hs hr => ?_)
  have hfr := hfr.ext hs
  have z3 := z3.ext hs
  have o3 := o3.ext hs
  have rp238 := rp238.ext hs
  have z4 := z4.ext hs
  obtain ⟨u0, b0A, rfl, i5, rfl⟩ := hr
  refine EL_mw (.tuple #[u0, .int .i64 (i3.2)]) rfl rfl ?_
  refine EL_pur (v := u0) (P_extract rfl rfl) .plain rfl ?_
  refine EL_pur (v := .int .i64 (i3.2)) (P_extract rfl rfl) .plain rfl ?_
  refine EL_at u0 rfl rfl ?_
  refine EL_at (.int .i64 (i3.2)) rfl rfl ?_
  refine EL_nil (thn_n (E_seq (E_region (EL_do .plain rfl (D_loadO (g := h00) Try.isAgg24 Try.sizeOf24 x6 o3 fun u07 v07 => ?_)))))
  obtain ⟨zY, t03, h⟩ := bsome h
  refine EL_do .plain rfl (D_call (g := h00) (vs := [u07]) en15 (.cons rfl .nil) (wk15 v07 t03) fun x07 k0C y07 hs hr => ?_)
  have hfr := hfr.ext hs
  have z3 := z3.ext hs
  have o3 := o3.ext hs
  have rp238 := rp238.ext hs
  have z4 := z4.ext hs
  have i5 := i5.ext hs
  have xP := hr
  refine EL_mv y6 rfl ?_
  obtain ⟨aZ, u03, h⟩ := bsome h
  refine EL_do .plain rfl (D_call (g := x07) (vs := [d3]) en16 (.cons rfl .nil) (wk16 rp238 u03) fun z07 l0C a08 hs hr => ?_)
  have hfr := hfr.ext hs
  have z3 := z3.ext hs
  have o3 := o3.ext hs
  have rp238 := rp238.ext hs
  have z4 := z4.ext hs
  have i5 := i5.ext hs
  have xP := xP.ext hs
  have b08 := hr
  obtain ⟨u3, v03, h⟩ := bsome h
  refine EL_do .plain rfl (D_call (g := z07) (vs := [y07, a08]) en17 (.cons rfl (.cons rfl .nil)) (wk17 xP b08 v03) fun i00 m0C h0G hs hr => ?_)
  have hfr := hfr.ext hs
  have z3 := z3.ext hs
  have o3 := o3.ext hs
  have rp238 := rp238.ext hs
  have z4 := z4.ext hs
  have i5 := i5.ext hs
  obtain ⟨rF, c0A, rfl, d0A, rfl⟩ := hr
  refine EL_mw (.tuple #[rF, .int .i64 (u3.2)]) rfl rfl ?_
  refine EL_pur (v := rF) (P_extract rfl rfl) .plain rfl ?_
  refine EL_pur (v := .int .i64 (u3.2)) (P_extract rfl rfl) .plain rfl ?_
  refine EL_at rF rfl rfl ?_
  refine EL_at (.int .i64 (u3.2)) rfl rfl ?_
  refine EL_nil (thn_n (E_seq (E_region (EL_do .plain rfl (D_loadO (g := i00) Try.isAgg24 Try.sizeOf24 x6 o3 fun c08 d08 => ?_)))))
  obtain ⟨bZ, x03, h⟩ := bsome h
  refine EL_do .plain rfl (D_call (g := i00) (vs := [c08]) en15 (.cons rfl .nil) (wk15 d08 x03) fun e08 n0C g08 hs hr => ?_)
  have hfr := hfr.ext hs
  have z3 := z3.ext hs
  have o3 := o3.ext hs
  have rp238 := rp238.ext hs
  have z4 := z4.ext hs
  have i5 := i5.ext hs
  have yP := hr
  refine EL_mv y6 rfl ?_
  obtain ⟨cZ, y03, h⟩ := bsome h
  refine EL_do .plain rfl (D_call (g := e08) (vs := [d3]) en16 (.cons rfl .nil) (wk16 rp238 y03) fun h08 o0C i08 hs hr => ?_)
  have hfr := hfr.ext hs
  have z3 := z3.ext hs
  have o3 := o3.ext hs
  have rp238 := rp238.ext hs
  have z4 := z4.ext hs
  have i5 := i5.ext hs
  have yP := yP.ext hs
  have j08 := hr
  obtain ⟨o0, z03, h⟩ := bsome h
  refine EL_do .plain rfl (D_call (g := h08) (vs := [g08, i08]) en30 (.cons rfl (.cons rfl .nil)) (wk30 yP j08 z03) fun k08 p0C i0G hs hr => ?_)
  have hfr := hfr.ext hs
  have z3 := z3.ext hs
  have o3 := o3.ext hs
  have rp238 := rp238.ext hs
  have z4 := z4.ext hs
  have i5 := i5.ext hs
  obtain ⟨sF, e0A, g0A, rfl, tF, rfl, rfl⟩ := hr
  refine EL_mw (.tuple #[sF, .int .i64 (o0.2.1), .int .i64 (o0.2.2)]) rfl rfl ?_
  refine EL_pur (v := sF) (P_extract rfl rfl) .plain rfl ?_
  refine EL_pur (v := .int .i64 (o0.2.1)) (P_extract rfl rfl) .plain rfl ?_
  refine EL_pur (v := .int .i64 (o0.2.2)) (P_extract rfl rfl) .plain rfl ?_
  refine EL_do .plain rfl (D_allocOc (g := k08) 2017 (⟨0, 0⟩ : Span) Try.zeroValue48 (fun m w => ⟨_, (rep_two rep_int rep_int), rfl⟩) fun l08 j0G p4 hs b264 cb => ?_)
  have hfr := hfr.stp hs
  have z3 := z3.stp hs
  have o3 := o3.stp hs rfl
  have rp238 := rp238.stp hs
  have z4 := z4.stp hs
  have i5 := i5.stp hs
  have tF := tF.stp hs
  clear cb
  refine EL_do .plain rfl (D_storeOc (g := l08) (v := sF) Try.sizeOf48 rfl b264 rfl tF fun uA k0G hs b265 cb => ?_)
  clear cb
  have hfr := hfr.stp hs
  have z3 := z3.stp hs
  have o3 := o3.stp hs rfl
  have rp238 := rp238.stp hs
  have z4 := z4.stp hs
  have i5 := i5.stp hs
  refine EL_at (.int .i64 (o0.2.1)) rfl rfl ?_
  refine EL_at (.int .i64 (o0.2.2)) rfl rfl ?_
  refine EL_nil (thn_n (E_joinC h (fun (s : Unit) e w => ∃ (g : Gh) , Fr gI wI g w ∧ e 2 = up2 ∧ RV g.m w (x2 : List UInt8) up2 ∧ e 7 = p6 ∧ OB 2007 g w 24 (y5.1 : LoomMill) p6 ∧ e 8 = d3 ∧ RV g.m w (j3 : List LoomOrder) d3 ∧ e 11 = j1 ∧ RV g.m w (z2.1 : List Int) j1 ∧ e 12 = .int .i64 (z2.2) ∧ e 13 = u0 ∧ RV g.m w (i3.1 : List Int) u0 ∧ e 17 = p4 ∧ OB 2017 g w 48 (o0.1 : Span) p4 ∧ e 18 = .int .i64 (o0.2.1) ∧ e 19 = .int .i64 (o0.2.2)) (fun X286 pZ a04 h => ?_) ?_))
  ·obtain ⟨gA, hx, h⟩ := bsome h
   refine E_join (fun e w => ∃ (g : Gh) , Fr gI wI g w ∧ e 2 = up2 ∧ RV g.m w (x2 : List UInt8) up2 ∧ e 7 = p6 ∧ OB 2007 g w 24 (y5.1 : LoomMill) p6 ∧ e 8 = d3 ∧ RV g.m w (j3 : List LoomOrder) d3 ∧ e 11 = j1 ∧ RV g.m w (z2.1 : List Int) j1 ∧ e 12 = .int .i64 (z2.2) ∧ e 13 = u0 ∧ RV g.m w (i3.1 : List Int) u0 ∧ e 17 = p4 ∧ OB 2017 g w 48 (o0.1 : Span) p4 ∧ e 18 = .int .i64 (o0.2.1) ∧ e 19 = .int .i64 (o0.2.2) ∧ e 152 = .bool (gA)) (fun Q' hQ => ?_) (fun q0C l0G hR => ?_)
   ·replace h := hx
    clear hx
    refine E_region (EL_mw (.int .i64 (i3.2)) rfl rfl ?_)
    refine EL_in (.bool ((i3.2 != (0 : Int)))) rfl rfl rfl rfl ?_
    refine EL_mw (.bool ((i3.2 != (0 : Int)))) rfl rfl ?_
    rcases csome h with ⟨e8, h⟩ | ⟨e8, h⟩
    ·refine EL_skip (.no2 rfl rfl e8 rfl) rfl ?_
     refine EL_skip (.no2 rfl rfl e8 rfl) rfl ?_
     refine EL_skip (.no2 rfl rfl e8 rfl) rfl ?_
     refine EL_skip (.off rfl rfl) rfl ?_
     refine EL_skip (.off rfl rfl) rfl ?_
     refine EL_skip (.no2 rfl rfl e8 rfl) rfl ?_
     refine EL_pur (v := .bool true) (P_pick (b := (i3.2 != (0 : Int))) rfl (pick_t e8 rfl)) .plain rfl ?_
     refine EL_dead 23 rfl ?_
     refine EL_nil ?_
     obtain rfl := sinj h
     exact hQ _ _ ⟨uA, hfr, m8, z3, x6, o3, y6, rp238, rfl, z4, rfl, rfl, i5, rfl, b265, rfl, rfl, rfl⟩
    ·refine EL_pur (v := .int .i64 (u3.2)) (P_move rfl) (.yes2 rfl rfl e8) rfl ?_
     refine EL_pur (v := .bool ((u3.2 != (0 : Int)))) (P_int rfl rfl rfl) (.yes2 rfl rfl e8) rfl ?_
     refine EL_pur (v := .bool ((u3.2 != (0 : Int)))) (P_move rfl) (.yes2 rfl rfl e8) rfl ?_
     rcases csome h with ⟨vB, h⟩ | ⟨vB, h⟩
     ·refine EL_pur (v := .int .i64 (u3.2)) (P_move rfl) (.yes2 rfl rfl vB) rfl ?_
      refine EL_pur (v := .bool ((u3.2 != (9 : Int)))) (P_int rfl rfl rfl) (.yes2 rfl rfl vB) rfl ?_
      refine EL_pur (v := .bool ((u3.2 != (9 : Int)))) (P_pick (b := (u3.2 != (0 : Int))) rfl (pick_t vB rfl)) (.yes2 rfl rfl e8) rfl ?_
      refine EL_pur (v := .bool ((u3.2 != (9 : Int)))) (P_pick (b := (i3.2 != (0 : Int))) rfl (pick_f e8 rfl)) .plain rfl ?_
      refine EL_mw (.bool ((u3.2 != (9 : Int)))) rfl rfl ?_
      rcases csome h with ⟨g8, h⟩ | ⟨g8, h⟩
      ·refine EL_skip (.no2 rfl rfl g8 rfl) rfl ?_
       refine EL_skip (.no2 rfl rfl g8 rfl) rfl ?_
       refine EL_skip (.no2 rfl rfl g8 rfl) rfl ?_
       refine EL_skip (.no2 rfl rfl g8 rfl) rfl ?_
       refine EL_skip (.no2 rfl rfl g8 rfl) rfl ?_
       refine EL_pur (v := .bool true) (P_pick (b := (u3.2 != (9 : Int))) rfl (pick_t g8 rfl)) .plain rfl ?_
       refine EL_dead 16 rfl ?_
       refine EL_nil ?_
       obtain rfl := sinj h
       exact hQ _ _ ⟨uA, hfr, m8, z3, x6, o3, y6, rp238, rfl, z4, rfl, rfl, i5, rfl, b265, rfl, rfl, rfl⟩
      ·refine EL_pur (v := .int .i64 (u3.2)) (P_move rfl) (.yes2 rfl rfl g8) rfl ?_
       refine EL_pur (v := .bool ((u3.2 == (0 : Int)))) (P_int rfl rfl rfl) (.yes2 rfl rfl g8) rfl ?_
       refine EL_pur (v := .int .i64 (z2.2)) (P_move rfl) (.yes2 rfl rfl g8) rfl ?_
       refine EL_pur (v := .bool ((z2.2 == (7 : Int)))) (P_int rfl rfl rfl) (.yes2 rfl rfl g8) rfl ?_
       refine EL_pur (v := .bool ((!((u3.2 == (0 : Int)) == (z2.2 == (7 : Int)))))) (P_bool Try.underlying4 rfl rfl rfl) (.yes2 rfl rfl g8) rfl ?_
       refine EL_pur (v := .bool ((!((u3.2 == (0 : Int)) == (z2.2 == (7 : Int)))))) (P_pick (b := (u3.2 != (9 : Int))) rfl (pick_f g8 rfl)) .plain rfl ?_
       refine EL_mw (.bool ((!((u3.2 == (0 : Int)) == (z2.2 == (7 : Int)))))) rfl rfl ?_
       rcases csome h with ⟨i7, h⟩ | ⟨i7, h⟩
       ·refine EL_skip (.no2 rfl rfl i7 rfl) rfl ?_
        refine EL_skip (.no2 rfl rfl i7 rfl) rfl ?_
        refine EL_skip (.no2 rfl rfl i7 rfl) rfl ?_
        refine EL_skip (.no2 rfl rfl i7 rfl) rfl ?_
        refine EL_skip (.no2 rfl rfl i7 rfl) rfl ?_
        refine EL_skip (.no2 rfl rfl i7 rfl) rfl ?_
        refine EL_pur (v := .bool true) (P_pick (b := (!((u3.2 == (0 : Int)) == (z2.2 == (7 : Int))))) rfl (pick_t i7 rfl)) .plain rfl ?_
        refine EL_dead 8 rfl ?_
        refine EL_nil ?_
        obtain rfl := sinj h
        exact hQ _ _ ⟨uA, hfr, m8, z3, x6, o3, y6, rp238, rfl, z4, rfl, rfl, i5, rfl, b265, rfl, rfl, rfl⟩
       ·refine EL_pur (v := .int .i64 (u3.2)) (P_move rfl) (.yes2 rfl rfl i7) rfl ?_
        refine EL_pur (v := .bool ((u3.2 == (0 : Int)))) (P_int rfl rfl rfl) (.yes2 rfl rfl i7) rfl ?_
        refine EL_pur (v := u0) (P_move rfl) (.yes2 rfl rfl i7) rfl ?_
        refine EL_pur (v := .int .i64 ((i3.1).length : Int)) (P_len Try.underlying22 rfl i5) (.yes2 rfl rfl i7) rfl ?_
        refine EL_pur (v := .bool ((((i3.1).length : Int) == (0 : Int)))) (P_int rfl rfl rfl) (.yes2 rfl rfl i7) rfl ?_
        refine EL_pur (v := .bool ((!((u3.2 == (0 : Int)) == (((i3.1).length : Int) == (0 : Int)))))) (P_bool Try.underlying4 rfl rfl rfl) (.yes2 rfl rfl i7) rfl ?_
        refine EL_pur (v := .bool ((!((u3.2 == (0 : Int)) == (((i3.1).length : Int) == (0 : Int)))))) (P_pick (b := (!((u3.2 == (0 : Int)) == (z2.2 == (7 : Int))))) rfl (pick_f i7 rfl)) .plain rfl ?_
        refine EL_pur (v := .bool ((!((u3.2 == (0 : Int)) == (((i3.1).length : Int) == (0 : Int)))))) (P_move rfl) .plain rfl ?_
        rcases csome h with ⟨i8, h⟩ | ⟨i8, h⟩
        ·refine EL_skip (.no2 rfl rfl i8 rfl) rfl ?_
         refine EL_skip (.no2 rfl rfl i8 rfl) rfl ?_
         refine EL_skip (.no2 rfl rfl i8 rfl) rfl ?_
         refine EL_skip (.off rfl rfl) rfl ?_
         refine EL_skip (.off rfl rfl) rfl ?_
         refine EL_skip (.no2 rfl rfl i8 rfl) rfl ?_
         refine EL_pur (v := .bool true) (P_pick (b := (!((u3.2 == (0 : Int)) == (((i3.1).length : Int) == (0 : Int))))) rfl (pick_t i8 rfl)) .plain rfl ?_
         refine EL_nil ?_
         obtain rfl := sinj h
         exact hQ _ _ ⟨uA, hfr, m8, z3, x6, o3, y6, rp238, rfl, z4, rfl, rfl, i5, rfl, b265, rfl, rfl, rfl⟩
        ·refine EL_pur (v := .int .i64 (o0.2.2)) (P_move rfl) (.yes2 rfl rfl i8) rfl ?_
         refine EL_pur (v := .bool ((o0.2.2 == (0 : Int)))) (P_int rfl rfl rfl) (.yes2 rfl rfl i8) rfl ?_
         refine EL_pur (v := .bool ((o0.2.2 == (0 : Int)))) (P_move rfl) (.yes2 rfl rfl i8) rfl ?_
         rcases csome h with ⟨xB, h⟩ | ⟨xB, h⟩
         ·refine EL_pur (v := .int .i64 (u3.2)) (P_move rfl) (.yes2 rfl rfl xB) rfl ?_
          refine EL_pur (v := .bool ((u3.2 == (0 : Int)))) (P_int rfl rfl rfl) (.yes2 rfl rfl xB) rfl ?_
          refine EL_pur (v := .bool ((u3.2 == (0 : Int)))) (P_pick (b := (o0.2.2 == (0 : Int))) rfl (pick_t xB rfl)) (.yes2 rfl rfl i8) rfl ?_
          refine EL_pur (v := .bool ((u3.2 == (0 : Int)))) (P_pick (b := (!((u3.2 == (0 : Int)) == (((i3.1).length : Int) == (0 : Int))))) rfl (pick_f i8 rfl)) .plain rfl ?_
          refine EL_nil ?_
          obtain rfl := sinj h
          exact hQ _ _ ⟨uA, hfr, m8, z3, x6, o3, y6, rp238, rfl, z4, rfl, rfl, i5, rfl, b265, rfl, rfl, rfl⟩
         ·refine EL_skip (.no2 rfl rfl xB rfl) rfl ?_
          refine EL_skip (.no2 rfl rfl xB rfl) rfl ?_
          refine EL_pur (v := .bool false) (P_pick (b := (o0.2.2 == (0 : Int))) rfl (pick_f xB rfl)) (.yes2 rfl rfl i8) rfl ?_
          refine EL_pur (v := .bool false) (P_pick (b := (!((u3.2 == (0 : Int)) == (((i3.1).length : Int) == (0 : Int))))) rfl (pick_f i8 rfl)) .plain rfl ?_
          refine EL_nil ?_
          obtain rfl := sinj h
          exact hQ _ _ ⟨uA, hfr, m8, z3, x6, o3, y6, rp238, rfl, z4, rfl, rfl, i5, rfl, b265, rfl, rfl, rfl⟩
     ·refine EL_skip (.no2 rfl rfl vB rfl) rfl ?_
      refine EL_skip (.no2 rfl rfl vB rfl) rfl ?_
      refine EL_pur (v := .bool false) (P_pick (b := (u3.2 != (0 : Int))) rfl (pick_f vB rfl)) (.yes2 rfl rfl e8) rfl ?_
      refine EL_pur (v := .bool false) (P_pick (b := (i3.2 != (0 : Int))) rfl (pick_f e8 rfl)) .plain rfl ?_
      refine EL_mw (.bool false) rfl rfl ?_
      refine EL_pur (v := .int .i64 (u3.2)) (P_move rfl) (.yes2 rfl rfl rfl) rfl ?_
      refine EL_pur (v := .bool ((u3.2 == (0 : Int)))) (P_int rfl rfl rfl) (.yes2 rfl rfl rfl) rfl ?_
      refine EL_pur (v := .int .i64 (z2.2)) (P_move rfl) (.yes2 rfl rfl rfl) rfl ?_
      refine EL_pur (v := .bool ((z2.2 == (7 : Int)))) (P_int rfl rfl rfl) (.yes2 rfl rfl rfl) rfl ?_
      refine EL_pur (v := .bool ((!((u3.2 == (0 : Int)) == (z2.2 == (7 : Int)))))) (P_bool Try.underlying4 rfl rfl rfl) (.yes2 rfl rfl rfl) rfl ?_
      refine EL_pur (v := .bool ((!((u3.2 == (0 : Int)) == (z2.2 == (7 : Int)))))) (P_pick (b := false) rfl (pick_f rfl rfl)) .plain rfl ?_
      refine EL_mw (.bool ((!((u3.2 == (0 : Int)) == (z2.2 == (7 : Int)))))) rfl rfl ?_
      rcases csome h with ⟨j7, h⟩ | ⟨j7, h⟩
      ·refine EL_skip (.no2 rfl rfl j7 rfl) rfl ?_
       refine EL_skip (.no2 rfl rfl j7 rfl) rfl ?_
       refine EL_skip (.no2 rfl rfl j7 rfl) rfl ?_
       refine EL_skip (.no2 rfl rfl j7 rfl) rfl ?_
       refine EL_skip (.no2 rfl rfl j7 rfl) rfl ?_
       refine EL_skip (.no2 rfl rfl j7 rfl) rfl ?_
       refine EL_pur (v := .bool true) (P_pick (b := (!((u3.2 == (0 : Int)) == (z2.2 == (7 : Int))))) rfl (pick_t j7 rfl)) .plain rfl ?_
       refine EL_dead 8 rfl ?_
       refine EL_nil ?_
       obtain rfl := sinj h
       exact hQ _ _ ⟨uA, hfr, m8, z3, x6, o3, y6, rp238, rfl, z4, rfl, rfl, i5, rfl, b265, rfl, rfl, rfl⟩
      ·refine EL_pur (v := .int .i64 (u3.2)) (P_move rfl) (.yes2 rfl rfl j7) rfl ?_
       refine EL_pur (v := .bool ((u3.2 == (0 : Int)))) (P_int rfl rfl rfl) (.yes2 rfl rfl j7) rfl ?_
       refine EL_pur (v := u0) (P_move rfl) (.yes2 rfl rfl j7) rfl ?_
       refine EL_pur (v := .int .i64 ((i3.1).length : Int)) (P_len Try.underlying22 rfl i5) (.yes2 rfl rfl j7) rfl ?_
       refine EL_pur (v := .bool ((((i3.1).length : Int) == (0 : Int)))) (P_int rfl rfl rfl) (.yes2 rfl rfl j7) rfl ?_
       refine EL_pur (v := .bool ((!((u3.2 == (0 : Int)) == (((i3.1).length : Int) == (0 : Int)))))) (P_bool Try.underlying4 rfl rfl rfl) (.yes2 rfl rfl j7) rfl ?_
       refine EL_pur (v := .bool ((!((u3.2 == (0 : Int)) == (((i3.1).length : Int) == (0 : Int)))))) (P_pick (b := (!((u3.2 == (0 : Int)) == (z2.2 == (7 : Int))))) rfl (pick_f j7 rfl)) .plain rfl ?_
       refine EL_pur (v := .bool ((!((u3.2 == (0 : Int)) == (((i3.1).length : Int) == (0 : Int)))))) (P_move rfl) .plain rfl ?_
       rcases csome h with ⟨k8, h⟩ | ⟨k8, h⟩
       ·refine EL_skip (.no2 rfl rfl k8 rfl) rfl ?_
        refine EL_skip (.no2 rfl rfl k8 rfl) rfl ?_
        refine EL_skip (.no2 rfl rfl k8 rfl) rfl ?_
        refine EL_skip (.off rfl rfl) rfl ?_
        refine EL_skip (.off rfl rfl) rfl ?_
        refine EL_skip (.no2 rfl rfl k8 rfl) rfl ?_
        refine EL_pur (v := .bool true) (P_pick (b := (!((u3.2 == (0 : Int)) == (((i3.1).length : Int) == (0 : Int))))) rfl (pick_t k8 rfl)) .plain rfl ?_
        refine EL_nil ?_
        obtain rfl := sinj h
        exact hQ _ _ ⟨uA, hfr, m8, z3, x6, o3, y6, rp238, rfl, z4, rfl, rfl, i5, rfl, b265, rfl, rfl, rfl⟩
       ·refine EL_pur (v := .int .i64 (o0.2.2)) (P_move rfl) (.yes2 rfl rfl k8) rfl ?_
        refine EL_pur (v := .bool ((o0.2.2 == (0 : Int)))) (P_int rfl rfl rfl) (.yes2 rfl rfl k8) rfl ?_
        refine EL_pur (v := .bool ((o0.2.2 == (0 : Int)))) (P_move rfl) (.yes2 rfl rfl k8) rfl ?_
        rcases csome h with ⟨yB, h⟩ | ⟨yB, h⟩
        ·refine EL_pur (v := .int .i64 (u3.2)) (P_move rfl) (.yes2 rfl rfl yB) rfl ?_
         refine EL_pur (v := .bool ((u3.2 == (0 : Int)))) (P_int rfl rfl rfl) (.yes2 rfl rfl yB) rfl ?_
         refine EL_pur (v := .bool ((u3.2 == (0 : Int)))) (P_pick (b := (o0.2.2 == (0 : Int))) rfl (pick_t yB rfl)) (.yes2 rfl rfl k8) rfl ?_
         refine EL_pur (v := .bool ((u3.2 == (0 : Int)))) (P_pick (b := (!((u3.2 == (0 : Int)) == (((i3.1).length : Int) == (0 : Int))))) rfl (pick_f k8 rfl)) .plain rfl ?_
         refine EL_nil ?_
         obtain rfl := sinj h
         exact hQ _ _ ⟨uA, hfr, m8, z3, x6, o3, y6, rp238, rfl, z4, rfl, rfl, i5, rfl, b265, rfl, rfl, rfl⟩
        ·refine EL_skip (.no2 rfl rfl yB rfl) rfl ?_
         refine EL_skip (.no2 rfl rfl yB rfl) rfl ?_
         refine EL_pur (v := .bool false) (P_pick (b := (o0.2.2 == (0 : Int))) rfl (pick_f yB rfl)) (.yes2 rfl rfl k8) rfl ?_
         refine EL_pur (v := .bool false) (P_pick (b := (!((u3.2 == (0 : Int)) == (((i3.1).length : Int) == (0 : Int))))) rfl (pick_f k8 rfl)) .plain rfl ?_
         refine EL_nil ?_
         obtain rfl := sinj h
         exact hQ _ _ ⟨uA, hfr, m8, z3, x6, o3, y6, rp238, rfl, z4, rfl, rfl, i5, rfl, b265, rfl, rfl, rfl⟩
   ·clear hx
    obtain ⟨m08, hfr, j00, k00, l00, m00, n00, o00, lU, mU, nU, oU, pU, qU, rU, sU, tU, uF⟩ := hR
    rcases csome h with ⟨jN, h⟩ | ⟨jN, h⟩
    ·refine E_cond_true (Eq.trans (show ev _ _ = .bool (gA) from uF) (congrArg Value.bool jN)) ?_
     refine E_seq (E_region (EL_at (.bool false) rfl rfl ?_))
     refine EL_nil (thn_n (E_ret (thn_r ?_)))
     obtain rfl := sinj h
     exact end1 rfl rfl (show _ = .bool false from rfl) ⟨_, hfr, rfl⟩
    ·refine E_cond_false (Eq.trans (show ev _ _ = .bool (gA) from uF) (congrArg Value.bool jN)) ?_
     exact E_skip (thn_n (a04 () _ _ ⟨m08, hfr, j00, k00, l00, m00, n00, o00, lU, mU, nU, oU, pU, qU, rU, sU, tU⟩ h))
  ·rintro _ r0C m0G ⟨n08, hfr, p00, vF, q00, xF, aO, sD, uU, vD, vU, nJ, tC, xU, xD, yU, zU⟩ h
   refine E_seq (E_region (EL_mv aO rfl ?_))
   refine EL_mv nJ rfl ?_
   obtain ⟨oB, b04, h⟩ := bsome h
   refine EL_do .plain rfl (D_call (g := n08) (vs := [d3, u0]) en42 (.cons rfl (.cons rfl .nil)) (wk42 sD tC b04) fun o08 s0C n0G hs hr => ?_)
   have hfr := hfr.ext hs
   have vF := vF.ext hs
   have xF := xF.ext hs
   have sD := sD.ext hs
   have vD := vD.ext hs
   have tC := tC.ext hs
   have xD := xD.ext hs
   obtain ⟨xA, yF, h0A, rfl, r00, i0A, rfl⟩ := hr
   refine EL_mw (.tuple #[xA, yF, .bool (oB.2.2)]) rfl rfl ?_
   refine EL_pur (v := xA) (P_extract rfl rfl) .plain rfl ?_
   refine EL_pur (v := yF) (P_extract rfl rfl) .plain rfl ?_
   refine EL_pur (v := .bool (oB.2.2)) (P_extract rfl rfl) .plain rfl ?_
   refine EL_at xA rfl rfl ?_
   refine EL_at yF rfl rfl ?_
   refine EL_at (.bool (oB.2.2)) rfl rfl ?_
   refine EL_nil (thn_n (E_joinC h (fun (s : Unit) e w => ∃ (g : Gh) , Fr gI wI g w ∧ e 2 = up2 ∧ RV g.m w (x2 : List UInt8) up2 ∧ e 7 = p6 ∧ OB 2007 g w 24 (y5.1 : LoomMill) p6 ∧ e 8 = d3 ∧ RV g.m w (j3 : List LoomOrder) d3 ∧ e 11 = j1 ∧ RV g.m w (z2.1 : List Int) j1 ∧ e 12 = .int .i64 (z2.2) ∧ e 13 = u0 ∧ RV g.m w (i3.1 : List Int) u0 ∧ e 17 = p4 ∧ OB 2017 g w 48 (o0.1 : Span) p4 ∧ e 18 = .int .i64 (o0.2.1) ∧ e 19 = .int .i64 (o0.2.2) ∧ e 20 = xA ∧ RV g.m w (oB.1 : List LoomOrder) xA) (fun X311 oZ c04 h => ?_) ?_))
   ·refine E_seq (E_region (EL_mw (.bool (oB.2.2)) rfl rfl ?_))
    refine EL_pur (v := .bool (!oB.2.2)) (P_not rfl) .plain rfl ?_
    refine EL_nil (thn_n ?_)
    rcases csome h with ⟨kN, h⟩ | ⟨kN, h⟩
    ·refine E_ct kN rfl ?_
     refine E_seq (E_region (EL_at (.bool false) rfl rfl ?_))
     refine EL_nil (thn_n (E_ret (thn_r ?_)))
     obtain rfl := sinj h
     exact end1 rfl rfl (show _ = .bool false from rfl) ⟨_, hfr, rfl⟩
    ·refine E_cf kN rfl ?_
     exact E_skip (thn_n (c04 () _ _ ⟨o08, hfr, p00, vF, q00, xF, aO, sD, uU, vD, vU, nJ, tC, xU, xD, yU, zU, rfl, r00⟩ h))
   ·rintro _ t0C o0G ⟨s00, hfr, t00, eC, bO, yA, u00, iC, aV, zA, bV, cV, aB, dV, bB, eV, gV, iV, yD⟩ h
    refine E_joinC h (fun (s : Unit) e w => ∃ (g : Gh) , Fr gI wI g w ∧ e 2 = up2 ∧ RV g.m w (x2 : List UInt8) up2 ∧ e 7 = p6 ∧ OB 2007 g w 24 (y5.1 : LoomMill) p6 ∧ e 8 = d3 ∧ RV g.m w (j3 : List LoomOrder) d3 ∧ e 11 = j1 ∧ RV g.m w (z2.1 : List Int) j1 ∧ e 12 = .int .i64 (z2.2) ∧ e 13 = u0 ∧ RV g.m w (i3.1 : List Int) u0 ∧ e 17 = p4 ∧ OB 2017 g w 48 (o0.1 : Span) p4 ∧ e 18 = .int .i64 (o0.2.1) ∧ e 19 = .int .i64 (o0.2.2)) (fun X320 mZ d04 h => ?_) ?_
    ·refine E_seq (E_region (EL_do .plain rfl (D_loadO (g := s00) Try.isAgg24 Try.sizeOf24 bO yA fun p08 q08 => ?_)))
     obtain ⟨nZ, e04, h⟩ := bsome h
     refine EL_do .plain rfl (D_call (g := s00) (vs := [p08]) en15 (.cons rfl .nil) (wk15 q08 e04) fun r08 u0C s08 hs hr => ?_)
     have hfr := hfr.ext hs
     have eC := eC.ext hs
     have yA := yA.ext hs
     have iC := iC.ext hs
     have zA := zA.ext hs
     have aB := aB.ext hs
     have bB := bB.ext hs
     have yD := yD.ext hs
     have t08 := hr
     refine EL_mv iV rfl ?_
     obtain ⟨eD, g04, h⟩ := bsome h
     refine EL_do .plain rfl (D_call (g := r08) (vs := [s08, xA]) en17 (.cons rfl (.cons rfl .nil)) (wk17 t08 yD g04) fun u08 v0C p0G hs hr => ?_)
     have hfr := hfr.ext hs
     have eC := eC.ext hs
     have yA := yA.ext hs
     have iC := iC.ext hs
     have zA := zA.ext hs
     have aB := aB.ext hs
     have bB := bB.ext hs
     obtain ⟨zF, j0A, rfl, k0A, rfl⟩ := hr
     refine EL_mw (.tuple #[zF, .int .i64 (eD.2)]) rfl rfl ?_
     refine EL_pur (v := zF) (P_extract rfl rfl) .plain rfl ?_
     refine EL_pur (v := .int .i64 (eD.2)) (P_extract rfl rfl) .plain rfl ?_
     refine EL_at zF rfl rfl ?_
     refine EL_at (.int .i64 (eD.2)) rfl rfl ?_
     refine EL_nil (thn_n (E_seq (E_region (EL_mw (.int .i64 (eD.2)) rfl rfl ?_))))
     refine EL_in (.bool ((eD.2 != (0 : Int)))) rfl rfl rfl rfl ?_
     refine EL_nil (thn_n ?_)
     rcases csome h with ⟨lN, h⟩ | ⟨lN, h⟩
     ·refine E_ct lN rfl ?_
      refine E_seq (E_region (EL_at (.bool false) rfl rfl ?_))
      refine EL_nil (thn_n (E_ret (thn_r ?_)))
      obtain rfl := sinj h
      exact end1 rfl rfl (show _ = .bool false from rfl) ⟨_, hfr, rfl⟩
     ·refine E_cf lN rfl ?_
      exact E_skip (thn_n (d04 () _ _ ⟨u08, hfr, t00, eC, bO, yA, u00, iC, aV, zA, bV, cV, aB, dV, bB, eV, gV⟩ h))
    ·rintro _ x0C q0G ⟨v08, hfr, v00, x00, y00, z00, a01, b01, jV, kV, lV, mV, nV, oV, pV, qV, rV⟩ h
     refine E_joinC h (fun (s : Unit) e w => ∃ (g : Gh) , Fr gI wI g w ∧ e 7 = p6 ∧ OB 2007 g w 24 (y5.1 : LoomMill) p6 ∧ e 8 = d3 ∧ RV g.m w (j3 : List LoomOrder) d3 ∧ e 11 = j1 ∧ RV g.m w (z2.1 : List Int) j1 ∧ e 12 = .int .i64 (z2.2) ∧ e 13 = u0 ∧ RV g.m w (i3.1 : List Int) u0 ∧ e 17 = p4 ∧ OB 2017 g w 48 (o0.1 : Span) p4 ∧ e 18 = .int .i64 (o0.2.1) ∧ e 19 = .int .i64 (o0.2.2)) (fun X486 dZ h04 h => ?_) ?_
     ·refine E_seq (E_region (EL_at (.int .i64 (0)) rfl rfl ?_))
      refine EL_nil (thn_n (E_block ?_))
      refine E_lp h (fun (s : Int) e w => ∃ (g : Gh) , Fr gI wI g w ∧ e 2 = up2 ∧ RV g.m w (x2 : List UInt8) up2 ∧ e 7 = p6 ∧ OB 2007 g w 24 (y5.1 : LoomMill) p6 ∧ e 8 = d3 ∧ RV g.m w (j3 : List LoomOrder) d3 ∧ e 11 = j1 ∧ RV g.m w (z2.1 : List Int) j1 ∧ e 12 = .int .i64 (z2.2) ∧ e 13 = u0 ∧ RV g.m w (i3.1 : List Int) u0 ∧ e 17 = p4 ∧ OB 2017 g w 48 (o0.1 : Span) p4 ∧ e 18 = .int .i64 (o0.2.1) ∧ e 19 = .int .i64 (o0.2.2) ∧ e 25 = .int .i64 (s)) ⟨v08, hfr, v00, x00, y00, z00, a01, b01, jV, kV, lV, mV, nV, oV, pV, qV, rV, rfl⟩ (fun X487 eZ i04 => ?_)
      rintro d5 y0C r0G ⟨c01, hfr, aG, bG, cO, dO, eO, gO, oJ, pJ, qJ, rJ, sJ, tJ, uJ, vJ, xJ, uC⟩ h
      refine E_joinC h (fun (s : Unit) e w => ∃ (g : Gh) , Fr gI wI g w ∧ e 2 = up2 ∧ RV g.m w (x2 : List UInt8) up2 ∧ e 7 = p6 ∧ OB 2007 g w 24 (y5.1 : LoomMill) p6 ∧ e 8 = d3 ∧ RV g.m w (j3 : List LoomOrder) d3 ∧ e 11 = j1 ∧ RV g.m w (z2.1 : List Int) j1 ∧ e 12 = .int .i64 (z2.2) ∧ e 13 = u0 ∧ RV g.m w (i3.1 : List Int) u0 ∧ e 17 = p4 ∧ OB 2017 g w 48 (o0.1 : Span) p4 ∧ e 18 = .int .i64 (o0.2.1) ∧ e 19 = .int .i64 (o0.2.2) ∧ e 25 = .int .i64 (d5)) (fun X493 lZ j04 h => ?_) ?_
      ·obtain ⟨eA, hx, h⟩ := bsome h
       refine E_join (fun e w => ∃ (g : Gh) , Fr gI wI g w ∧ e 2 = up2 ∧ RV g.m w (x2 : List UInt8) up2 ∧ e 7 = p6 ∧ OB 2007 g w 24 (y5.1 : LoomMill) p6 ∧ e 8 = d3 ∧ RV g.m w (j3 : List LoomOrder) d3 ∧ e 11 = j1 ∧ RV g.m w (z2.1 : List Int) j1 ∧ e 12 = .int .i64 (z2.2) ∧ e 13 = u0 ∧ RV g.m w (i3.1 : List Int) u0 ∧ e 17 = p4 ∧ OB 2017 g w 48 (o0.1 : Span) p4 ∧ e 18 = .int .i64 (o0.2.1) ∧ e 19 = .int .i64 (o0.2.2) ∧ e 25 = .int .i64 (d5) ∧ e 178 = .bool (eA)) (fun Q' hQ => ?_) (fun z0C s0G hR => ?_)
       ·replace h := hx
        clear hx
        refine E_region (EL_mv uC rfl ?_)
        refine EL_mv aG rfl ?_
        refine EL_pur (v := .int .i64 ((x2).length : Int)) (P_len Try.underlying80 rfl bG) .plain rfl ?_
        refine EL_in (.bool ((decide (d5 < ((x2).length : Int))))) rfl rfl rfl rfl ?_
        refine EL_mw (.bool ((decide (d5 < ((x2).length : Int))))) rfl rfl ?_
        rcases csome h with ⟨zB, h⟩ | ⟨zB, h⟩
        ·refine EL_pur (v := .int .i64 (d5)) (P_move uC) (.yes2 rfl rfl zB) rfl ?_
         refine EL_pur (v := .bool ((decide (d5 < (10 : Int))))) (P_int rfl rfl rfl) (.yes2 rfl rfl zB) rfl ?_
         refine EL_pur (v := .bool ((decide (d5 < (10 : Int))))) (P_pick (b := (decide (d5 < ((x2).length : Int)))) rfl (pick_t zB rfl)) .plain rfl ?_
         refine EL_nil ?_
         obtain rfl := sinj h
         exact hQ _ _ ⟨c01, hfr, aG, bG, cO, dO, eO, gO, oJ, pJ, qJ, rJ, sJ, tJ, uJ, vJ, xJ, uC, rfl⟩
        ·refine EL_skip (.no2 rfl rfl zB rfl) rfl ?_
         refine EL_skip (.no2 rfl rfl zB rfl) rfl ?_
         refine EL_pur (v := .bool false) (P_pick (b := (decide (d5 < ((x2).length : Int)))) rfl (pick_f zB rfl)) .plain rfl ?_
         refine EL_nil ?_
         obtain rfl := sinj h
         exact hQ _ _ ⟨c01, hfr, aG, bG, cO, dO, eO, gO, oJ, pJ, qJ, rJ, sJ, tJ, uJ, vJ, xJ, uC, rfl⟩
       ·clear hx
        obtain ⟨d01, hfr, e01, g01, hO, jO, kO, lO, yJ, zJ, aK, bK, cK, dK, eK, lK, mK, sV, cG⟩ := hR
        rcases csome h with ⟨mN, h⟩ | ⟨mN, h⟩
        ·refine E_cond_true (Eq.trans (show ev _ _ = .bool (eA) from cG) (congrArg Value.bool mN)) ?_
         exact E_skip (thn_n (j04 () _ _ ⟨d01, hfr, e01, g01, hO, jO, kO, lO, yJ, zJ, aK, bK, cK, dK, eK, lK, mK, sV⟩ h))
        ·refine E_cond_false (Eq.trans (show ev _ _ = .bool (eA) from cG) (congrArg Value.bool mN)) ?_
         refine E_exit ?_
         refine thn_e ?_
         refine thn_e ?_
         refine blk_hit ?_
         exact thn_n (h04 () _ _ ⟨d01, hfr, hO, jO, kO, lO, yJ, zJ, aK, bK, cK, dK, eK, lK, mK⟩ h)
      ·rintro _ a0D t0G ⟨x08, hfr, h01, dG, i01, eG, j01, gG, tV, zD, uV, vV, aE, xV, bE, yV, zV, aW⟩ h
       refine E_joinC h (fun (s : Unit) e w => ∃ (g : Gh) , Fr gI wI g w ∧ e 2 = up2 ∧ RV g.m w (x2 : List UInt8) up2 ∧ e 7 = p6 ∧ OB 2007 g w 24 (y5.1 : LoomMill) p6 ∧ e 8 = d3 ∧ RV g.m w (j3 : List LoomOrder) d3 ∧ e 11 = j1 ∧ RV g.m w (z2.1 : List Int) j1 ∧ e 12 = .int .i64 (z2.2) ∧ e 13 = u0 ∧ RV g.m w (i3.1 : List Int) u0 ∧ e 17 = p4 ∧ OB 2017 g w 48 (o0.1 : Span) p4 ∧ e 18 = .int .i64 (o0.2.1) ∧ e 19 = .int .i64 (o0.2.2) ∧ e 25 = .int .i64 (d5)) (fun X571 qP tT h => ?_) ?_
       ·refine E_block ?_
        refine E_seq (E_region (EL_do .plain rfl (D_buildSlice (g := x08) 3181 (xs := ([] : List Int)) (vs := []) Try.underlying22 Try.sizeOf3 Try.zeroValue3 rfl rfl .nil RVs.nil rfl rfl fun y08 u0G k01 hs o572 z08 hxt hfl => ?_)))
        have hfr := hfr.stp hs
        have dG := dG.stp hs
        have eG := eG.stp hs rfl
        have gG := gG.stp hs
        have zD := zD.stp hs
        have aE := aE.stp hs
        have bE := bE.stp hs rfl
        refine EL_at k01 rfl rfl ?_
        refine EL_nil (thn_n ?_)
        obtain ⟨sC, hx, h⟩ := bsome h
        refine E_join (fun e w => ∃ (g : Gh) (jC : Value), Fr gI wI g w ∧ e 2 = up2 ∧ RV g.m w (x2 : List UInt8) up2 ∧ e 7 = p6 ∧ OB 2007 g w 24 (y5.1 : LoomMill) p6 ∧ e 8 = d3 ∧ RV g.m w (j3 : List LoomOrder) d3 ∧ e 11 = j1 ∧ RV g.m w (z2.1 : List Int) j1 ∧ e 12 = .int .i64 (z2.2) ∧ e 13 = u0 ∧ RV g.m w (i3.1 : List Int) u0 ∧ e 17 = p4 ∧ OB 2017 g w 48 (o0.1 : Span) p4 ∧ e 18 = .int .i64 (o0.2.1) ∧ e 19 = .int .i64 (o0.2.2) ∧ e 25 = .int .i64 (d5) ∧ e 26 = jC ∧ RV g.m w (sC : List Int) jC ∧ OS 3181 g w 3 (sC : List Int) jC) (fun Q' hQ => ?_) (fun b0D v0G hR => ?_)
        ·replace h := hx
         clear hx
         refine E_seq (E_region (EL_at (.int .i64 (0)) rfl rfl ?_))
         refine EL_nil (thn_n (E_block ?_))
         refine E_lp h (fun (s : (List Int) × Int) e w => ∃ (g : Gh) (jC : Value), Fr gI wI g w ∧ e 2 = up2 ∧ RV g.m w (x2 : List UInt8) up2 ∧ e 7 = p6 ∧ OB 2007 g w 24 (y5.1 : LoomMill) p6 ∧ e 8 = d3 ∧ RV g.m w (j3 : List LoomOrder) d3 ∧ e 11 = j1 ∧ RV g.m w (z2.1 : List Int) j1 ∧ e 12 = .int .i64 (z2.2) ∧ e 13 = u0 ∧ RV g.m w (i3.1 : List Int) u0 ∧ e 17 = p4 ∧ OB 2017 g w 48 (o0.1 : Span) p4 ∧ e 18 = .int .i64 (o0.2.1) ∧ e 19 = .int .i64 (o0.2.2) ∧ e 25 = .int .i64 (d5) ∧ e 26 = jC ∧ RV g.m w (s.1 : List Int) jC ∧ OS 3181 g w 3 (s.1 : List Int) jC ∧ e 27 = .int .i64 (s.2)) ⟨y08, (k01), hfr, h01, dG, i01, eG, j01, gG, tV, zD, uV, vV, aE, xV, bE, yV, zV, aW, rfl, z08, o572, rfl⟩ (fun X602 gZ k04 => ?_)
         rintro ⟨l6, o5⟩ c0D x0G ⟨l01, l8, hfr, mO, nO, oO, pO, hG, iG, nK, oK, pK, cE, dE, qK, sK, tK, uK, vK, eE, gE, xK, iE⟩ h
         refine E_joinC h (fun (s : Unit) e w => ∃ (g : Gh) , Fr gI wI g w ∧ e 2 = up2 ∧ RV g.m w (x2 : List UInt8) up2 ∧ e 7 = p6 ∧ OB 2007 g w 24 (y5.1 : LoomMill) p6 ∧ e 8 = d3 ∧ RV g.m w (j3 : List LoomOrder) d3 ∧ e 11 = j1 ∧ RV g.m w (z2.1 : List Int) j1 ∧ e 12 = .int .i64 (z2.2) ∧ e 13 = u0 ∧ RV g.m w (i3.1 : List Int) u0 ∧ e 17 = p4 ∧ OB 2017 g w 48 (o0.1 : Span) p4 ∧ e 18 = .int .i64 (o0.2.1) ∧ e 19 = .int .i64 (o0.2.2) ∧ e 25 = .int .i64 (d5) ∧ e 26 = l8 ∧ RV g.m w (l6 : List Int) l8 ∧ OS 3181 g w 3 (l6 : List Int) l8 ∧ e 27 = .int .i64 (o5)) (fun X608 jZ l04 h => ?_) ?_
         ·obtain ⟨cA, hx, h⟩ := bsome h
          refine E_join (fun e w => ∃ (g : Gh) , Fr gI wI g w ∧ e 2 = up2 ∧ RV g.m w (x2 : List UInt8) up2 ∧ e 7 = p6 ∧ OB 2007 g w 24 (y5.1 : LoomMill) p6 ∧ e 8 = d3 ∧ RV g.m w (j3 : List LoomOrder) d3 ∧ e 11 = j1 ∧ RV g.m w (z2.1 : List Int) j1 ∧ e 12 = .int .i64 (z2.2) ∧ e 13 = u0 ∧ RV g.m w (i3.1 : List Int) u0 ∧ e 17 = p4 ∧ OB 2017 g w 48 (o0.1 : Span) p4 ∧ e 18 = .int .i64 (o0.2.1) ∧ e 19 = .int .i64 (o0.2.2) ∧ e 25 = .int .i64 (d5) ∧ e 26 = l8 ∧ RV g.m w (l6 : List Int) l8 ∧ OS 3181 g w 3 (l6 : List Int) l8 ∧ e 27 = .int .i64 (o5) ∧ e 193 = .bool (cA)) (fun Q' hQ => ?_) (fun d0D y0G hR => ?_)
          ·replace h := hx
           clear hx
           refine E_region (EL_mv iE rfl ?_)
           refine EL_mv hG rfl ?_
           refine EL_pur (v := .int .i64 ((j3).length : Int)) (P_len Try.underlying25 rfl iG) .plain rfl ?_
           refine EL_in (.bool ((decide (o5 < ((j3).length : Int))))) rfl rfl rfl rfl ?_
           refine EL_mw (.bool ((decide (o5 < ((j3).length : Int))))) rfl rfl ?_
           rcases csome h with ⟨m7, h⟩ | ⟨m7, h⟩
           ·refine EL_pur (v := l8) (P_move eE) (.yes2 rfl rfl m7) rfl ?_
            refine EL_pur (v := .int .i64 ((l6).length : Int)) (P_len Try.underlying22 rfl gE) (.yes2 rfl rfl m7) rfl ?_
            refine EL_pur (v := u0) (P_move cE) (.yes2 rfl rfl m7) rfl ?_
            refine EL_pur (v := .int .i64 ((i3.1).length : Int)) (P_len Try.underlying22 rfl dE) (.yes2 rfl rfl m7) rfl ?_
            refine EL_pur (v := .int .i64 ((w64 (((i3.1).length : Int) - (1 : Int))))) (P_int rfl rfl rfl) (.yes2 rfl rfl m7) rfl ?_
            refine EL_pur (v := .bool ((decide (((l6).length : Int) < (w64 (((i3.1).length : Int) - (1 : Int))))))) (P_int rfl rfl rfl) (.yes2 rfl rfl m7) rfl ?_
            refine EL_pur (v := .bool ((decide (((l6).length : Int) < (w64 (((i3.1).length : Int) - (1 : Int))))))) (P_pick (b := (decide (o5 < ((j3).length : Int)))) rfl (pick_t m7 rfl)) .plain rfl ?_
            refine EL_nil ?_
            obtain rfl := sinj h
            exact hQ _ _ ⟨l01, hfr, mO, nO, oO, pO, hG, iG, nK, oK, pK, cE, dE, qK, sK, tK, uK, vK, eE, gE, xK, iE, rfl⟩
           ·refine EL_skip (.no2 rfl rfl m7 rfl) rfl ?_
            refine EL_skip (.no2 rfl rfl m7 rfl) rfl ?_
            refine EL_skip (.no2 rfl rfl m7 rfl) rfl ?_
            refine EL_skip (.no2 rfl rfl m7 rfl) rfl ?_
            refine EL_skip (.no2 rfl rfl m7 rfl) rfl ?_
            refine EL_skip (.no2 rfl rfl m7 rfl) rfl ?_
            refine EL_pur (v := .bool false) (P_pick (b := (decide (o5 < ((j3).length : Int)))) rfl (pick_f m7 rfl)) .plain rfl ?_
            refine EL_nil ?_
            obtain rfl := sinj h
            exact hQ _ _ ⟨l01, hfr, mO, nO, oO, pO, hG, iG, nK, oK, pK, cE, dE, qK, sK, tK, uK, vK, eE, gE, xK, iE, rfl⟩
          ·clear hx
           obtain ⟨m01, hfr, qO, rO, sO, tO, uO, vO, yK, zK, aL, bL, cL, dL, eL, gL, iL, jL, kL, lL, mL, bW, jG⟩ := hR
           rcases csome h with ⟨nN, h⟩ | ⟨nN, h⟩
           ·refine E_cond_true (Eq.trans (show ev _ _ = .bool (cA) from jG) (congrArg Value.bool nN)) ?_
            exact E_skip (thn_n (l04 () _ _ ⟨m01, hfr, qO, rO, sO, tO, uO, vO, yK, zK, aL, bL, cL, dL, eL, gL, iL, jL, kL, lL, mL, bW⟩ h))
           ·refine E_cond_false (Eq.trans (show ev _ _ = .bool (cA) from jG) (congrArg Value.bool nN)) ?_
            refine E_exit ?_
            refine thn_e ?_
            refine thn_e ?_
            refine blk_hit ?_
            obtain rfl := sinj h
            exact hQ _ _ ⟨m01, (l8), hfr, qO, rO, sO, tO, uO, vO, yK, zK, aL, bL, cL, dL, eL, gL, iL, jL, kL, lL, mL⟩
         ·rintro _ e0D z0G ⟨zP, hfr, kG, l9, xO, cB, yO, dB, nL, p9, oL, pL, q9, qL, r9, rL, tL, jE, uL, vC, xC, yC⟩ h
          obtain ⟨vA, hx, h⟩ := bsome h
          refine E_join (fun e w => ∃ (g : Gh) (jC : Value), Fr gI wI g w ∧ e 2 = up2 ∧ RV g.m w (x2 : List UInt8) up2 ∧ e 7 = p6 ∧ OB 2007 g w 24 (y5.1 : LoomMill) p6 ∧ e 8 = d3 ∧ RV g.m w (j3 : List LoomOrder) d3 ∧ e 11 = j1 ∧ RV g.m w (z2.1 : List Int) j1 ∧ e 12 = .int .i64 (z2.2) ∧ e 13 = u0 ∧ RV g.m w (i3.1 : List Int) u0 ∧ e 17 = p4 ∧ OB 2017 g w 48 (o0.1 : Span) p4 ∧ e 18 = .int .i64 (o0.2.1) ∧ e 19 = .int .i64 (o0.2.2) ∧ e 25 = .int .i64 (d5) ∧ e 26 = jC ∧ RV g.m w (vA : List Int) jC ∧ OS 3181 g w 3 (vA : List Int) jC ∧ e 27 = .int .i64 (o5)) (fun Q' hQ => ?_) (fun g0D a0H hR => ?_)
          ·replace h := hx
           clear hx
           refine E_block ?_
           refine E_seq (E_region (EL_mv kG rfl ?_))
           refine EL_mv jE rfl ?_
           obtain ⟨hZ, uT, h⟩ := bsome h
           refine EL_pur (v := ePtr up2 d5 1) (P_indexAddr (α := UInt8) Try.underlying80 Try.sizeOf5 rfl l9 rfl uT) .plain rfl ?_
           have a09 := PT_idx l9 uT
           refine EL_do .plain rfl (D_load (g := zP) Try.isAgg5 Try.sizeOf5 rfl a09 fun b0H b09 => ?_)
           obtain rfl := RV_u8.1 b09
           refine EL_mv yC rfl ?_
           refine EL_pur (v := .int .u64 (wu64 o5)) (P_intu64 Try.underlying3 Try.underlying77 rfl) .plain rfl ?_
           obtain ⟨mF, m04, h⟩ := bsome h
           refine EL_pur (v := .int .u8 (UInt8.toNat (mF))) (P_shr8 rfl rfl m04) .plain rfl ?_
           refine EL_pur (v := .int .u8 (UInt8.toNat ((mF &&& (1 : UInt8))))) (P_and8 rfl rfl) .plain rfl ?_
           refine EL_pur (v := .bool (((mF &&& (1 : UInt8)) == (1 : UInt8)))) (P_u8 rfl rfl rfl) .plain rfl ?_
           refine EL_nil (thn_n ?_)
           rcases csome h with ⟨oN, h⟩ | ⟨oN, h⟩
           ·refine E_ct oN rfl ?_
            refine E_region (EL_mv uL rfl ?_)
            refine EL_mv yC rfl ?_
            refine EL_do .plain rfl (D_buildSlice (g := zP) 3207 (xs := ([o5] : List Int)) (vs := [.int .i64 (o5)]) Try.underlying22 Try.sizeOf3 Try.zeroValue3 rfl rfl (.cons rfl .nil) (RVs.cons (RV_int.2 rfl) RVs.nil) rfl rfl fun c09 c0H d0H hs o627 d09 hxt hfl => ?_)
            have hfr := hfr.stp hs
            have l9 := l9.stp hs
            have cB := cB.stp hs rfl
            have dB := dB.stp hs
            have p9 := p9.stp hs
            have q9 := q9.stp hs
            have r9 := r9.stp hs rfl
            have vC := vC.stp hs
            have xC := xC.stp hs rfl
            obtain ⟨iZ, n04, h⟩ := bsome h
            refine EL_do .plain rfl (D_append (g := c09) (i := 3181) Try.underlying22 info_3 rfl rfl xC vC rfl d09 n04 fun e09 e0H n01 hs o628 g09 _ => ?_)
            have hfr := hfr.stp hs
            have l9 := l9.stp hs
            have cB := cB.stp hs rfl
            have dB := dB.stp hs
            have p9 := p9.stp hs
            have q9 := q9.stp hs
            have r9 := r9.stp hs rfl
            refine EL_at n01 rfl rfl ?_
            refine EL_nil (blk_n ?_)
            obtain rfl := sinj h
            exact hQ _ _ ⟨e09, (n01), hfr, kG, l9, xO, cB, yO, dB, nL, p9, oL, pL, q9, qL, r9, rL, tL, jE, rfl, g09, o628, yC⟩
           ·refine E_cf oN rfl ?_
            refine E_skip (blk_n ?_)
            obtain rfl := sinj h
            exact hQ _ _ ⟨zP, (l8), hfr, kG, l9, xO, cB, yO, dB, nL, p9, oL, pL, q9, qL, r9, rL, tL, jE, uL, vC, xC, yC⟩
          ·clear hx
           obtain ⟨h09, cW, hfr, o01, p01, q01, r01, s01, t01, dW, eW, gW, iW, jW, kW, lW, mW, nW, oW, pW, qW, sW, tW⟩ := hR
           refine E_region (EL_mv tW rfl ?_)
           refine EL_in (.int .i64 ((w64 (o5 + (1 : Int))))) rfl rfl rfl rfl ?_
           refine EL_at (.int .i64 ((w64 (o5 + (1 : Int))))) rfl rfl ?_
           exact EL_nil (thn_n (k04 (vA, (w64 (o5 + (1 : Int)))) _ _ ⟨h09, (cW), hfr, o01, p01, q01, r01, s01, t01, dW, eW, gW, iW, jW, kW, lW, mW, nW, oW, pW, qW, sW, rfl⟩ h))
        ·clear hx
         obtain ⟨i09, uW, hfr, zO, tD, aP, uD, lG, kC, vL, zC, xL, kE, eB, yL, aD, zL, aM, bM, vW, xW, q09⟩ := hR
         refine E_seq (E_region (EL_mv lG rfl ?_))
         refine EL_mv vW rfl ?_
         obtain ⟨tA, o04, h⟩ := bsome h
         refine EL_do .plain rfl (D_call (g := i09) (vs := [d3, uW]) en42 (.cons rfl (.cons rfl .nil)) (wk42 kC xW o04) fun u01 h0D g0H hs hr => ?_)
         have hfr := hfr.ext hs
         have tD := tD.ext hs
         have uD := uD.ext hs
         have kC := kC.ext hs
         have zC := zC.ext hs
         have eB := eB.ext hs
         have aD := aD.ext hs
         obtain ⟨jA, mG, l0A, rfl, nG, m0A, rfl⟩ := hr
         refine EL_mw (.tuple #[jA, mG, .bool (tA.2.2)]) rfl rfl ?_
         refine EL_pur (v := jA) (P_extract rfl rfl) .plain rfl ?_
         refine EL_pur (v := mG) (P_extract rfl rfl) .plain rfl ?_
         refine EL_pur (v := .bool (tA.2.2)) (P_extract rfl rfl) .plain rfl ?_
         refine EL_at jA rfl rfl ?_
         refine EL_at mG rfl rfl ?_
         refine EL_at (.bool (tA.2.2)) rfl rfl ?_
         refine EL_nil (thn_n ?_)
         obtain ⟨dA, hx, h⟩ := bsome h
         refine E_join (fun e w => ∃ (g : Gh) , Fr gI wI g w ∧ e 2 = up2 ∧ RV g.m w (x2 : List UInt8) up2 ∧ e 7 = p6 ∧ OB 2007 g w 24 (y5.1 : LoomMill) p6 ∧ e 8 = d3 ∧ RV g.m w (j3 : List LoomOrder) d3 ∧ e 11 = j1 ∧ RV g.m w (z2.1 : List Int) j1 ∧ e 12 = .int .i64 (z2.2) ∧ e 13 = u0 ∧ RV g.m w (i3.1 : List Int) u0 ∧ e 17 = p4 ∧ OB 2017 g w 48 (o0.1 : Span) p4 ∧ e 18 = .int .i64 (o0.2.1) ∧ e 19 = .int .i64 (o0.2.2) ∧ e 25 = .int .i64 (d5) ∧ e 28 = jA ∧ RV g.m w (tA.1 : List LoomOrder) jA ∧ e 223 = .bool (dA)) (fun Q' hQ => ?_) (fun i0D h0H hR => ?_)
         ·replace h := hx
          clear hx
          refine E_region (EL_mv kE rfl ?_)
          refine EL_pur (v := .int .i64 ((i3.1).length : Int)) (P_len Try.underlying22 rfl eB) .plain rfl ?_
          refine EL_in (.bool ((decide (((i3.1).length : Int) > (0 : Int))))) rfl rfl rfl rfl ?_
          refine EL_mw (.bool ((decide (((i3.1).length : Int) > (0 : Int))))) rfl rfl ?_
          rcases csome h with ⟨n9, h⟩ | ⟨n9, h⟩
          ·refine EL_pur (v := jA) (P_move rfl) (.yes2 rfl rfl n9) rfl ?_
           refine EL_pur (v := .int .i64 ((tA.1).length : Int)) (P_len Try.underlying25 rfl nG) (.yes2 rfl rfl n9) rfl ?_
           refine EL_pur (v := .bool ((decide (((tA.1).length : Int) > (0 : Int))))) (P_int rfl rfl rfl) (.yes2 rfl rfl n9) rfl ?_
           refine EL_pur (v := .bool ((decide (((tA.1).length : Int) > (0 : Int))))) (P_pick (b := (decide (((i3.1).length : Int) > (0 : Int)))) rfl (pick_t n9 rfl)) .plain rfl ?_
           refine EL_nil ?_
           obtain rfl := sinj h
           exact hQ _ _ ⟨u01, hfr, zO, tD, aP, uD, lG, kC, vL, zC, xL, kE, eB, yL, aD, zL, aM, bM, rfl, nG, rfl⟩
          ·refine EL_skip (.no2 rfl rfl n9 rfl) rfl ?_
           refine EL_skip (.no2 rfl rfl n9 rfl) rfl ?_
           refine EL_skip (.no2 rfl rfl n9 rfl) rfl ?_
           refine EL_pur (v := .bool false) (P_pick (b := (decide (((i3.1).length : Int) > (0 : Int)))) rfl (pick_f n9 rfl)) .plain rfl ?_
           refine EL_nil ?_
           obtain rfl := sinj h
           exact hQ _ _ ⟨u01, hfr, zO, tD, aP, uD, lG, kC, vL, zC, xL, kE, eB, yL, aD, zL, aM, bM, rfl, nG, rfl⟩
         ·clear hx
          obtain ⟨aQ, hfr, bP, iB, oG, kA, cP, jB, cM, t9, dM, eM, u9, gM, y9, iM, jM, kM, yW, lE, pG⟩ := hR
          rcases csome h with ⟨pN, h⟩ | ⟨pN, h⟩
          ·refine E_cond_true (Eq.trans (show ev _ _ = .bool (dA) from pG) (congrArg Value.bool pN)) ?_
           refine E_seq (E_region (EL_do .plain rfl (D_loadO (g := aQ) Try.isAgg24 Try.sizeOf24 oG kA fun j09 k09 => ?_)))
           obtain ⟨kZ, p04, h⟩ := bsome h
           refine EL_do .plain rfl (D_call (g := aQ) (vs := [j09]) en15 (.cons rfl .nil) (wk15 k09 p04) fun l09 j0D m09 hs hr => ?_)
           have hfr := hfr.ext hs
           have iB := iB.ext hs
           have kA := kA.ext hs
           have jB := jB.ext hs
           have t9 := t9.ext hs
           have u9 := u9.ext hs
           have y9 := y9.ext hs
           have lE := lE.ext hs
           have n09 := hr
           refine EL_mv yW rfl ?_
           obtain ⟨dD, q04, h⟩ := bsome h
           refine EL_do .plain rfl (D_call (g := l09) (vs := [m09, jA]) en17 (.cons rfl (.cons rfl .nil)) (wk17 n09 lE q04) fun o09 k0D i0H hs hr => ?_)
           have hfr := hfr.ext hs
           have iB := iB.ext hs
           have kA := kA.ext hs
           have jB := jB.ext hs
           have t9 := t9.ext hs
           have u9 := u9.ext hs
           have y9 := y9.ext hs
           obtain ⟨qG, n0A, rfl, o0A, rfl⟩ := hr
           refine EL_mw (.tuple #[qG, .int .i64 (dD.2)]) rfl rfl ?_
           refine EL_pur (v := qG) (P_extract rfl rfl) .plain rfl ?_
           refine EL_pur (v := .int .i64 (dD.2)) (P_extract rfl rfl) .plain rfl ?_
           refine EL_at qG rfl rfl ?_
           refine EL_at (.int .i64 (dD.2)) rfl rfl ?_
           refine EL_nil (thn_n (E_seq (E_region (EL_mw (.int .i64 (dD.2)) rfl rfl ?_))))
           refine EL_in (.bool ((dD.2 != (9 : Int)))) rfl rfl rfl rfl ?_
           refine EL_nil (thn_n ?_)
           rcases csome h with ⟨qN, h⟩ | ⟨qN, h⟩
           ·refine E_ct qN rfl ?_
            refine E_seq (E_region (EL_at (.bool false) rfl rfl ?_))
            refine EL_nil (thn_n (E_ret (blk_r ?_)))
            refine thn_r ?_
            refine thn_r ?_
            refine blk_r ?_
            refine thn_r ?_
            obtain rfl := sinj h
            exact end1 rfl rfl (show _ = .bool false from rfl) ⟨_, hfr, rfl⟩
           ·refine E_cf qN rfl ?_
            exact E_skip (blk_n (thn_n (tT () _ _ ⟨o09, hfr, bP, iB, oG, kA, cP, jB, cM, t9, dM, eM, u9, gM, y9, iM, jM, kM⟩ h)))
          ·refine E_cond_false (Eq.trans (show ev _ _ = .bool (dA) from pG) (congrArg Value.bool pN)) ?_
           exact E_skip (blk_n (thn_n (tT () _ _ ⟨aQ, hfr, bP, iB, oG, kA, cP, jB, cM, t9, dM, eM, u9, gM, y9, iM, jM, kM⟩ h)))
       ·rintro _ l0D j0H ⟨p09, hfr, v01, x01, y01, z01, a02, b02, zW, aX, bX, cX, dX, eX, gX, iX, jX, kX⟩ h
        refine E_region (EL_mv kX rfl ?_)
        refine EL_in (.int .i64 ((w64 (d5 + (1 : Int))))) rfl rfl rfl rfl ?_
        refine EL_at (.int .i64 ((w64 (d5 + (1 : Int))))) rfl rfl ?_
        exact EL_nil (thn_n (i04 ((w64 (d5 + (1 : Int)))) _ _ ⟨p09, hfr, v01, x01, y01, z01, a02, b02, zW, aX, bX, cX, dX, eX, gX, iX, jX, rfl⟩ h))
     ·rintro _ m0D k0H ⟨c02, hfr, dP, eP, gP, iP, mM, nM, oM, pM, qM, lX, mX, nX, oX⟩ h
      refine E_joinC h (fun (s : Unit) e w => ∃ (g : Gh) , Fr gI wI g w ∧ e 7 = p6 ∧ OB 2007 g w 24 (y5.1 : LoomMill) p6 ∧ e 8 = d3 ∧ RV g.m w (j3 : List LoomOrder) d3 ∧ e 11 = j1 ∧ RV g.m w (z2.1 : List Int) j1 ∧ e 12 = .int .i64 (z2.2) ∧ e 13 = u0 ∧ RV g.m w (i3.1 : List Int) u0) (fun X1276 bN jP h => ?_) ?_
      ·refine E_seq (E_region (EL_mv oX rfl ?_))
       refine EL_in (.bool ((o0.2.2 == (0 : Int)))) rfl rfl rfl rfl ?_
       refine EL_nil (thn_n ?_)
       rcases csome h with ⟨rG, h⟩ | ⟨rG, h⟩
       ·refine E_ct rG rfl ?_
        refine E_seq (E_region (EL_at (.int .i64 (0)) rfl rfl ?_))
        refine EL_nil (thn_n ?_)
        obtain ⟨e7, hx, h⟩ := bsome h
        refine E_join (fun e w => ∃ (g : Gh) , Fr gI wI g w ∧ e 7 = p6 ∧ OB 2007 g w 24 (y5.1 : LoomMill) p6 ∧ e 8 = d3 ∧ RV g.m w (j3 : List LoomOrder) d3 ∧ e 11 = j1 ∧ RV g.m w (z2.1 : List Int) j1 ∧ e 12 = .int .i64 (z2.2) ∧ e 13 = u0 ∧ RV g.m w (i3.1 : List Int) u0 ∧ e 17 = p4 ∧ OB 2017 g w 48 (o0.1 : Span) p4 ∧ e 18 = .int .i64 (o0.2.1) ∧ e 33 = .int .i64 (e7)) (fun Q' hQ => ?_) (fun p0A n0D hR => ?_)
        ·replace h := hx
         clear hx
         refine E_seq (E_region (EL_at (.int .i64 (0)) rfl rfl ?_))
         refine EL_nil (thn_n (E_block ?_))
         refine E_lp h (fun (s : Int × Int) e w => ∃ (g : Gh) , Fr gI wI g w ∧ e 7 = p6 ∧ OB 2007 g w 24 (y5.1 : LoomMill) p6 ∧ e 8 = d3 ∧ RV g.m w (j3 : List LoomOrder) d3 ∧ e 11 = j1 ∧ RV g.m w (z2.1 : List Int) j1 ∧ e 12 = .int .i64 (z2.2) ∧ e 13 = u0 ∧ RV g.m w (i3.1 : List Int) u0 ∧ e 17 = p4 ∧ OB 2017 g w 48 (o0.1 : Span) p4 ∧ e 18 = .int .i64 (o0.2.1) ∧ e 33 = .int .i64 (s.1) ∧ e 34 = .int .i64 (s.2)) ⟨c02, hfr, dP, eP, gP, iP, mM, nM, oM, pM, qM, lX, mX, nX, rfl, rfl⟩ (fun X1573 qT d02 => ?_)
         rintro ⟨t7, m4⟩ q0A o0D ⟨vT, hfr, rM, sM, mE, nE, sG, tG, uG, vG, xG, yG, zG, aH, bH, cH⟩ h
         refine E_joinC h (fun (s : Unit) e w => ∃ (g : Gh) , Fr gI wI g w ∧ e 7 = p6 ∧ OB 2007 g w 24 (y5.1 : LoomMill) p6 ∧ e 8 = d3 ∧ RV g.m w (j3 : List LoomOrder) d3 ∧ e 11 = j1 ∧ RV g.m w (z2.1 : List Int) j1 ∧ e 12 = .int .i64 (z2.2) ∧ e 13 = u0 ∧ RV g.m w (i3.1 : List Int) u0 ∧ e 17 = p4 ∧ OB 2017 g w 48 (o0.1 : Span) p4 ∧ e 18 = .int .i64 (o0.2.1) ∧ e 33 = .int .i64 (t7) ∧ e 34 = .int .i64 (m4)) (fun X1576 rT e02 h => ?_) ?_
         ·refine E_seq (E_region (EL_mv cH rfl ?_))
          refine EL_mv mE rfl ?_
          refine EL_pur (v := .int .i64 ((j3).length : Int)) (P_len Try.underlying25 rfl nE) .plain rfl ?_
          refine EL_in (.bool ((decide (m4 < ((j3).length : Int))))) rfl rfl rfl rfl ?_
          refine EL_nil (thn_n ?_)
          rcases csome h with ⟨dH, h⟩ | ⟨dH, h⟩
          ·refine E_ct dH rfl ?_
           exact E_skip (thn_n (e02 () _ _ ⟨vT, hfr, rM, sM, mE, nE, sG, tG, uG, vG, xG, yG, zG, aH, bH, cH⟩ h))
          ·refine E_cf dH rfl ?_
           refine E_exit ?_
           refine thn_e ?_
           refine thn_e ?_
           refine blk_hit ?_
           obtain rfl := sinj h
           exact hQ _ _ ⟨vT, hfr, rM, sM, mE, nE, sG, tG, uG, vG, xG, yG, zG, aH, bH⟩
         ·rintro _ r0A p0D ⟨xT, hfr, tM, z9, kB, c7, gH, z8, iH, jH, a9, lA, j6, kH, lH, mA⟩ h
          obtain ⟨uB, hx, h⟩ := bsome h
          refine E_join (fun e w => ∃ (g : Gh) , Fr gI wI g w ∧ e 7 = p6 ∧ OB 2007 g w 24 (y5.1 : LoomMill) p6 ∧ e 8 = d3 ∧ RV g.m w (j3 : List LoomOrder) d3 ∧ e 11 = j1 ∧ RV g.m w (z2.1 : List Int) j1 ∧ e 12 = .int .i64 (z2.2) ∧ e 13 = u0 ∧ RV g.m w (i3.1 : List Int) u0 ∧ e 17 = p4 ∧ OB 2017 g w 48 (o0.1 : Span) p4 ∧ e 18 = .int .i64 (o0.2.1) ∧ e 33 = .int .i64 (uB) ∧ e 34 = .int .i64 (m4)) (fun Q' hQ => ?_) (fun s0A q0D hR => ?_)
          ·replace h := hx
           clear hx
           refine E_block ?_
           obtain ⟨j9, hx, h⟩ := bsome h
           refine E_join (fun e w => ∃ (g : Gh) , Fr gI wI g w ∧ e 7 = p6 ∧ OB 2007 g w 24 (y5.1 : LoomMill) p6 ∧ e 8 = d3 ∧ RV g.m w (j3 : List LoomOrder) d3 ∧ e 11 = j1 ∧ RV g.m w (z2.1 : List Int) j1 ∧ e 12 = .int .i64 (z2.2) ∧ e 13 = u0 ∧ RV g.m w (i3.1 : List Int) u0 ∧ e 17 = p4 ∧ OB 2017 g w 48 (o0.1 : Span) p4 ∧ e 18 = .int .i64 (o0.2.1) ∧ e 33 = .int .i64 (t7) ∧ e 34 = .int .i64 (m4) ∧ e 258 = .bool (j9)) (fun Q' hQ => ?_) (fun t0A r0D hR => ?_)
           ·replace h := hx
            clear hx
            obtain ⟨g9, mH, h⟩ := bsome h
            have rN := PT_idx c7 mH
            have r04 := PT_field (part_LoomOrder_3).1 rN
            refine L_load (x := .tmp 244) Try.isAgg3 Try.sizeOf3 r04 fun s0D s04 kP => ?_
            obtain rfl := RV_int.1 s04
            refine L_loadO (x := .tmp 246) part_Span_0.1 Try.isAgg3 Try.sizeOf3 j6 fun t0D t04 lP => ?_
            obtain rfl := RV_int.1 t04
            rcases csome h with ⟨x5, h⟩ | ⟨x5, h⟩
            ·obtain ⟨rD, mP, h⟩ := bsome h
             have yT := PT_idx c7 mP
             have u04 := PT_field (part_LoomOrder_4).1 yT
             refine L_load (x := .tmp 253) Try.isAgg3 Try.sizeOf3 u04 fun u0D v04 g02 => ?_
             obtain rfl := RV_int.1 v04
             refine L_loadO (x := .tmp 255) part_Span_1.1 Try.isAgg3 Try.sizeOf3 j6 fun v0D x04 h02 => ?_
             obtain rfl := RV_int.1 x04
             refine E_drawL (g := xT) (n := 18) [] [0, 1, 2, 3, 4, 5, 6, 7, 8, 9, 10, 11, 12, 13, 14, 15, 16, 17] rfl mixed (by kernel_rfl) trivial ?_
             refine L_pur (c := d3) rfl rfl .plain (fun _ _ hd => P_move kB) ?_
             refine L_pur (c := .int .i64 (m4)) rfl rfl .plain (fun _ _ hd => P_move mA) ?_
             refine L_pur (c := ePtr d3 m4 5) rfl rfl .plain (fun _ _ hd => P_indexAddr (α := LoomOrder) Try.underlying25 Try.sizeOf82 rfl c7 rfl mH) ?_
             refine L_pur (c := fPtr (ePtr d3 m4 5) 3) rfl rfl .plain (fun _ _ hd => P_fieldAddr at_82_3 rfl (PT.ptr rN)) ?_
             refine L_ld (c := .int .i64 ((g9).Early)) rfl rfl .plain (fun _ _ h => h.ch) kP rfl ?_
             refine L_pur (c := fPtr p4 0) rfl rfl .plain (fun _ _ hd => P_fieldAddr at_48_0 lA (OB.ptr j6)) ?_
             refine L_ld (c := .int .i64 ((o0.1).Low)) rfl rfl .plain (fun _ _ h => ⟨h.ch, fun b hb _ => h.below.block b hb⟩) lP rfl ?_
             refine L_pur (c := .bool ((decide ((g9).Early ≥ (o0.1).Low)))) rfl rfl .plain (fun _ _ hd => P_int rfl rfl rfl) ?_
             refine L_pur (c := .bool ((decide ((g9).Early ≥ (o0.1).Low)))) rfl rfl .plain (fun _ _ hd => P_move rfl) ?_
             refine L_pur (c := d3) rfl rfl (.yes2 rfl rfl x5) (fun _ _ hd => P_move kB) ?_
             refine L_pur (c := .int .i64 (m4)) rfl rfl (.yes2 rfl rfl x5) (fun _ _ hd => P_move mA) ?_
             refine L_pur (c := ePtr d3 m4 5) rfl rfl (.yes2 rfl rfl x5) (fun _ _ hd => P_indexAddr (α := LoomOrder) Try.underlying25 Try.sizeOf82 rfl c7 rfl mP) ?_
             refine L_pur (c := fPtr (ePtr d3 m4 5) 4) rfl rfl (.yes2 rfl rfl x5) (fun _ _ hd => P_fieldAddr at_82_4 rfl (PT.ptr yT)) ?_
             refine L_ld (c := .int .i64 ((rD).Late)) rfl rfl (.yes2 rfl rfl x5) (fun _ _ h => h.ch) g02 rfl ?_
             refine L_pur (c := fPtr p4 1) rfl rfl (.yes2 rfl rfl x5) (fun _ _ hd => P_fieldAddr at_48_1 lA (OB.ptr j6)) ?_
             refine L_ld (c := .int .i64 ((o0.1).High)) rfl rfl (.yes2 rfl rfl x5) (fun _ _ h => ⟨h.ch, fun b hb _ => h.below.block b hb⟩) h02 rfl ?_
             refine L_pur (c := .bool ((decide ((rD).Late ≤ (o0.1).High)))) rfl rfl (.yes2 rfl rfl x5) (fun _ _ hd => P_int rfl rfl rfl) ?_
             refine L_pur (c := .bool ((decide ((rD).Late ≤ (o0.1).High)))) rfl rfl .plain (fun _ _ hd => P_pick (b := (decide ((g9).Early ≥ (o0.1).Low))) rfl (pick_t x5 rfl)) ?_
             refine L_nil fun y04 x0D hall => ?_
             have hs := hall.1
             have hfr := hfr.ext hs
             have z9 := z9.ext hs
             have c7 := c7.ext hs
             have z8 := z8.ext hs
             have a9 := a9.ext hs
             have j6 := j6.ext hs
             clear hs hall
             refine EL_nil ?_
             obtain rfl := sinj h
             exact hQ _ _ ⟨y04, hfr, tM, z9, kB, c7, gH, z8, iH, jH, a9, lA, j6, kH, lH, mA, rfl⟩
            ·refine E_drawL (g := xT) (n := 18) [] [0, 1, 2, 3, 4, 5, 6, 7, 8, 9, 10, 11, 12, 13, 14, 15, 16, 17] rfl mixed (by kernel_rfl) trivial ?_
             refine L_pur (c := d3) rfl rfl .plain (fun _ _ hd => P_move kB) ?_
             refine L_pur (c := .int .i64 (m4)) rfl rfl .plain (fun _ _ hd => P_move mA) ?_
             refine L_pur (c := ePtr d3 m4 5) rfl rfl .plain (fun _ _ hd => P_indexAddr (α := LoomOrder) Try.underlying25 Try.sizeOf82 rfl c7 rfl mH) ?_
             refine L_pur (c := fPtr (ePtr d3 m4 5) 3) rfl rfl .plain (fun _ _ hd => P_fieldAddr at_82_3 rfl (PT.ptr rN)) ?_
             refine L_ld (c := .int .i64 ((g9).Early)) rfl rfl .plain (fun _ _ h => h.ch) kP rfl ?_
             refine L_pur (c := fPtr p4 0) rfl rfl .plain (fun _ _ hd => P_fieldAddr at_48_0 lA (OB.ptr j6)) ?_
             refine L_ld (c := .int .i64 ((o0.1).Low)) rfl rfl .plain (fun _ _ h => ⟨h.ch, fun b hb _ => h.below.block b hb⟩) lP rfl ?_
             refine L_pur (c := .bool ((decide ((g9).Early ≥ (o0.1).Low)))) rfl rfl .plain (fun _ _ hd => P_int rfl rfl rfl) ?_
             refine L_pur (c := .bool ((decide ((g9).Early ≥ (o0.1).Low)))) rfl rfl .plain (fun _ _ hd => P_move rfl) ?_
             refine L_skip rfl (.no2 rfl rfl x5 rfl) ?_
             refine L_skip rfl (.no2 rfl rfl x5 rfl) ?_
             refine L_skip rfl (.no2 rfl rfl x5 rfl) ?_
             refine L_skip rfl (.no2 rfl rfl x5 rfl) ?_
             refine L_skip rfl (.no2 rfl rfl x5 rfl) ?_
             refine L_skip rfl (.no2 rfl rfl x5 rfl) ?_
             refine L_skip rfl (.no2 rfl rfl x5 rfl) ?_
             refine L_skip rfl (.no2 rfl rfl x5 rfl) ?_
             refine L_pur (c := .bool false) rfl rfl .plain (fun _ _ hd => P_pick (b := (decide ((g9).Early ≥ (o0.1).Low))) rfl (pick_f x5 rfl)) ?_
             refine L_nil fun z04 y0D hall => ?_
             have hs := hall.1
             have hfr := hfr.ext hs
             have z9 := z9.ext hs
             have c7 := c7.ext hs
             have z8 := z8.ext hs
             have a9 := a9.ext hs
             have j6 := j6.ext hs
             clear hs hall
             refine EL_nil ?_
             obtain rfl := sinj h
             exact hQ _ _ ⟨z04, hfr, tM, z9, kB, c7, gH, z8, iH, jH, a9, lA, j6, kH, lH, mA, rfl⟩
           ·clear hx
            obtain ⟨sN, hfr, uM, vM, oE, bD, nH, oH, pH, qH, sH, tH, uH, vH, xH, gD, yE⟩ := hR
            rcases csome h with ⟨yH, h⟩ | ⟨yH, h⟩
            ·refine E_cond_true (Eq.trans (show ev _ _ = .bool (j9) from yE) (congrArg Value.bool yH)) ?_
             refine E_region (EL_mv xH rfl ?_)
             refine EL_mv oE rfl ?_
             refine EL_mv gD rfl ?_
             obtain ⟨gF, nP, h⟩ := bsome h
             refine EL_pur (v := ePtr d3 m4 5) (P_indexAddr (α := LoomOrder) Try.underlying25 Try.sizeOf82 rfl bD rfl nP) .plain rfl ?_
             have zT := PT_idx bD nP
             refine EL_pur (v := fPtr (ePtr d3 m4 5) 2) (P_fieldAddr at_82_2 rfl (PT.ptr zT)) .plain rfl ?_
             have a05 := PT_field (part_LoomOrder_2).1 zT
             refine EL_do .plain rfl (D_load (g := sN) Try.isAgg3 Try.sizeOf3 rfl a05 fun z0D b05 => ?_)
             obtain rfl := RV_int.1 b05
             refine EL_in (.int .i64 ((w64 (t7 + (gF).Woven)))) rfl rfl rfl rfl ?_
             refine EL_at (.int .i64 ((w64 (t7 + (gF).Woven)))) rfl rfl ?_
             refine EL_nil (blk_n ?_)
             obtain rfl := sinj h
             exact hQ _ _ ⟨sN, hfr, uM, vM, oE, bD, nH, oH, pH, qH, sH, tH, uH, vH, rfl, gD⟩
            ·refine E_cond_false (Eq.trans (show ev _ _ = .bool (j9) from yE) (congrArg Value.bool yH)) ?_
             refine E_skip (blk_n ?_)
             obtain rfl := sinj h
             exact hQ _ _ ⟨sN, hfr, uM, vM, oE, bD, nH, oH, pH, qH, sH, tH, uH, vH, xH, gD⟩
          ·clear hx
           obtain ⟨c05, hfr, pX, qX, rX, sX, bQ, cQ, dQ, eQ, gQ, iQ, jQ, kQ, lQ, mQ⟩ := hR
           refine E_region (EL_mv mQ rfl ?_)
           refine EL_in (.int .i64 ((w64 (m4 + (1 : Int))))) rfl rfl rfl rfl ?_
           refine EL_at (.int .i64 ((w64 (m4 + (1 : Int))))) rfl rfl ?_
           exact EL_nil (thn_n (d02 (uB, (w64 (m4 + (1 : Int)))) _ _ ⟨c05, hfr, pX, qX, rX, sX, bQ, cQ, dQ, eQ, gQ, iQ, jQ, kQ, lQ, rfl⟩ h))
        ·clear hx
         obtain ⟨n8, hfr, bA, d9, lB, mB, nA, oA, pA, qA, rA, e9, i6, zH, nQ⟩ := hR
         obtain ⟨k9, hx, h⟩ := bsome h
         refine E_join (fun e w => ∃ (g : Gh) , Fr gI wI g w ∧ e 7 = p6 ∧ OB 2007 g w 24 (y5.1 : LoomMill) p6 ∧ e 8 = d3 ∧ RV g.m w (j3 : List LoomOrder) d3 ∧ e 11 = j1 ∧ RV g.m w (z2.1 : List Int) j1 ∧ e 12 = .int .i64 (z2.2) ∧ e 13 = u0 ∧ RV g.m w (i3.1 : List Int) u0 ∧ e 298 = .bool (k9)) (fun Q' hQ => ?_) (fun u0A a0E hR => ?_)
         ·replace h := hx
          clear hx
          refine E_region (EL_pur (v := fPtr p4 0) (P_fieldAddr at_48_0 e9 (OB.ptr i6)) .plain rfl ?_)
          refine EL_do .plain rfl (D_loadF (g := n8) part_Span_0.1 Try.isAgg3 Try.sizeOf3 rfl i6 fun b0E d05 => ?_)
          obtain rfl := RV_int.1 d05
          refine EL_in (.bool ((decide ((o0.1).Low < (0 : Int))))) rfl rfl rfl rfl ?_
          refine EL_mw (.bool ((decide ((o0.1).Low < (0 : Int))))) rfl rfl ?_
          rcases csome h with ⟨r8, h⟩ | ⟨r8, h⟩
          ·refine EL_skip (.no2 rfl rfl r8 rfl) rfl ?_
           refine EL_skip (.no2 rfl rfl r8 rfl) rfl ?_
           refine EL_skip (.no2 rfl rfl r8 rfl) rfl ?_
           refine EL_pur (v := .bool true) (P_pick (b := (decide ((o0.1).Low < (0 : Int)))) rfl (pick_t r8 rfl)) .plain rfl ?_
           refine EL_dead 25 rfl ?_
           refine EL_nil ?_
           obtain rfl := sinj h
           exact hQ _ _ ⟨n8, hfr, bA, d9, lB, mB, nA, oA, pA, qA, rA, rfl⟩
          ·refine EL_pur (v := fPtr p4 1) (P_fieldAddr at_48_1 e9 (OB.ptr i6)) (.yes2 rfl rfl r8) rfl ?_
           refine EL_do (.yes2 rfl rfl r8) rfl (D_loadF (g := n8) part_Span_1.1 Try.isAgg3 Try.sizeOf3 rfl i6 fun c0E e05 => ?_)
           obtain rfl := RV_int.1 e05
           refine EL_pur (v := .bool ((decide ((o0.1).High > (300 : Int))))) (P_int rfl rfl rfl) (.yes2 rfl rfl r8) rfl ?_
           refine EL_pur (v := .bool ((decide ((o0.1).High > (300 : Int))))) (P_pick (b := (decide ((o0.1).Low < (0 : Int)))) rfl (pick_f r8 rfl)) .plain rfl ?_
           refine EL_mw (.bool ((decide ((o0.1).High > (300 : Int))))) rfl rfl ?_
           rcases csome h with ⟨d7, h⟩ | ⟨d7, h⟩
           ·refine EL_skip (.no2 rfl rfl d7 rfl) rfl ?_
            refine EL_skip (.no2 rfl rfl d7 rfl) rfl ?_
            refine EL_skip (.no2 rfl rfl d7 rfl) rfl ?_
            refine EL_skip (.no2 rfl rfl d7 rfl) rfl ?_
            refine EL_skip (.no2 rfl rfl d7 rfl) rfl ?_
            refine EL_pur (v := .bool true) (P_pick (b := (decide ((o0.1).High > (300 : Int)))) rfl (pick_t d7 rfl)) .plain rfl ?_
            refine EL_dead 18 rfl ?_
            refine EL_nil ?_
            obtain rfl := sinj h
            exact hQ _ _ ⟨n8, hfr, bA, d9, lB, mB, nA, oA, pA, qA, rA, rfl⟩
           ·refine EL_pur (v := fPtr p4 0) (P_fieldAddr at_48_0 e9 (OB.ptr i6)) (.yes2 rfl rfl d7) rfl ?_
            refine EL_do (.yes2 rfl rfl d7) rfl (D_loadF (g := n8) part_Span_0.1 Try.isAgg3 Try.sizeOf3 rfl i6 fun d0E g05 => ?_)
            obtain rfl := RV_int.1 g05
            refine EL_pur (v := fPtr p4 1) (P_fieldAddr at_48_1 e9 (OB.ptr i6)) (.yes2 rfl rfl d7) rfl ?_
            refine EL_do (.yes2 rfl rfl d7) rfl (D_loadF (g := n8) part_Span_1.1 Try.isAgg3 Try.sizeOf3 rfl i6 fun e0E h05 => ?_)
            obtain rfl := RV_int.1 h05
            refine EL_pur (v := .bool ((decide ((o0.1).Low ≥ (o0.1).High)))) (P_int rfl rfl rfl) (.yes2 rfl rfl d7) rfl ?_
            refine EL_pur (v := .bool ((decide ((o0.1).Low ≥ (o0.1).High)))) (P_pick (b := (decide ((o0.1).High > (300 : Int)))) rfl (pick_f d7 rfl)) .plain rfl ?_
            refine EL_mw (.bool ((decide ((o0.1).Low ≥ (o0.1).High)))) rfl rfl ?_
            rcases csome h with ⟨t8, h⟩ | ⟨t8, h⟩
            ·refine EL_skip (.no2 rfl rfl t8 rfl) rfl ?_
             refine EL_skip (.no2 rfl rfl t8 rfl) rfl ?_
             refine EL_skip (.no2 rfl rfl t8 rfl) rfl ?_
             refine EL_pur (v := .bool true) (P_pick (b := (decide ((o0.1).Low ≥ (o0.1).High))) rfl (pick_t t8 rfl)) .plain rfl ?_
             refine EL_dead 13 rfl ?_
             refine EL_nil ?_
             obtain rfl := sinj h
             exact hQ _ _ ⟨n8, hfr, bA, d9, lB, mB, nA, oA, pA, qA, rA, rfl⟩
            ·refine EL_pur (v := .int .i64 (e7)) (P_move nQ) (.yes2 rfl rfl t8) rfl ?_
             refine EL_pur (v := .int .i64 (o0.2.1)) (P_move zH) (.yes2 rfl rfl t8) rfl ?_
             refine EL_pur (v := .bool ((e7 != o0.2.1))) (P_int rfl rfl rfl) (.yes2 rfl rfl t8) rfl ?_
             refine EL_pur (v := .bool ((e7 != o0.2.1))) (P_pick (b := (decide ((o0.1).Low ≥ (o0.1).High))) rfl (pick_f t8 rfl)) .plain rfl ?_
             refine EL_mw (.bool ((e7 != o0.2.1))) rfl rfl ?_
             rcases csome h with ⟨l5, h⟩ | ⟨l5, h⟩
             ·refine EL_skip (.no2 rfl rfl l5 rfl) rfl ?_
              refine EL_skip (.no2 rfl rfl l5 rfl) rfl ?_
              refine EL_skip (.no2 rfl rfl l5 rfl) rfl ?_
              refine EL_skip (.no2 rfl rfl l5 rfl) rfl ?_
              refine EL_skip (.no2 rfl rfl l5 rfl) rfl ?_
              refine EL_skip (.no2 rfl rfl l5 rfl) rfl ?_
              refine EL_skip (.no2 rfl rfl l5 rfl) rfl ?_
              refine EL_skip (.no2 rfl rfl l5 rfl) rfl ?_
              refine EL_skip (.no2 rfl rfl l5 rfl) rfl ?_
              refine EL_skip (.no2 rfl rfl l5 rfl) rfl ?_
              refine EL_skip (.no2 rfl rfl l5 rfl) rfl ?_
              refine EL_pur (v := .bool true) (P_pick (b := (e7 != o0.2.1)) rfl (pick_t l5 rfl)) .plain rfl ?_
              refine EL_nil ?_
              obtain rfl := sinj h
              exact hQ _ _ ⟨n8, hfr, bA, d9, lB, mB, nA, oA, pA, qA, rA, rfl⟩
             ·refine EL_pur (v := .int .i64 (o0.2.1)) (P_move zH) (.yes2 rfl rfl l5) rfl ?_
              refine EL_pur (v := fPtr p4 1) (P_fieldAddr at_48_1 e9 (OB.ptr i6)) (.yes2 rfl rfl l5) rfl ?_
              refine EL_do (.yes2 rfl rfl l5) rfl (D_loadF (g := n8) part_Span_1.1 Try.isAgg3 Try.sizeOf3 rfl i6 fun g0E i05 => ?_)
              obtain rfl := RV_int.1 i05
              refine EL_pur (v := fPtr p4 0) (P_fieldAddr at_48_0 e9 (OB.ptr i6)) (.yes2 rfl rfl l5) rfl ?_
              refine EL_do (.yes2 rfl rfl l5) rfl (D_loadF (g := n8) part_Span_0.1 Try.isAgg3 Try.sizeOf3 rfl i6 fun h0E j05 => ?_)
              obtain rfl := RV_int.1 j05
              refine EL_pur (v := .int .i64 ((w64 ((o0.1).High - (o0.1).Low)))) (P_int rfl rfl rfl) (.yes2 rfl rfl l5) rfl ?_
              refine EL_pur (v := fPtr p6 0) (P_fieldAddr at_24_0 bA (OB.ptr d9)) (.yes2 rfl rfl l5) rfl ?_
              refine EL_do (.yes2 rfl rfl l5) rfl (D_loadF (g := n8) part_LoomMill_0.1 Try.isAgg22 Try.sizeOf22 rfl d9 fun i0E k05 => ?_)
              refine EL_pur (v := .int .i64 (((y5.1).Widths).length : Int)) (P_len Try.underlying22 rfl k05) (.yes2 rfl rfl l5) rfl ?_
              refine EL_pur (v := .int .i64 ((w64 ((w64 ((o0.1).High - (o0.1).Low)) * (((y5.1).Widths).length : Int))))) (P_int rfl rfl rfl) (.yes2 rfl rfl l5) rfl ?_
              refine EL_pur (v := .bool ((decide (o0.2.1 ≤ (w64 ((w64 ((o0.1).High - (o0.1).Low)) * (((y5.1).Widths).length : Int))))))) (P_int rfl rfl rfl) (.yes2 rfl rfl l5) rfl ?_
              refine EL_pur (v := .bool ((decide (o0.2.1 ≤ (w64 ((w64 ((o0.1).High - (o0.1).Low)) * (((y5.1).Widths).length : Int))))))) (P_pick (b := (e7 != o0.2.1)) rfl (pick_f l5 rfl)) .plain rfl ?_
              refine EL_nil ?_
              obtain rfl := sinj h
              exact hQ _ _ ⟨n8, hfr, bA, d9, lB, mB, nA, oA, pA, qA, rA, rfl⟩
         ·clear hx
          obtain ⟨l05, hfr, tX, uX, vX, xX, oQ, pQ, qQ, rQ, sQ, zE⟩ := hR
          rcases csome h with ⟨aI, h⟩ | ⟨aI, h⟩
          ·refine E_cond_true (Eq.trans (show ev _ _ = .bool (k9) from zE) (congrArg Value.bool aI)) ?_
           refine E_seq (E_region (EL_at (.bool false) rfl rfl ?_))
           refine EL_nil (thn_n (E_ret (thn_r ?_)))
           obtain rfl := sinj h
           exact end1 rfl rfl (show _ = .bool false from rfl) ⟨_, hfr, rfl⟩
          ·refine E_cond_false (Eq.trans (show ev _ _ = .bool (k9) from zE) (congrArg Value.bool aI)) ?_
           exact E_skip (thn_n (jP () _ _ ⟨l05, hfr, tX, uX, vX, xX, oQ, pQ, qQ, rQ, sQ⟩ h))
       ·refine E_cf rG rfl ?_
        exact E_skip (thn_n (jP () _ _ ⟨c02, hfr, dP, eP, gP, iP, mM, nM, oM, pM, qM⟩ h))
      ·rintro _ v0A j0E ⟨iF, hfr, yX, zX, aY, bY, bI, cI, dI, tQ, uQ⟩ h
       refine E_joinC h (fun (s : Unit) e w => ∃ (g : Gh) , Fr gI wI g w ∧ e 7 = p6 ∧ OB 2007 g w 24 (y5.1 : LoomMill) p6 ∧ e 8 = d3 ∧ RV g.m w (j3 : List LoomOrder) d3 ∧ e 11 = j1 ∧ RV g.m w (z2.1 : List Int) j1 ∧ e 13 = u0 ∧ RV g.m w (i3.1 : List Int) u0) (fun X1918 pT i02 h => ?_) ?_
       ·refine E_seq (E_region (EL_mv dI rfl ?_))
        refine EL_in (.bool ((z2.2 != (0 : Int)))) rfl rfl rfl rfl ?_
        refine EL_nil (thn_n ?_)
        rcases csome h with ⟨eI, h⟩ | ⟨eI, h⟩
        ·refine E_ct eI rfl ?_
         obtain ⟨rC, hx, h⟩ := bsome h
         refine E_join (fun e w => ∃ (g : Gh) , Fr gI wI g w ∧ e 6 = .bool (rC)) (fun Q' hQ => ?_) (fun x0A k0E hR => ?_)
         ·replace h := hx
          clear hx
          refine E_region (EL_mv dI rfl ?_)
          refine EL_in (.bool ((z2.2 == (7 : Int)))) rfl rfl rfl rfl ?_
          refine EL_mw (.bool ((z2.2 == (7 : Int)))) rfl rfl ?_
          rcases csome h with ⟨v8, h⟩ | ⟨v8, h⟩
          ·refine EL_pur (v := j1) (P_move bI) (.yes2 rfl rfl v8) rfl ?_
           refine EL_pur (v := .int .i64 ((z2.1).length : Int)) (P_len Try.underlying22 rfl cI) (.yes2 rfl rfl v8) rfl ?_
           refine EL_pur (v := .bool ((((z2.1).length : Int) == (0 : Int)))) (P_int rfl rfl rfl) (.yes2 rfl rfl v8) rfl ?_
           refine EL_pur (v := .bool ((((z2.1).length : Int) == (0 : Int)))) (P_pick (b := (z2.2 == (7 : Int))) rfl (pick_t v8 rfl)) .plain rfl ?_
           refine EL_mw (.bool ((((z2.1).length : Int) == (0 : Int)))) rfl rfl ?_
           rcases csome h with ⟨lC, h⟩ | ⟨lC, h⟩
           ·obtain ⟨eF, j02, h⟩ := bsome h
            refine EL_do (.yes2 rfl rfl lC) rfl (D_call (g := iF) (vs := []) en14 .nil (wk14  j02) fun m05 y0A l0E hs hr => ?_)
            have hfr := hfr.ext hs
            subst hr
            refine EL_pur (v := .bool (eF)) (P_pick (b := (((z2.1).length : Int) == (0 : Int))) rfl (pick_t lC rfl)) .plain rfl ?_
            refine EL_at (.bool (eF)) rfl rfl ?_
            refine EL_nil ?_
            obtain rfl := sinj h
            exact hQ _ _ ⟨m05, hfr, rfl⟩
           ·refine EL_skip (.no2 rfl rfl lC rfl) rfl ?_
            refine EL_pur (v := .bool false) (P_pick (b := (((z2.1).length : Int) == (0 : Int))) rfl (pick_f lC rfl)) .plain rfl ?_
            refine EL_at (.bool false) rfl rfl ?_
            refine EL_nil ?_
            obtain rfl := sinj h
            exact hQ _ _ ⟨iF, hfr, rfl⟩
          ·refine EL_skip (.no2 rfl rfl v8 rfl) rfl ?_
           refine EL_skip (.no2 rfl rfl v8 rfl) rfl ?_
           refine EL_skip (.no2 rfl rfl v8 rfl) rfl ?_
           refine EL_pur (v := .bool false) (P_pick (b := (z2.2 == (7 : Int))) rfl (pick_f v8 rfl)) .plain rfl ?_
           refine EL_dead 3 rfl ?_
           refine EL_at (.bool false) rfl rfl ?_
           refine EL_nil ?_
           obtain rfl := sinj h
           exact hQ _ _ ⟨iF, hfr, rfl⟩
         ·clear hx
          obtain ⟨m0E, hfr, cY⟩ := hR
          refine E_ret (thn_r ?_)
          obtain rfl := sinj h
          exact end1 rfl rfl (show _ = .bool (rC) from cY) ⟨_, hfr, rfl⟩
        ·refine E_cf eI rfl ?_
         exact E_skip (thn_n (i02 () _ _ ⟨iF, hfr, yX, zX, aY, bY, bI, cI, tQ, uQ⟩ h))
       ·rintro _ z0A n0E ⟨n05, hfr, xM, cD, dY, eY, iD, sA, iI, aC⟩ h
        refine E_seq (E_region (EL_mv dY rfl ?_))
        refine EL_mv iD rfl ?_
        obtain ⟨t5, k02, h⟩ := bsome h
        refine EL_do .plain rfl (D_call (g := n05) (vs := [d3, j1]) en42 (.cons rfl (.cons rfl .nil)) (wk42 eY sA k02) fun aU a0B o0E hs hr => ?_)
        have hfr := hfr.ext hs
        have cD := cD.ext hs
        have sA := sA.ext hs
        have aC := aC.ext hs
        obtain ⟨rE, p5, r09, rfl, s09, sE, rfl⟩ := hr
        refine EL_mw (.tuple #[rE, p5, .bool (t5.2.2)]) rfl rfl ?_
        refine EL_pur (v := rE) (P_extract rfl rfl) .plain rfl ?_
        refine EL_pur (v := p5) (P_extract rfl rfl) .plain rfl ?_
        refine EL_pur (v := .bool (t5.2.2)) (P_extract rfl rfl) .plain rfl ?_
        refine EL_at rE rfl rfl ?_
        refine EL_at p5 rfl rfl ?_
        refine EL_at (.bool (t5.2.2)) rfl rfl ?_
        refine EL_nil (thn_n (E_joinC h (fun (s : Unit) e w => ∃ (g : Gh) , Fr gI wI g w ∧ e 7 = p6 ∧ OB 2007 g w 24 (y5.1 : LoomMill) p6 ∧ e 11 = j1 ∧ RV g.m w (z2.1 : List Int) j1 ∧ e 13 = u0 ∧ RV g.m w (i3.1 : List Int) u0 ∧ e 36 = p5 ∧ RV g.m w (t5.2.1 : List LoomOrder) p5) (fun X1936 oT l02 h => ?_) ?_))
        ·obtain ⟨i9, hx, h⟩ := bsome h
         refine E_join (fun e w => ∃ (g : Gh) , Fr gI wI g w ∧ e 7 = p6 ∧ OB 2007 g w 24 (y5.1 : LoomMill) p6 ∧ e 11 = j1 ∧ RV g.m w (z2.1 : List Int) j1 ∧ e 13 = u0 ∧ RV g.m w (i3.1 : List Int) u0 ∧ e 36 = p5 ∧ RV g.m w (t5.2.1 : List LoomOrder) p5 ∧ e 324 = .bool (i9)) (fun Q' hQ => ?_) (fun b0B p0E hR => ?_)
         ·replace h := hx
          clear hx
          refine E_region (EL_mw (.bool (t5.2.2)) rfl rfl ?_)
          refine EL_pur (v := .bool (!t5.2.2)) (P_not rfl) .plain rfl ?_
          refine EL_mw (.bool (!t5.2.2)) rfl rfl ?_
          rcases csome h with ⟨x8, h⟩ | ⟨x8, h⟩
          ·refine EL_skip (.no2 rfl rfl x8 rfl) rfl ?_
           refine EL_skip (.no2 rfl rfl x8 rfl) rfl ?_
           refine EL_skip (.no2 rfl rfl x8 rfl) rfl ?_
           refine EL_pur (v := .bool true) (P_pick (b := (!t5.2.2)) rfl (pick_t x8 rfl)) .plain rfl ?_
           refine EL_nil ?_
           obtain rfl := sinj h
           exact hQ _ _ ⟨aU, hfr, xM, cD, iD, sA, iI, aC, rfl, sE, rfl⟩
          ·refine EL_pur (v := p5) (P_move rfl) (.yes2 rfl rfl x8) rfl ?_
           refine EL_pur (v := .int .i64 ((t5.2.1).length : Int)) (P_len Try.underlying25 rfl sE) (.yes2 rfl rfl x8) rfl ?_
           refine EL_pur (v := .bool ((((t5.2.1).length : Int) == (0 : Int)))) (P_int rfl rfl rfl) (.yes2 rfl rfl x8) rfl ?_
           refine EL_pur (v := .bool ((((t5.2.1).length : Int) == (0 : Int)))) (P_pick (b := (!t5.2.2)) rfl (pick_f x8 rfl)) .plain rfl ?_
           refine EL_nil ?_
           obtain rfl := sinj h
           exact hQ _ _ ⟨aU, hfr, xM, cD, iD, sA, iI, aC, rfl, sE, rfl⟩
         ·clear hx
          obtain ⟨o05, hfr, gY, iY, vQ, xQ, yQ, zQ, aR, bR, cF⟩ := hR
          rcases csome h with ⟨jI, h⟩ | ⟨jI, h⟩
          ·refine E_cond_true (Eq.trans (show ev _ _ = .bool (i9) from cF) (congrArg Value.bool jI)) ?_
           refine E_seq (E_region (EL_at (.bool false) rfl rfl ?_))
           refine EL_nil (thn_n (E_ret (thn_r ?_)))
           obtain rfl := sinj h
           exact end1 rfl rfl (show _ = .bool false from rfl) ⟨_, hfr, rfl⟩
          ·refine E_cond_false (Eq.trans (show ev _ _ = .bool (i9) from cF) (congrArg Value.bool jI)) ?_
           exact E_skip (thn_n (l02 () _ _ ⟨o05, hfr, gY, iY, vQ, xQ, yQ, zQ, aR, bR⟩ h))
        ·rintro _ c0B q0E ⟨bU, hfr, yM, q8, cR, o8, dR, p8, kI, u7⟩ h
         refine E_joinC h (fun (s : Unit) e w => ∃ (g : Gh) , Fr gI wI g w ∧ e 7 = p6 ∧ OB 2007 g w 24 (y5.1 : LoomMill) p6 ∧ e 11 = j1 ∧ RV g.m w (z2.1 : List Int) j1 ∧ e 13 = u0 ∧ RV g.m w (i3.1 : List Int) u0 ∧ e 36 = p5 ∧ RV g.m w (t5.2.1 : List LoomOrder) p5) (fun X1950 lT m02 h => ?_) ?_
         ·refine E_seq (E_region (EL_do .plain rfl (D_loadO (g := bU) Try.isAgg24 Try.sizeOf24 yM q8 fun p05 q05 => ?_)))
          obtain ⟨mT, n02, h⟩ := bsome h
          refine EL_do .plain rfl (D_call (g := bU) (vs := [p05]) en15 (.cons rfl .nil) (wk15 q05 n02) fun r05 d0B s05 hs hr => ?_)
          have hfr := hfr.ext hs
          have q8 := q8.ext hs
          have o8 := o8.ext hs
          have p8 := p8.ext hs
          have u7 := u7.ext hs
          have tN := hr
          refine EL_mv kI rfl ?_
          obtain ⟨nT, o02, h⟩ := bsome h
          refine EL_do .plain rfl (D_call (g := r05) (vs := [p5]) en16 (.cons rfl .nil) (wk16 u7 o02) fun t05 e0B u05 hs hr => ?_)
          have hfr := hfr.ext hs
          have q8 := q8.ext hs
          have o8 := o8.ext hs
          have p8 := p8.ext hs
          have u7 := u7.ext hs
          have tN := tN.ext hs
          have v05 := hr
          obtain ⟨tB, p02, h⟩ := bsome h
          refine EL_do .plain rfl (D_call (g := t05) (vs := [s05, u05]) en17 (.cons rfl (.cons rfl .nil)) (wk17 tN v05 p02) fun x05 g0B r0E hs hr => ?_)
          have hfr := hfr.ext hs
          have q8 := q8.ext hs
          have o8 := o8.ext hs
          have p8 := p8.ext hs
          have u7 := u7.ext hs
          obtain ⟨tE, t09, rfl, u09, rfl⟩ := hr
          refine EL_mw (.tuple #[tE, .int .i64 (tB.2)]) rfl rfl ?_
          refine EL_pur (v := tE) (P_extract rfl rfl) .plain rfl ?_
          refine EL_pur (v := .int .i64 (tB.2)) (P_extract rfl rfl) .plain rfl ?_
          refine EL_at tE rfl rfl ?_
          refine EL_at (.int .i64 (tB.2)) rfl rfl ?_
          refine EL_nil (thn_n (E_seq (E_region (EL_mw (.int .i64 (tB.2)) rfl rfl ?_))))
          refine EL_in (.bool ((tB.2 != (9 : Int)))) rfl rfl rfl rfl ?_
          refine EL_nil (thn_n ?_)
          rcases csome h with ⟨lI, h⟩ | ⟨lI, h⟩
          ·refine E_ct lI rfl ?_
           refine E_seq (E_region (EL_at (.bool false) rfl rfl ?_))
           refine EL_nil (thn_n (E_ret (thn_r ?_)))
           obtain rfl := sinj h
           exact end1 rfl rfl (show _ = .bool false from rfl) ⟨_, hfr, rfl⟩
          ·refine E_cf lI rfl ?_
           exact E_skip (thn_n (m02 () _ _ ⟨x05, hfr, yM, q8, cR, o8, dR, p8, kI, u7⟩ h))
         ·rintro _ h0B s0E ⟨y05, hfr, jY, kY, eR, gR, iR, jR, kR, lR⟩ h
          refine E_joinC h (fun (s : Unit) e w => ∃ (g : Gh) , Fr gI wI g w ∧ e 11 = j1 ∧ RV g.m w (z2.1 : List Int) j1 ∧ e 13 = u0 ∧ RV g.m w (i3.1 : List Int) u0) (fun X1986 eT q02 h => ?_) ?_
          ·refine E_seq (E_region (EL_at (.int .i64 (0)) rfl rfl ?_))
           refine EL_nil (thn_n (E_block ?_))
           refine E_lp h (fun (s : Int) e w => ∃ (g : Gh) , Fr gI wI g w ∧ e 7 = p6 ∧ OB 2007 g w 24 (y5.1 : LoomMill) p6 ∧ e 11 = j1 ∧ RV g.m w (z2.1 : List Int) j1 ∧ e 13 = u0 ∧ RV g.m w (i3.1 : List Int) u0 ∧ e 36 = p5 ∧ RV g.m w (t5.2.1 : List LoomOrder) p5 ∧ e 39 = .int .i64 (s)) ⟨y05, hfr, jY, kY, eR, gR, iR, jR, kR, lR, rfl⟩ (fun X1987 gT r02 => ?_)
           rintro d6 i0B t0E ⟨cU, hfr, mY, nY, mI, nI, oI, pI, qI, rI, sI⟩ h
           refine E_joinC h (fun (s : Unit) e w => ∃ (g : Gh) , Fr gI wI g w ∧ e 7 = p6 ∧ OB 2007 g w 24 (y5.1 : LoomMill) p6 ∧ e 11 = j1 ∧ RV g.m w (z2.1 : List Int) j1 ∧ e 13 = u0 ∧ RV g.m w (i3.1 : List Int) u0 ∧ e 36 = p5 ∧ RV g.m w (t5.2.1 : List LoomOrder) p5 ∧ e 39 = .int .i64 (d6)) (fun X1990 kT s02 h => ?_) ?_
           ·refine E_seq (E_region (EL_mv sI rfl ?_))
            refine EL_mv qI rfl ?_
            refine EL_pur (v := .int .i64 ((t5.2.1).length : Int)) (P_len Try.underlying25 rfl rI) .plain rfl ?_
            refine EL_in (.bool ((decide (d6 < ((t5.2.1).length : Int))))) rfl rfl rfl rfl ?_
            refine EL_nil (thn_n ?_)
            rcases csome h with ⟨tI, h⟩ | ⟨tI, h⟩
            ·refine E_ct tI rfl ?_
             exact E_skip (thn_n (s02 () _ _ ⟨cU, hfr, mY, nY, mI, nI, oI, pI, qI, rI, sI⟩ h))
            ·refine E_cf tI rfl ?_
             refine E_exit ?_
             refine thn_e ?_
             refine thn_e ?_
             refine blk_hit ?_
             exact thn_n (q02 () _ _ ⟨cU, hfr, mI, nI, oI, pI⟩ h)
           ·rintro _ j0B u0E ⟨z05, hfr, zM, p7, mR, n7, nR, o7, uI, a7, vI⟩ h
            refine E_joinC h (fun (s : Unit) e w => ∃ (g : Gh) , Fr gI wI g w ∧ e 7 = p6 ∧ OB 2007 g w 24 (y5.1 : LoomMill) p6 ∧ e 11 = j1 ∧ RV g.m w (z2.1 : List Int) j1 ∧ e 13 = u0 ∧ RV g.m w (i3.1 : List Int) u0 ∧ e 36 = p5 ∧ RV g.m w (t5.2.1 : List LoomOrder) p5 ∧ e 39 = .int .i64 (d6)) (fun X2002 iT t02 h => ?_) ?_
            ·refine E_block ?_
             refine E_seq (E_region (EL_mv uI rfl ?_))
             refine EL_mv vI rfl ?_
             refine EL_do .plain rfl (D_buildSlice (g := z05) 3344 (xs := ([d6] : List Int)) (vs := [.int .i64 (d6)]) Try.underlying22 Try.sizeOf3 Try.zeroValue3 rfl rfl (.cons rfl .nil) (RVs.cons (RV_int.2 rfl) RVs.nil) rfl rfl fun a06 v0E b06 hs o2003 c06 hxt hfl => ?_)
             have hfr := hfr.stp hs
             have p7 := p7.stp hs rfl
             have n7 := n7.stp hs
             have o7 := o7.stp hs
             have a7 := a7.stp hs
             obtain ⟨qD, u02, h⟩ := bsome h
             refine EL_do .plain rfl (D_call (g := a06) (vs := [p5, b06]) en42 (.cons rfl (.cons rfl .nil)) (wk42 a7 c06 u02) fun dU k0B x0E hs hr => ?_)
             have hfr := hfr.ext hs
             have p7 := p7.ext hs
             have n7 := n7.ext hs
             have o7 := o7.ext hs
             have a7 := a7.ext hs
             obtain ⟨nB, uE, v09, rfl, vE, x09, rfl⟩ := hr
             refine EL_mw (.tuple #[nB, uE, .bool (qD.2.2)]) rfl rfl ?_
             refine EL_pur (v := nB) (P_extract rfl rfl) .plain rfl ?_
             refine EL_pur (v := uE) (P_extract rfl rfl) .plain rfl ?_
             refine EL_pur (v := .bool (qD.2.2)) (P_extract rfl rfl) .plain rfl ?_
             refine EL_at nB rfl rfl ?_
             refine EL_at uE rfl rfl ?_
             refine EL_at (.bool (qD.2.2)) rfl rfl ?_
             refine EL_nil (thn_n (E_seq (E_region (EL_do .plain rfl (D_loadO (g := dU) Try.isAgg24 Try.sizeOf24 zM p7 fun d06 e06 => ?_)))))
             obtain ⟨jT, v02, h⟩ := bsome h
             refine EL_do .plain rfl (D_call (g := dU) (vs := [d06]) en15 (.cons rfl .nil) (wk15 e06 v02) fun g06 l0B h06 hs hr => ?_)
             have hfr := hfr.ext hs
             have p7 := p7.ext hs
             have n7 := n7.ext hs
             have o7 := o7.ext hs
             have a7 := a7.ext hs
             have vE := vE.ext hs
             have i06 := hr
             refine EL_mw nB rfl rfl ?_
             obtain ⟨sB, x02, h⟩ := bsome h
             refine EL_do .plain rfl (D_call (g := g06) (vs := [h06, nB]) en17 (.cons rfl (.cons rfl .nil)) (wk17 i06 vE x02) fun j06 m0B y0E hs hr => ?_)
             have hfr := hfr.ext hs
             have p7 := p7.ext hs
             have n7 := n7.ext hs
             have o7 := o7.ext hs
             have a7 := a7.ext hs
             obtain ⟨xE, y09, rfl, z09, rfl⟩ := hr
             refine EL_mw (.tuple #[xE, .int .i64 (sB.2)]) rfl rfl ?_
             refine EL_pur (v := xE) (P_extract rfl rfl) .plain rfl ?_
             refine EL_pur (v := .int .i64 (sB.2)) (P_extract rfl rfl) .plain rfl ?_
             refine EL_at xE rfl rfl ?_
             refine EL_at (.int .i64 (sB.2)) rfl rfl ?_
             refine EL_nil (thn_n (E_seq (E_region (EL_mw (.int .i64 (sB.2)) rfl rfl ?_))))
             refine EL_in (.bool ((sB.2 != (0 : Int)))) rfl rfl rfl rfl ?_
             refine EL_nil (thn_n ?_)
             rcases csome h with ⟨xI, h⟩ | ⟨xI, h⟩
             ·refine E_ct xI rfl ?_
              refine E_seq (E_region (EL_at (.bool false) rfl rfl ?_))
              refine EL_nil (thn_n (E_ret (blk_r ?_)))
              refine thn_r ?_
              refine thn_r ?_
              refine blk_r ?_
              refine thn_r ?_
              obtain rfl := sinj h
              exact end1 rfl rfl (show _ = .bool false from rfl) ⟨_, hfr, rfl⟩
             ·refine E_cf xI rfl ?_
              exact E_skip (blk_n (thn_n (t02 () _ _ ⟨j06, hfr, zM, p7, mR, n7, nR, o7, uI, a7, vI⟩ h)))
            ·rintro _ n0B z0E ⟨k06, hfr, oY, pY, oR, pR, qR, rR, tR, uR, vR⟩ h
             refine E_region (EL_mv vR rfl ?_)
             refine EL_in (.int .i64 ((w64 (d6 + (1 : Int))))) rfl rfl rfl rfl ?_
             refine EL_at (.int .i64 ((w64 (d6 + (1 : Int))))) rfl rfl ?_
             exact EL_nil (thn_n (r02 ((w64 (d6 + (1 : Int)))) _ _ ⟨k06, hfr, oY, pY, oR, pR, qR, rR, tR, uR, rfl⟩ h))
          ·rintro _ o0B a0F ⟨l06, hfr, xR, yR, zR, aS⟩ h
           refine E_seq (E_region (EL_at (.bool false) rfl rfl ?_))
           refine EL_nil (thn_n ?_)
           obtain ⟨y8, hx, h⟩ := bsome h
           refine E_join (fun e w => ∃ (g : Gh) , Fr gI wI g w ∧ e 45 = .bool (y8)) (fun Q' hQ => ?_) (fun p0B b0F hR => ?_)
           ·replace h := hx
            clear hx
            refine E_seq (E_region (EL_at (.int .i64 (0)) rfl rfl ?_))
            refine EL_nil (thn_n (E_block ?_))
            refine E_lp h (fun (s : Bool × Int) e w => ∃ (g : Gh) , Fr gI wI g w ∧ e 11 = j1 ∧ RV g.m w (z2.1 : List Int) j1 ∧ e 13 = u0 ∧ RV g.m w (i3.1 : List Int) u0 ∧ e 45 = .bool (s.1) ∧ e 46 = .int .i64 (s.2)) ⟨l06, hfr, xR, yR, zR, aS, rfl, rfl⟩ (fun X2207 aT y02 => ?_)
            rintro ⟨pB, u5⟩ q0B c0F ⟨eU, hfr, yI, zI, bS, cS, aJ, bJ⟩ h
            refine E_joinC h (fun (s : Unit) e w => ∃ (g : Gh) , Fr gI wI g w ∧ e 11 = j1 ∧ RV g.m w (z2.1 : List Int) j1 ∧ e 13 = u0 ∧ RV g.m w (i3.1 : List Int) u0 ∧ e 45 = .bool (pB) ∧ e 46 = .int .i64 (u5)) (fun X2210 dT z02 h => ?_) ?_
            ·refine E_seq (E_region (EL_mv bJ rfl ?_))
             refine EL_mv yI rfl ?_
             refine EL_pur (v := .int .i64 ((z2.1).length : Int)) (P_len Try.underlying22 rfl zI) .plain rfl ?_
             refine EL_in (.bool ((decide (u5 < ((z2.1).length : Int))))) rfl rfl rfl rfl ?_
             refine EL_nil (thn_n ?_)
             rcases csome h with ⟨cJ, h⟩ | ⟨cJ, h⟩
             ·refine E_ct cJ rfl ?_
              exact E_skip (thn_n (z02 () _ _ ⟨eU, hfr, yI, zI, bS, cS, aJ, bJ⟩ h))
             ·refine E_cf cJ rfl ?_
              refine E_exit ?_
              refine thn_e ?_
              refine thn_e ?_
              refine blk_hit ?_
              obtain rfl := sinj h
              exact hQ _ _ ⟨eU, hfr, aJ⟩
            ·rintro _ r0B d0F ⟨m06, hfr, dS, eS, gS, iS, jS, kS⟩ h
             obtain ⟨rB, hx, h⟩ := bsome h
             refine E_join (fun e w => ∃ (g : Gh) , Fr gI wI g w ∧ e 11 = j1 ∧ RV g.m w (z2.1 : List Int) j1 ∧ e 13 = u0 ∧ RV g.m w (i3.1 : List Int) u0 ∧ e 45 = .bool (rB) ∧ e 46 = .int .i64 (u5)) (fun Q' hQ => ?_) (fun s0B e0F hR => ?_)
             ·replace h := hx
              clear hx
              refine E_block ?_
              refine E_seq (E_region (EL_at (.int .i64 (0)) rfl rfl ?_))
              refine EL_nil (thn_n (E_block ?_))
              refine E_lp h (fun (s : Bool × Int) e w => ∃ (g : Gh) , Fr gI wI g w ∧ e 11 = j1 ∧ RV g.m w (z2.1 : List Int) j1 ∧ e 13 = u0 ∧ RV g.m w (i3.1 : List Int) u0 ∧ e 45 = .bool (s.1) ∧ e 46 = .int .i64 (u5) ∧ e 47 = .int .i64 (s.2)) ⟨m06, hfr, dS, eS, gS, iS, jS, kS, rfl⟩ (fun X2306 bT a03 => ?_)
              rintro ⟨z6, c6⟩ t0B g0F ⟨gU, hfr, dJ, eJ, jD, kD, gJ, iJ, jJ⟩ h
              refine E_joinC h (fun (s : Unit) e w => ∃ (g : Gh) , Fr gI wI g w ∧ e 11 = j1 ∧ RV g.m w (z2.1 : List Int) j1 ∧ e 13 = u0 ∧ RV g.m w (i3.1 : List Int) u0 ∧ e 45 = .bool (z6) ∧ e 46 = .int .i64 (u5) ∧ e 47 = .int .i64 (c6)) (fun X2309 cT b03 h => ?_) ?_
              ·refine E_seq (E_region (EL_mv jJ rfl ?_))
               refine EL_mv jD rfl ?_
               refine EL_pur (v := .int .i64 ((i3.1).length : Int)) (P_len Try.underlying22 rfl kD) .plain rfl ?_
               refine EL_in (.bool ((decide (c6 < ((i3.1).length : Int))))) rfl rfl rfl rfl ?_
               refine EL_nil (thn_n ?_)
               rcases csome h with ⟨kJ, h⟩ | ⟨kJ, h⟩
               ·refine E_ct kJ rfl ?_
                exact E_skip (thn_n (b03 () _ _ ⟨gU, hfr, dJ, eJ, jD, kD, gJ, iJ, jJ⟩ h))
               ·refine E_cf kJ rfl ?_
                refine E_exit ?_
                refine thn_e ?_
                refine thn_e ?_
                refine blk_hit ?_
                refine blk_n ?_
                obtain rfl := sinj h
                exact hQ _ _ ⟨gU, hfr, dJ, eJ, jD, kD, gJ, iJ⟩
              ·rintro _ u0B h0F ⟨iU, hfr, lD, v7, mD, c8, lJ, nD, oD⟩ h
               obtain ⟨qB, hx, h⟩ := bsome h
               refine E_join (fun e w => ∃ (g : Gh) , Fr gI wI g w ∧ e 11 = j1 ∧ RV g.m w (z2.1 : List Int) j1 ∧ e 13 = u0 ∧ RV g.m w (i3.1 : List Int) u0 ∧ e 45 = .bool (qB) ∧ e 46 = .int .i64 (u5) ∧ e 47 = .int .i64 (c6)) (fun Q' hQ => ?_) (fun v0B i0F hR => ?_)
               ·replace h := hx
                clear hx
                refine E_block ?_
                rcases csome h with ⟨q5, h⟩ | ⟨q5, h⟩
                ·refine E_drawL (g := iU) (n := 13) [] [0, 1, 2, 3, 4, 5, 6, 7, 8, 9, 10, 11, 12] rfl mixed (by kernel_rfl) trivial ?_
                 refine L_pur (c := .bool (z6)) rfl rfl .plain (fun _ _ hd => P_move lJ) ?_
                 refine L_pur (c := .bool (z6)) rfl rfl .plain (fun _ _ hd => P_move rfl) ?_
                 refine L_skip rfl (.no2 rfl rfl q5 rfl) ?_
                 refine L_skip rfl (.no2 rfl rfl q5 rfl) ?_
                 refine L_skip rfl (.no2 rfl rfl q5 rfl) ?_
                 refine L_skip rfl (.no2 rfl rfl q5 rfl) ?_
                 refine L_skip rfl (.no2 rfl rfl q5 rfl) ?_
                 refine L_skip rfl (.no2 rfl rfl q5 rfl) ?_
                 refine L_skip rfl (.no2 rfl rfl q5 rfl) ?_
                 refine L_skip rfl (.no2 rfl rfl q5 rfl) ?_
                 refine L_skip rfl (.no2 rfl rfl q5 rfl) ?_
                 refine L_pur (c := .bool true) rfl rfl .plain (fun _ _ hd => P_pick (b := z6) rfl (pick_t q5 rfl)) ?_
                 refine L_pur (c := .bool true) rfl rfl .plain (fun _ _ hd => P_assign rfl) ?_
                 refine L_nil fun n06 j0F hall => ?_
                 have hs := hall.1
                 have hfr := hfr.ext hs
                 have v7 := v7.ext hs
                 have c8 := c8.ext hs
                 clear hs hall
                 refine EL_nil (blk_n ?_)
                 obtain rfl := sinj h
                 exact hQ _ _ ⟨n06, hfr, lD, v7, mD, c8, rfl, nD, oD⟩
                ·obtain ⟨nC, oP, h⟩ := bsome h
                 have o06 := PT_idx v7 oP
                 refine L_load (x := .tmp 374) Try.isAgg3 Try.sizeOf3 o06 fun k0F p06 c03 => ?_
                 obtain rfl := RV_int.1 p06
                 obtain ⟨oC, pP, h⟩ := bsome h
                 have q06 := PT_idx c8 pP
                 refine L_load (x := .tmp 378) Try.isAgg3 Try.sizeOf3 q06 fun l0F r06 d03 => ?_
                 obtain rfl := RV_int.1 r06
                 refine E_drawL (g := iU) (n := 13) [] [0, 1, 2, 3, 4, 5, 6, 7, 8, 9, 10, 11, 12] rfl mixed (by kernel_rfl) trivial ?_
                 refine L_pur (c := .bool (z6)) rfl rfl .plain (fun _ _ hd => P_move lJ) ?_
                 refine L_pur (c := .bool (z6)) rfl rfl .plain (fun _ _ hd => P_move rfl) ?_
                 refine L_pur (c := j1) rfl rfl (.yes2 rfl rfl q5) (fun _ _ hd => P_move lD) ?_
                 refine L_pur (c := .int .i64 (u5)) rfl rfl (.yes2 rfl rfl q5) (fun _ _ hd => P_move nD) ?_
                 refine L_pur (c := ePtr j1 u5 1) rfl rfl (.yes2 rfl rfl q5) (fun _ _ hd => P_indexAddr (α := Int) Try.underlying22 Try.sizeOf3 rfl v7 rfl oP) ?_
                 refine L_ld (c := .int .i64 (nC)) rfl rfl (.yes2 rfl rfl q5) (fun _ _ h => h.ch) c03 rfl ?_
                 refine L_pur (c := u0) rfl rfl (.yes2 rfl rfl q5) (fun _ _ hd => P_move mD) ?_
                 refine L_pur (c := .int .i64 (c6)) rfl rfl (.yes2 rfl rfl q5) (fun _ _ hd => P_move oD) ?_
                 refine L_pur (c := ePtr u0 c6 1) rfl rfl (.yes2 rfl rfl q5) (fun _ _ hd => P_indexAddr (α := Int) Try.underlying22 Try.sizeOf3 rfl c8 rfl pP) ?_
                 refine L_ld (c := .int .i64 (oC)) rfl rfl (.yes2 rfl rfl q5) (fun _ _ h => h.ch) d03 rfl ?_
                 refine L_pur (c := .bool ((nC == oC))) rfl rfl (.yes2 rfl rfl q5) (fun _ _ hd => P_int rfl rfl rfl) ?_
                 refine L_pur (c := .bool ((nC == oC))) rfl rfl .plain (fun _ _ hd => P_pick (b := z6) rfl (pick_f q5 rfl)) ?_
                 refine L_pur (c := .bool ((nC == oC))) rfl rfl .plain (fun _ _ hd => P_assign rfl) ?_
                 refine L_nil fun s06 m0F hall => ?_
                 have hs := hall.1
                 have hfr := hfr.ext hs
                 have v7 := v7.ext hs
                 have c8 := c8.ext hs
                 clear hs hall
                 refine EL_nil (blk_n ?_)
                 obtain rfl := sinj h
                 exact hQ _ _ ⟨s06, hfr, lD, v7, mD, c8, rfl, nD, oD⟩
               ·clear hx
                obtain ⟨t06, hfr, lS, mS, nS, oS, pS, qS, rS⟩ := hR
                refine E_region (EL_mv rS rfl ?_)
                refine EL_in (.int .i64 ((w64 (c6 + (1 : Int))))) rfl rfl rfl rfl ?_
                refine EL_at (.int .i64 ((w64 (c6 + (1 : Int))))) rfl rfl ?_
                exact EL_nil (thn_n (a03 (qB, (w64 (c6 + (1 : Int)))) _ _ ⟨t06, hfr, lS, mS, nS, oS, pS, qS, rfl⟩ h))
             ·clear hx
              obtain ⟨u06, hfr, sS, tS, uS, vS, xS, yS⟩ := hR
              refine E_region (EL_mv yS rfl ?_)
              refine EL_in (.int .i64 ((w64 (u5 + (1 : Int))))) rfl rfl rfl rfl ?_
              refine EL_at (.int .i64 ((w64 (u5 + (1 : Int))))) rfl rfl ?_
              exact EL_nil (thn_n (y02 (rB, (w64 (u5 + (1 : Int)))) _ _ ⟨u06, hfr, sS, tS, uS, vS, xS, rfl⟩ h))
           ·clear hx
            obtain ⟨jU, hfr, zS⟩ := hR
            obtain ⟨qC, hx, h⟩ := bsome h
            refine E_join (fun e w => ∃ (g : Gh) , Fr gI wI g w ∧ e 6 = .bool (qC)) (fun Q' hQ => ?_) (fun x0B n0F hR => ?_)
            ·replace h := hx
             clear hx
             refine E_region (EL_mv zS rfl ?_)
             refine EL_mw (.bool (y8)) rfl rfl ?_
             rcases csome h with ⟨mC, h⟩ | ⟨mC, h⟩
             ·obtain ⟨dF, e03, h⟩ := bsome h
              refine EL_do (.yes2 rfl rfl mC) rfl (D_call (g := jU) (vs := []) en14 .nil (wk14  e03) fun v06 y0B o0F hs hr => ?_)
              have hfr := hfr.ext hs
              subst hr
              refine EL_pur (v := .bool (dF)) (P_pick (b := y8) rfl (pick_t mC rfl)) .plain rfl ?_
              refine EL_at (.bool (dF)) rfl rfl ?_
              refine EL_nil ?_
              obtain rfl := sinj h
              exact hQ _ _ ⟨v06, hfr, rfl⟩
             ·refine EL_skip (.no2 rfl rfl mC rfl) rfl ?_
              refine EL_pur (v := .bool false) (P_pick (b := y8) rfl (pick_f mC rfl)) .plain rfl ?_
              refine EL_at (.bool false) rfl rfl ?_
              refine EL_nil ?_
              obtain rfl := sinj h
              exact hQ _ _ ⟨jU, hfr, rfl⟩
            ·clear hx
             obtain ⟨p0F, hfr, qY⟩ := hR
             refine E_ret ?_
             obtain rfl := sinj h
             exact end1 rfl rfl (show _ = .bool (qC) from qY) ⟨_, hfr, rfl⟩
end Go.Proofs.Ytnfjhdagbknlbaa
