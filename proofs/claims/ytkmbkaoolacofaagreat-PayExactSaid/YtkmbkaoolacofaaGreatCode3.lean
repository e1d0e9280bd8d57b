import Derived.Test.YtkmbkaoolacofaaGreatCode2
set_option maxRecDepth 8000
set_option maxHeartbeats 4000000
namespace Go.Proofs.YtkmbkaoolacofaaGreat
open Go.RowKit
def f6 (x0 : Prices) (x1 : List Cut) (x2 : Vector UInt32 3) : Option (Bool) :=
 (f38 x0).bind fun y5 =>
 jn (σ := (List PayPiece) × (Vector Int 51) × Int) (fun (gV, nB, u9) =>
  jn (σ := Unit) (fun _ =>
   (idx (x2).toList (2 : Int)).bind fun pI =>
   (idx (x2).toList (2 : Int)).bind fun iV =>
   (u32shr iV ((8 : Int))).bind fun xH =>
   (idx (x2).toList (0 : Int)).bind fun jV =>
   (u32rem jV ((500000 : UInt32))).bind fun qI =>
   (f39 ((⟨0, 0, ((pI).toUInt8), ((xH).toUInt16), qI⟩ : Cut)) y5).bind fun iA =>
   (idx (x2).toList (1 : Int)).bind fun yP =>
   (rem64 ((yP).toNat : Int) (500000 : Int)).bind fun xK =>
   (f13 y5).bind fun nJ =>
   (f16 nJ iA).bind fun i6 =>
   (f13 y5).bind fun oJ =>
   (f16 oJ ({ iA with Picks := xK })).bind fun l8 =>
   (f13 y5).bind fun pJ =>
   (f16 pJ ({ iA with Picks := (w64 ((iA).Picks + ({ iA with Picks := xK }).Picks)) })).bind fun m8 =>
   jn (σ := Unit) (fun _ =>
    (f13 y5).bind fun kV =>
    Option.bind (α := PayList) (
     lp (σ := PayList × Int) (fun lV (a9, y9) =>
      jn (σ := Unit) (fun _ =>
       Option.bind (α := PayList) (
        (idx ((a9).Rates) y9).bind fun vF =>
        (idx (x2).toList (1 : Int)).bind fun bN =>
        (rem64 ((bN).toNat : Int) (50 : Int)).bind fun sI =>
        some (({ a9 with Rates := (List.set ((a9).Rates) (Int.toNat y9) ({ vF with Rate := (min64 (10000 : Int) (w64 ((vF).Rate + sI))) } : PayRate)) } : PayList))
        ) fun iJ =>
       lV (iJ, (w64 (y9 + (1 : Int))))
       ) fun mV =>
      bif (decide (y9 < (((a9).Rates).length : Int))) then
       mV ()
      else
       some (a9)
      ) big (kV, (0 : Int))
     ) fun yK =>
    (f16 yK iA).bind fun lB =>
    jn (σ := Unit) (fun _ =>
     jn (σ := Unit) (fun _ =>
      (f12).bind fun cN =>
      some (cN)
      ) fun zP =>
     bif (decide ((((iA).Extras).length : Int) > (0 : Int))) then
      (f14 (([iA] : List PayPiece))).bind fun nV =>
      (idx nV (0 : Int)).bind fun zK =>
      (cut ((zK).Extras) (1 : Int) (((zK).Extras).length : Int)).bind fun oV =>
      (f13 y5).bind fun qJ =>
      (f16 qJ ({ zK with Extras := oV })).bind fun l9 =>
      Option.bind (α := Bool) (
       bif (l9.2.2.2 != (0 : Int)) then
        some (true)
       else
        some ((decide (l9.1 > i6.1)))
       ) fun zG =>
      bif zG then
       some (false)
      else
       zP ()
     else
      zP ()
     ) fun pV =>
    Option.bind (α := Bool) (
     bif (lB.2.2.2 != (0 : Int)) then
      some (true)
     else
      some ((decide (lB.1 < i6.1)))
     ) fun aH =>
    bif aH then
     some (false)
    else
     pV ()
    ) fun qV =>
   Option.bind (α := Bool) (
    bif (i6.2.2.2 != (0 : Int)) then
     some (true)
    else
     bif (l8.2.2.2 != (0 : Int)) then
      some (true)
     else
      bif (m8.2.2.2 != (0 : Int)) then
       some (true)
      else
       bif ((w64 (i6.1 + l8.1)) != m8.1) then
        some (((w64 (i6.1 + l8.1)) != (w64 (m8.1 - (1 : Int)))))
       else
        some (false)
    ) fun cH =>
   bif cH then
    some (false)
   else
    qV ()
   ) fun rV =>
  lp (σ := (List PayPiece) × Int) (fun sV (d9, k8) =>
   jn (σ := Unit) (fun _ =>
    jn (σ := (List PayPiece)) (fun pM =>
     sV (pM, (w64 (k8 + (1 : Int))))
     ) fun tV =>
    (f13 y5).bind fun uV =>
    (f14 d9).bind fun vV =>
    (f27 uV vV).bind fun t5 =>
    jn (σ := Unit) (fun _ =>
     jn (σ := Int) (fun iD =>
      jn (σ := Unit) (fun _ =>
       jn (σ := Unit) (fun _ =>
        lp (σ := (List PayPiece) × Int) (fun xV (yA, i7) =>
         jn (σ := Unit) (fun _ =>
          Option.bind (α := (List PayPiece)) (
           (idx yA i7).bind fun xF =>
           (idx yA (w64 ((w64 (((yA).length : Int) - (1 : Int))) - i7))).bind fun hG =>
           (idx yA i7).bind fun k0D =>
           (idx ((List.set yA (Int.toNat i7) hG)) (w64 ((w64 ((((List.set yA (Int.toNat i7) hG)).length : Int) - (1 : Int))) - i7))).bind fun l0D =>
           some ((List.set ((List.set yA (Int.toNat i7) hG)) (Int.toNat (w64 ((w64 ((((List.set yA (Int.toNat i7) hG)).length : Int) - (1 : Int))) - i7))) xF))
           ) fun lK =>
          xV (lK, (w64 (i7 + (1 : Int))))
          ) fun yV =>
         (quo64 ((yA).length : Int) (2 : Int)).bind fun dN =>
         bif (decide (i7 < dN)) then
          yV ()
         else
          tV (yA)
         ) big (d9, (0 : Int))
        ) fun zV =>
       bif (iD != u9) then
        some (false)
       else
        zV ()
       ) fun aW =>
      lp (σ := Int) (fun bW oB =>
       jn (σ := Unit) (fun _ =>
        jn (σ := Unit) (fun _ =>
         bW ((w64 (oB + (1 : Int))))
         ) fun cW =>
        Option.bind (α := Bool) (
         lp (σ := Bool × Int) (fun dW (lD, vC) =>
          jn (σ := Unit) (fun _ =>
           Option.bind (α := Bool) (
            bif lD then
             some (true)
            else
             (idx (t5.1) vC).bind fun rJ =>
             (idx d9 oB).bind fun sJ =>
             some ((rJ == (sJ).Weaver))
            ) fun jJ =>
           dW (jJ, (w64 (vC + (1 : Int))))
           ) fun eW =>
          bif (decide (vC < ((t5.1).length : Int))) then
           eW ()
          else
           some (lD)
          ) big (false, (0 : Int))
         ) fun kJ =>
        bif (!kJ) then
         some (false)
        else
         cW ()
        ) fun gW =>
       bif (decide (oB < ((d9).length : Int))) then
        gW ()
       else
        aW ()
       ) big ((0 : Int))
      ) fun iW =>
     lp (σ := Int × Int) (fun jW (nD, o0) =>
      jn (σ := Unit) (fun _ =>
       jn (σ := Int) (fun aL =>
        jW (aL, (w64 (o0 + (1 : Int))))
        ) fun kW =>
       jn (σ := Unit) (fun _ =>
        (idx (t5.2.1) o0).bind fun bL =>
        kW ((w64 (nD + bL)))
        ) fun lW =>
       Option.bind (α := Bool) (
        (idx (t5.1) o0).bind fun yB =>
        bif (decide (yB < (0 : Int))) then
         some (true)
        else
         (idx (t5.1) o0).bind fun zB =>
         bif (decide (zB > (50 : Int))) then
          some (true)
         else
          bif (decide (o0 > (0 : Int))) then
           (idx (t5.1) o0).bind fun tD =>
           (idx (t5.1) (w64 (o0 - (1 : Int)))).bind fun uD =>
           bif (decide (tD ≤ uD)) then
            some (true)
           else
            (idx (t5.2.1) o0).bind fun dL =>
            (idx (t5.1) o0).bind fun eL =>
            (idx (nB).toList eL).bind fun gL =>
            some ((dL != gL))
          else
           (idx (t5.2.1) o0).bind fun iL =>
           (idx (t5.1) o0).bind fun jL =>
           (idx (nB).toList jL).bind fun lL =>
           some ((iL != lL))
        ) fun dH =>
       bif dH then
        some (false)
       else
        lW ()
       ) fun mW =>
      bif (decide (o0 < ((t5.1).length : Int))) then
       mW ()
      else
       iW (nD)
      ) big ((0 : Int), (0 : Int))
     ) fun nW =>
    Option.bind (α := Bool) (
     bif (t5.2.2.2 != (0 : Int)) then
      some (true)
     else
      bif (t5.2.2.1 != (0 : Int)) then
       some (true)
      else
       some ((((t5.1).length : Int) != ((t5.2.1).length : Int)))
     ) fun gH =>
    bif gH then
     some (false)
    else
     nW ()
    ) fun oW =>
   bif (decide (k8 < (2 : Int))) then
    oW ()
   else
    rV ()
   ) big (gV, (0 : Int))
  ) fun m0D =>
 lp (σ := (List PayPiece) × (Vector Int 51) × Int × Int) (fun n0D (iG, iE, oD, iB) =>
  jn (σ := Unit) (fun _ =>
   jn (σ := (List PayPiece) × (Vector Int 51) × Int) (fun (bQ, cQ, oN) =>
    n0D (bQ, cQ, oN, (w64 (iB + (1 : Int))))
    ) fun o0D =>
   (idx x1 iB).bind fun p0D =>
   (f39 p0D y5).bind fun mB =>
   (f13 y5).bind fun pN =>
   (f14 (([mB] : List PayPiece))).bind fun mL =>
   (idx mL (0 : Int)).bind fun qN =>
   (f16 pN qN).bind fun l5 =>
   jn (σ := Unit) (fun _ =>
    jn (σ := Unit) (fun _ =>
     (apnd 56 iG (([mB] : List PayPiece))).bind fun v03 =>
     (idx (iE).toList (mB).Weaver).bind fun yU =>
     (idx (iE).toList (mB).Weaver).bind fun s0L =>
     o0D (v03, (vset iE ((mB).Weaver) ((w64 (yU + l5.2.2.1)))), (w64 (oD + l5.2.2.1)))
     ) fun q0D =>
    Option.bind (α := Bool) (
     bif (decide (l5.2.1 < (w64 ((mB).Faults * (y5).Fine)))) then
      some ((decide ((w64 ((w64 (l5.2.1 + (1 : Int))) * (1000 : Int))) ≤ (w64 (l5.1 * (y5).Cap)))))
     else
      some (false)
     ) fun tI =>
    bif tI then
     some (false)
    else
     q0D ()
    ) fun r0D =>
   Option.bind (α := Bool) (
    bif (l5.2.2.2 != (0 : Int)) then
     some (true)
    else
     bif (l5.1 != (w64 (l5.2.1 + l5.2.2.1))) then
      some (true)
     else
      bif (decide (l5.2.1 < (0 : Int))) then
       some (true)
      else
       bif (decide ((w64 (l5.2.1 * (1000 : Int))) > (w64 (l5.1 * (y5).Cap)))) then
        some (true)
       else
        bif (decide (l5.2.1 > (w64 ((mB).Faults * (y5).Fine)))) then
         some (true)
        else
         some ((decide (l5.2.2.1 < (0 : Int))))
    ) fun uI =>
   bif uI then
    some (false)
   else
    r0D ()
   ) fun s0D =>
  Option.bind (α := Bool) (
   bif (decide (iB < ((x1).length : Int))) then
    some ((decide (iB < (20 : Int))))
   else
    some (false)
   ) fun vJ =>
  bif vJ then
   s0D ()
  else
   m0D (iG, iE, oD)
  ) big (([] : List PayPiece), (⟨List.toArray [0, 0, 0, 0, 0, 0, 0, 0, 0, 0, 0, 0, 0, 0, 0, 0, 0, 0, 0, 0, 0, 0, 0, 0, 0, 0, 0, 0, 0, 0, 0, 0, 0, 0, 0, 0, 0, 0, 0, 0, 0, 0, 0, 0, 0, 0, 0, 0, 0, 0, 0], rfl⟩ : Vector Int 51), (0 : Int), (0 : Int))
theorem wk6 {gI : Gh} {wI : World} {x0 : Prices} {x1 : List Cut} {x2 : Vector UInt32 3} {up0 : Value} (rp0 : RV gI.m wI x0 up0) {up1 : Value} (rp1 : RV gI.m wI x1 up1) {up2 : Value} (rp2 : RV gI.m wI x2 up2) {r : Bool} (h : f6 x0 x1 x2 = some r) : Fn Tryz.prog 6 #[up0, up1, up2] gI wI (fun _ _ v => v = .bool (r)) := by
 unfold f6 at h
 refine fn_of_E Tryz.func6 rfl (Nat.le_of_ble_eq_true rfl) fun g0 hm hfr => ?_
 have rp0 : RV g0.m wI x0 up0 := hm ▸ rp0
 have rp1 : RV g0.m wI x1 up1 := hm ▸ rp1
 have rp2 : RV g0.m wI x2 up2 := hm ▸ rp2
 show E _ 445 none _ _ _ _ _
 refine E_seq (E_region (EL_do .plain rfl (D_box (g := g0) rfl rp0 fun g1 w1 p1 hs q1 => ?_)))
 have hfr := hfr.ext hs
 have rp1 := rp1.ext hs
 have rp2 := rp2.ext hs
 refine EL_do .plain rfl (D_box (g := g1) rfl rp2 fun g2 w2 p2 hs q2 => ?_)
 have hfr := hfr.ext hs
 have rp1 := rp1.ext hs
 have q1 := q1.ext hs
 refine EL_at (.bool false) rfl rfl ?_
 refine EL_nil (thn_n (E_seq (E_region (EL_do .plain rfl (D_load (g := g2) Tryz.isAgg75 Tryz.sizeOf75 rfl q1 fun v3 r3 => ?_)))))
 obtain ⟨y5, hy5, h⟩ := bsome h
 refine EL_do .plain rfl (D_call (g := g2) (vs := [v3]) en38 (.cons rfl .nil) (wk38 r3 hy5) fun g4 w4_ v4 hs hr => ?_)
 have hfr := hfr.ext hs
 have rp1 := rp1.ext hs
 have q2 := q2.ext hs
 have r4 := hr
 refine EL_do .plain rfl (D_buildSliceA (g := g4) 4008 (xs := ([] : List PayPiece)) (vs := []) Tryz.underlying33 Tryz.sizeOf27 Tryz.zeroValue27 rfl rfl .nil RVs.nil rfl rfl fun g6 w6 v6 hs b6 _ => ?_)
 have hfr := hfr.stp hs
 have rp1 := rp1.stp hs
 have q2 := q2.stp hs
 have r4 := r4.stp hs
 have r7 : RV g6.m w6 (⟨List.toArray [0, 0, 0, 0, 0, 0, 0, 0, 0, 0, 0, 0, 0, 0, 0, 0, 0, 0, 0, 0, 0, 0, 0, 0, 0, 0, 0, 0, 0, 0, 0, 0, 0, 0, 0, 0, 0, 0, 0, 0, 0, 0, 0, 0, 0, 0, 0, 0, 0, 0, 0], rfl⟩ : Vector Int 51) (.agg (setCh [[.int .i64 0], [.int .i64 0], [.int .i64 0], [.int .i64 0], [.int .i64 0], [.int .i64 0], [.int .i64 0], [.int .i64 0], [.int .i64 0], [.int .i64 0], [.int .i64 0], [.int .i64 0], [.int .i64 0], [.int .i64 0], [.int .i64 0], [.int .i64 0], [.int .i64 0], [.int .i64 0], [.int .i64 0], [.int .i64 0], [.int .i64 0], [.int .i64 0], [.int .i64 0], [.int .i64 0], [.int .i64 0], [.int .i64 0], [.int .i64 0], [.int .i64 0], [.int .i64 0], [.int .i64 0], [.int .i64 0], [.int .i64 0], [.int .i64 0], [.int .i64 0], [.int .i64 0], [.int .i64 0], [.int .i64 0], [.int .i64 0], [.int .i64 0], [.int .i64 0], [.int .i64 0], [.int .i64 0], [.int .i64 0], [.int .i64 0], [.int .i64 0], [.int .i64 0], [.int .i64 0], [.int .i64 0], [.int .i64 0], [.int .i64 0], [.int .i64 0]] []).flatten.toArray) := RV_build rfl (rep_vec (flat_chunk rep_int (flat_chunk rep_int (flat_chunk rep_int (flat_chunk rep_int (flat_chunk rep_int (flat_chunk rep_int (flat_chunk rep_int (flat_chunk rep_int (flat_chunk rep_int (flat_chunk rep_int (flat_chunk rep_int (flat_chunk rep_int (flat_chunk rep_int (flat_chunk rep_int (flat_chunk rep_int (flat_chunk rep_int (flat_chunk rep_int (flat_chunk rep_int (flat_chunk rep_int (flat_chunk rep_int (flat_chunk rep_int (flat_chunk rep_int (flat_chunk rep_int (flat_chunk rep_int (flat_chunk rep_int (flat_chunk rep_int (flat_chunk rep_int (flat_chunk rep_int (flat_chunk rep_int (flat_chunk rep_int (flat_chunk rep_int (flat_chunk rep_int (flat_chunk rep_int (flat_chunk rep_int (flat_chunk rep_int (flat_chunk rep_int (flat_chunk rep_int (flat_chunk rep_int (flat_chunk rep_int (flat_chunk rep_int (flat_chunk rep_int (flat_chunk rep_int (flat_chunk rep_int (flat_chunk rep_int (flat_chunk rep_int (flat_chunk rep_int (flat_chunk rep_int (flat_chunk rep_int (flat_chunk rep_int (flat_chunk rep_int (flat_chunk rep_int flat_nil))))))))))))))))))))))))))))))))))))))))))))))))))) rfl)
 generalize hv7 : (Value.agg (setCh [[.int .i64 0], [.int .i64 0], [.int .i64 0], [.int .i64 0], [.int .i64 0], [.int .i64 0], [.int .i64 0], [.int .i64 0], [.int .i64 0], [.int .i64 0], [.int .i64 0], [.int .i64 0], [.int .i64 0], [.int .i64 0], [.int .i64 0], [.int .i64 0], [.int .i64 0], [.int .i64 0], [.int .i64 0], [.int .i64 0], [.int .i64 0], [.int .i64 0], [.int .i64 0], [.int .i64 0], [.int .i64 0], [.int .i64 0], [.int .i64 0], [.int .i64 0], [.int .i64 0], [.int .i64 0], [.int .i64 0], [.int .i64 0], [.int .i64 0], [.int .i64 0], [.int .i64 0], [.int .i64 0], [.int .i64 0], [.int .i64 0], [.int .i64 0], [.int .i64 0], [.int .i64 0], [.int .i64 0], [.int .i64 0], [.int .i64 0], [.int .i64 0], [.int .i64 0], [.int .i64 0], [.int .i64 0], [.int .i64 0], [.int .i64 0], [.int .i64 0]] []).flatten.toArray) = v7 at r7
 refine EL_p v7 (hv7 ▸ P_buildA (vs := []) [[.int .i64 0], [.int .i64 0], [.int .i64 0], [.int .i64 0], [.int .i64 0], [.int .i64 0], [.int .i64 0], [.int .i64 0], [.int .i64 0], [.int .i64 0], [.int .i64 0], [.int .i64 0], [.int .i64 0], [.int .i64 0], [.int .i64 0], [.int .i64 0], [.int .i64 0], [.int .i64 0], [.int .i64 0], [.int .i64 0], [.int .i64 0], [.int .i64 0], [.int .i64 0], [.int .i64 0], [.int .i64 0], [.int .i64 0], [.int .i64 0], [.int .i64 0], [.int .i64 0], [.int .i64 0], [.int .i64 0], [.int .i64 0], [.int .i64 0], [.int .i64 0], [.int .i64 0], [.int .i64 0], [.int .i64 0], [.int .i64 0], [.int .i64 0], [.int .i64 0], [.int .i64 0], [.int .i64 0], [.int .i64 0], [.int .i64 0], [.int .i64 0], [.int .i64 0], [.int .i64 0], [.int .i64 0], [.int .i64 0], [.int .i64 0], [.int .i64 0]] Tryz.underlying80 layA_80 szA_3 rfl (by simp) .nil trivial) rfl ?_
 refine EL_do .plain rfl (D_allocOc (g := g6) 2007 (⟨[], [], 0, 0⟩ : PayList) Tryz.zeroValue25 (fun m w => ⟨_, (rep_two rep_nil (rep_two rep_nil (rep_two rep_int rep_int))), rfl⟩) fun g8 w8 p8 hs b8 cb => ?_)
 have hfr := hfr.stp hs
 have rp1 := rp1.stp hs
 have q2 := q2.stp hs
 have r4 := r4.stp hs
 have b6 := b6.stp hs rfl
 have r7 := r7.stp hs
 have i0T : OSF 2007 60700 0 g8 w8 87 25 ([] : List PayRate) p8 := cb.osf (by rfl)
 have j0T : OSF 2007 60701 1 g8 w8 3 25 ([] : List Int) p8 := cb.osf (by rfl)
 clear cb
 refine EL_do .plain rfl (D_allocOc (g := g8) 2009 ((Vector.replicate 51 0) : Vector Int 51) Tryz.zeroValue80 (fun m w => ⟨_, (rep_replicate rep_int), by kernel_rfl⟩) fun g9 w9 p9 hs b9 cb => ?_)
 have hfr := hfr.stp hs
 have rp1 := rp1.stp hs
 have q2 := q2.stp hs
 have r4 := r4.stp hs
 have b6 := b6.stp hs rfl
 have r7 := r7.stp hs
 have b8 := b8.stp hs rfl
 clear cb
 refine EL_do .plain rfl (D_storeOc (g := g9) (v := v4) Tryz.sizeOf25 rfl b8 rfl r4 fun g10 w10 hs b10 cb => ?_)
 clear cb
 have hfr := hfr.stp hs
 have rp1 := rp1.stp hs
 have q2 := q2.stp hs
 have b6 := b6.stp hs rfl
 have r7 := r7.stp hs
 have b9 := b9.stp hs rfl
 refine EL_at v6 rfl rfl ?_
 refine EL_do .plain rfl (D_storeOc (g := g10) (v := v7) Tryz.sizeOf80 rfl b9 rfl r7 fun g11 w11 hs b11 cb => ?_)
 clear cb
 have hfr := hfr.stp hs
 have rp1 := rp1.stp hs
 have q2 := q2.stp hs
 have b10 := b10.stp hs rfl
 have b6 := b6.stp hs rfl
 refine EL_at (.int .i64 (0)) rfl rfl ?_
 refine EL_nil (thn_n (E_joinC h (fun (s : (List PayPiece) × (Vector Int 51) × Int) e w => ∃ (g : Gh) (v8 : Value), Fr gI wI g w ∧ e 5 = p2 ∧ PT g.m w (x2 : Vector UInt32 3) p2 ∧ e 7 = p8 ∧ OB 2007 g w 25 (y5 : PayList) p8 ∧ e 8 = v8 ∧ OA 4008 g w 27 (s.1 : List PayPiece) v8 ∧ e 9 = p9 ∧ OB 2009 g w 80 (s.2.1 : Vector Int 51) p9 ∧ e 10 = .int .i64 (s.2.2)) (fun X353 m0D a0L h => ?_) ?_))
 ·refine E_seq (E_region (EL_at (.int .i64 (0)) rfl rfl ?_))
  refine EL_nil (thn_n (E_block ?_))
  refine E_lp h (fun (s : (List PayPiece) × (Vector Int 51) × Int × Int) e w => ∃ (g : Gh) (v8 : Value), Fr gI wI g w ∧ e 1 = up1 ∧ RV g.m w (x1 : List Cut) up1 ∧ e 5 = p2 ∧ PT g.m w (x2 : Vector UInt32 3) p2 ∧ e 7 = p8 ∧ OB 2007 g w 25 (y5 : PayList) p8 ∧ e 8 = v8 ∧ OA 4008 g w 27 (s.1 : List PayPiece) v8 ∧ e 9 = p9 ∧ OB 2009 g w 80 (s.2.1 : Vector Int 51) p9 ∧ e 10 = .int .i64 (s.2.2.1) ∧ e 11 = .int .i64 (s.2.2.2)) ⟨g11, (v6), hfr, rfl, rp1, rfl, q2, rfl, b10, rfl, b6, rfl, b11, rfl, rfl⟩ (fun X354 n0D b0L => ?_)
  rintro ⟨iG, iE, oD, iB⟩ y0S k0T ⟨t0D, lE, hfr, dQ, eQ, pW, qW, sW, tW, uW, vW, xW, yW, lT, mM⟩ h
  refine E_joinC h (fun (s : Unit) e w => ∃ (g : Gh) , Fr gI wI g w ∧ e 1 = up1 ∧ RV g.m w (x1 : List Cut) up1 ∧ e 5 = p2 ∧ PT g.m w (x2 : Vector UInt32 3) p2 ∧ e 7 = p8 ∧ OB 2007 g w 25 (y5 : PayList) p8 ∧ e 8 = lE ∧ OA 4008 g w 27 (iG : List PayPiece) lE ∧ e 9 = p9 ∧ OB 2009 g w 80 (iE : Vector Int 51) p9 ∧ e 10 = .int .i64 (oD) ∧ e 11 = .int .i64 (iB)) (fun X360 s0D c0L h => ?_) ?_
  ·obtain ⟨vJ, hx, h⟩ := bsome h
   refine E_join (fun e w => ∃ (g : Gh) , Fr gI wI g w ∧ e 1 = up1 ∧ RV g.m w (x1 : List Cut) up1 ∧ e 5 = p2 ∧ PT g.m w (x2 : Vector UInt32 3) p2 ∧ e 7 = p8 ∧ OB 2007 g w 25 (y5 : PayList) p8 ∧ e 8 = lE ∧ OA 4008 g w 27 (iG : List PayPiece) lE ∧ e 9 = p9 ∧ OB 2009 g w 80 (iE : Vector Int 51) p9 ∧ e 10 = .int .i64 (oD) ∧ e 11 = .int .i64 (iB) ∧ e 67 = .bool (vJ)) (fun Q' hQ => ?_) (fun z0S l0T hR => ?_)
   ·replace h := hx
    clear hx
    refine E_region (EL_mv mM rfl ?_)
    refine EL_mv dQ rfl ?_
    refine EL_p (.int .i64 ((x1).length : Int)) (P_len Tryz.underlying76 rfl eQ) rfl ?_
    refine EL_in (.bool ((decide (iB < ((x1).length : Int))))) rfl rfl rfl rfl ?_
    refine EL_mw (.bool ((decide (iB < ((x1).length : Int))))) rfl rfl ?_
    rcases csome h with ⟨mK, h⟩ | ⟨mK, h⟩
    ·refine EL_y (.int .i64 (iB)) (P_move mM) rfl rfl mK rfl ?_
     refine EL_y (.bool ((decide (iB < (20 : Int))))) (P_int rfl rfl rfl) rfl rfl mK rfl ?_
     refine EL_p (.bool ((decide (iB < (20 : Int))))) (P_pick (b := (decide (iB < ((x1).length : Int)))) rfl (pick_t mK rfl)) rfl ?_
     refine EL_nil ?_
     obtain rfl := sinj h
     exact hQ _ _ ⟨t0D, hfr, dQ, eQ, pW, qW, sW, tW, uW, vW, xW, yW, lT, mM, rfl⟩
    ·refine EL_s rfl rfl mK rfl rfl ?_
     refine EL_s rfl rfl mK rfl rfl ?_
     refine EL_p (.bool false) (P_pick (b := (decide (iB < ((x1).length : Int)))) rfl (pick_f mK rfl)) rfl ?_
     refine EL_nil ?_
     obtain rfl := sinj h
     exact hQ _ _ ⟨t0D, hfr, dQ, eQ, pW, qW, sW, tW, uW, vW, xW, yW, lT, mM, rfl⟩
   ·clear hx
    obtain ⟨u0D, hfr, v0D, x0D, zW, aX, bX, cX, dX, eX, gX, iX, mT, s09, nT⟩ := hR
    rcases csome h with ⟨zU, h⟩ | ⟨zU, h⟩
    ·refine E_cond_true (Eq.trans (show ev _ _ = .bool (vJ) from nT) (congrArg Value.bool zU)) ?_
     exact E_skip (thn_n (c0L () _ _ ⟨u0D, hfr, v0D, x0D, zW, aX, bX, cX, dX, eX, gX, iX, mT, s09⟩ h))
    ·refine E_cond_false (Eq.trans (show ev _ _ = .bool (vJ) from nT) (congrArg Value.bool zU)) ?_
     refine E_exit ?_
     refine thn_e ?_
     refine thn_e ?_
     refine blk_hit ?_
     exact thn_n (a0L (iG, iE, oD) _ _ ⟨u0D, (lE), hfr, zW, aX, bX, cX, dX, eX, gX, iX, mT⟩ h)
  ·rintro _ a0T m0T ⟨t0L, hfr, vI, xD, xJ, rF, jG, aD, yJ, sF, zJ, tF, mI, lH⟩ h
   refine E_joinC h (fun (s : (List PayPiece) × (Vector Int 51) × Int) e w => ∃ (g : Gh) (v8 : Value), Fr gI wI g w ∧ e 1 = up1 ∧ RV g.m w (x1 : List Cut) up1 ∧ e 5 = p2 ∧ PT g.m w (x2 : Vector UInt32 3) p2 ∧ e 7 = p8 ∧ OB 2007 g w 25 (y5 : PayList) p8 ∧ e 8 = v8 ∧ OA 4008 g w 27 (s.1 : List PayPiece) v8 ∧ e 9 = p9 ∧ OB 2009 g w 80 (s.2.1 : Vector Int 51) p9 ∧ e 10 = .int .i64 (s.2.2) ∧ e 11 = .int .i64 (iB)) (fun X529 o0D d0L h => ?_) ?_
   ·refine E_block ?_
    refine E_seq ?_
    obtain ⟨p0D, p09, h⟩ := bsome h
    have u0L := PT_idx xD p09
    refine L_load (x := .tmp 72) Tryz.isAgg83 Tryz.sizeOf83 u0L fun y0D v0L e0L => ?_
    refine L_loadO0 (x := .tmp 7) Tryz.isAgg25 Tryz.sizeOf25 aD fun z0D x0L g0L => ?_
    obtain ⟨mB, h0L, h⟩ := bsome h
    refine E_drawL (g := t0L) (n := 7) [(5, (fun v g w => RV g.m w mB v)), (6, (fun v g w => OB 2012 g w 27 (⟨0, 0, 0, [], 0⟩ : PayPiece) v))] [0, 1, 2, 3, 4, 5, 6] rfl mixed (by kernel_rfl) (⟨fun _ => up_rv, fun _ => up_ob, trivial⟩) ?_
    refine L_p up1 rfl rfl (P_move vI) ?_
    refine L_p (.int .i64 (iB)) rfl rfl (P_move lH) ?_
    refine L_p (ePtr up1 iB 5) rfl rfl (P_indexAddr (α := Cut) Tryz.underlying76 Tryz.sizeOf83 rfl xD rfl p09) ?_
    refine L_ld (c := y0D) rfl rfl .plain (fun _ _ h => h.ch) e0L rfl ?_
    refine L_ld (c := z0D) rfl rfl .plain (fun _ _ h => ⟨h.ch, fun b hb _ => h.below.block b hb⟩) g0L jG ?_
    refine L_do (φ := fun v g w => RV g.m w mB v) rfl rfl .plain (fun g w hd => D_call (g := g) (vs := [y0D, z0D]) en39 (.cons rfl (.cons rfl .nil)) (wk39 (v0L.ext hd.1) (x0L.ext hd.1) h0L) fun g' w' v hs hr => ⟨g', hs, hr⟩) (fun a0E hv => ?_)
    obtain ⟨_, _, _, rq534⟩ := hv
    refine L_do (φ := fun v g w => OB 2012 g w 27 (⟨0, 0, 0, [], 0⟩ : PayPiece) v) rfl rfl .plain (fun g w hd => D_allocX (g := g) 2012 (⟨0, 0, 0, [], 0⟩ : PayPiece) Tryz.zeroValue27 (fun m w => ⟨_, (rep_two rep_int (rep_two rep_int (rep_two rep_int (rep_two rep_nil rep_int)))), rfl⟩) fun g' w' v hs b => ⟨g', hs, b⟩) (fun jI hv => ?_)
    clear hv
    refine L_nil fun y0L n0T hall => ?_
    have hs := hall.1
    have hfr := hfr.ext hs
    have xD := xD.ext hs
    have rF := rF.ext hs
    have aD := aD.ext hs
    have sF := sF.ext hs
    have tF := tF.ext hs
    have z0L := (word_all (A := fun g w => RV g.m w mB a0E) 5 rfl hall)
    have b551 := (word_all (A := fun g w => OB 2012 g w 27 (⟨0, 0, 0, [], 0⟩ : PayPiece) jI) 6 rfl hall)
    clear hs hall
    refine EL_do .plain rfl (D_storeOc (g := y0L) (v := a0E) Tryz.sizeOf27 rfl b551 rfl z0L fun a0M o0T hs b552 cb => ?_)
    clear cb
    have hfr := hfr.stp hs
    have xD := xD.stp hs
    have rF := rF.stp hs
    have aD := aD.stp hs rfl
    have sF := sF.stp hs rfl
    have tF := tF.stp hs rfl
    refine EL_nil (thn_n (E_seq (L_loadO0 (x := .tmp 7) Tryz.isAgg25 Tryz.sizeOf25 aD fun b0E b0M i0L => ?_)))
    obtain ⟨pN, j0L, h⟩ := bsome h
    refine L_loadO0 (x := .tmp 12) Tryz.isAgg27 Tryz.sizeOf27 b552 fun c0E c0M k0L => ?_
    obtain ⟨mL, l0L, h⟩ := bsome h
    obtain ⟨qN, aV, h⟩ := bsome h
    obtain ⟨l5, m0L, h⟩ := bsome h
    refine E_drawL (g := a0M) (n := 17) [(1, (fun v g w => RV g.m w pN v)), (3, (fun v g w => RV g.m w ([mB] : List PayPiece) v ∧ OS 3080 g w 27 ([mB] : List PayPiece) v ∧ FullV v)), (4, (fun v g w => RV g.m w mL v)), (6, (fun v g w => RV g.m w (qN : PayPiece) v)), (7, (fun v g w => ∃ y0 y1 y2 y3 : Value, v = .tuple #[y0, y1, y2, y3] ∧ y0 = .int .i64 (l5.1) ∧ y1 = .int .i64 (l5.2.1) ∧ y2 = .int .i64 (l5.2.2.1) ∧ y3 = .int .i64 (l5.2.2.2)))] [0, 1, 2, 3, 4, 5, 6, 7, 8, 9, 10, 11, 12, 13, 14, 15, 16] rfl mixed (by kernel_rfl) (⟨fun _ => up_rv, fun _ => up_and up_rv (up_and up_os (up_eq _)), fun _ => up_rv, fun _ => up_rv, fun _ => (up_ex fun _ => (up_ex fun _ => (up_ex fun _ => (up_ex fun _ => (up_and (up_eq _) (up_and (up_eq _) (up_and (up_eq _) (up_and (up_eq _) (up_eq _))))))))), trivial⟩) ?_
    refine L_ld (c := b0E) rfl rfl .plain (fun _ _ h => ⟨h.ch, fun b hb _ => h.below.block b hb⟩) i0L jG ?_
    refine L_do (φ := fun v g w => RV g.m w pN v) rfl rfl .plain (fun g w hd => D_call (g := g) (vs := [b0E]) en13 (.cons rfl .nil) (wk13 (b0M.ext hd.1) j0L) fun g' w' v hs hr => ⟨g', hs, hr⟩) (fun x03 hv => ?_)
    obtain ⟨_, _, _, rq554⟩ := hv
    refine L_ld (c := c0E) rfl rfl .plain (fun _ _ h => ⟨h.ch, fun b hb _ => h.below.block b hb⟩) k0L rfl ?_
    refine L_do (φ := fun v g w => RV g.m w ([mB] : List PayPiece) v ∧ OS 3080 g w 27 ([mB] : List PayPiece) v ∧ FullV v) rfl rfl .plain (fun g w hd => D_buildSlice (g := g) 3080 (xs := ([mB] : List PayPiece)) (vs := [c0E]) Tryz.underlying33 Tryz.sizeOf27 Tryz.zeroValue27 rfl rfl (.cons rfl .nil) (RVs.cons (c0M.ext hd.1) RVs.nil) rfl rfl fun g' w' v hs o r hxt hfl => ⟨g', hxt, r, o, hfl⟩) (fun mJ hv => ?_)
    clear hv
    refine L_do (φ := fun v g w => RV g.m w mL v) rfl rfl .plain (fun g w hd => D_call (g := g) (vs := [mJ]) en14 (.cons rfl .nil) (wk14 (word (A := fun g w => RV g.m w ([mB] : List PayPiece) mJ ∧ OS 3080 g w 27 ([mB] : List PayPiece) mJ ∧ FullV mJ) 3 rfl rfl (deps_of hd)).1 l0L) fun g' w' v hs hr => ⟨g', hs, hr⟩) (fun gQ hv => ?_)
    obtain ⟨_, _, _, rq558⟩ := hv
    refine L_pur (c := ePtr gQ (0 : Int) 5) rfl rfl .plain (fun _ _ hd => P_indexAddr (α := PayPiece) Tryz.underlying33 Tryz.sizeOf27 rfl (word (A := fun g w => RV g.m w mL gQ) 4 rfl rfl (deps_of hd)) rfl aV) ?_
    refine L_do (φ := (fun v g w => RV g.m w (qN : PayPiece) v)) rfl rfl .plain (fun g w hd => D_load (g := g) Tryz.isAgg27 Tryz.sizeOf27 rfl (PT_idx (word (A := fun g w => RV g.m w mL gQ) 4 rfl rfl (hop 5 rfl rfl (deps_of hd))) aV) fun v r => ⟨g, Ext.refl g w, r⟩) (fun y03 hv => ?_)
    clear hv
    refine L_do (φ := fun v g w => ∃ y0 y1 y2 y3 : Value, v = .tuple #[y0, y1, y2, y3] ∧ y0 = .int .i64 (l5.1) ∧ y1 = .int .i64 (l5.2.1) ∧ y2 = .int .i64 (l5.2.2.1) ∧ y3 = .int .i64 (l5.2.2.2)) rfl rfl .plain (fun g w hd => D_call (g := g) (vs := [x03, y03]) en16 (.cons rfl (.cons rfl .nil)) (wk16 (word (A := fun g w => RV g.m w pN x03) 1 rfl rfl (deps_of hd)) (word (A := fun g w => RV g.m w (qN : PayPiece) y03) 6 rfl rfl (deps_of hd)) m0L) fun g' w' v hs hr => ⟨g', hs, hr⟩) (fun p0T hv => ?_)
    obtain ⟨_, _, _, _, _, _, _, rfl, rfl, rfl, rfl, rfl⟩ := hv
    refine L_p (.tuple #[.int .i64 (l5.1), .int .i64 (l5.2.1), .int .i64 (l5.2.2.1), .int .i64 (l5.2.2.2)]) rfl rfl (P_move rfl) ?_
    refine L_p (.int .i64 (l5.1)) rfl rfl (P_extract rfl rfl) ?_
    refine L_p (.int .i64 (l5.2.1)) rfl rfl (P_extract rfl rfl) ?_
    refine L_p (.int .i64 (l5.2.2.1)) rfl rfl (P_extract rfl rfl) ?_
    refine L_p (.int .i64 (l5.2.2.2)) rfl rfl (P_extract rfl rfl) ?_
    refine L_p (.int .i64 (l5.1)) rfl rfl (P_assign rfl) ?_
    refine L_p (.int .i64 (l5.2.1)) rfl rfl (P_assign rfl) ?_
    refine L_p (.int .i64 (l5.2.2.1)) rfl rfl (P_assign rfl) ?_
    refine L_p (.int .i64 (l5.2.2.2)) rfl rfl (P_assign rfl) ?_
    refine L_nil fun nK q0T hall => ?_
    have hs := hall.1
    have hfr := hfr.ext hs
    have xD := xD.ext hs
    have rF := rF.ext hs
    have aD := aD.ext hs
    have sF := sF.ext hs
    have tF := tF.ext hs
    have b552 := b552.ext hs
    have r0T := (word_all (A := fun g w => RV g.m w pN x03) 1 rfl hall)
    have s0T := (word_all (A := fun g w => RV g.m w ([mB] : List PayPiece) mJ ∧ OS 3080 g w 27 ([mB] : List PayPiece) mJ ∧ FullV mJ) 3 rfl hall).1
    have o583 := (word_all (A := fun g w => RV g.m w ([mB] : List PayPiece) mJ ∧ OS 3080 g w 27 ([mB] : List PayPiece) mJ ∧ FullV mJ) 3 rfl hall).2.1
    have t0T := (word_all (A := fun g w => RV g.m w mL gQ) 4 rfl hall)
    have u0T := (PT_idx (word_all (A := fun g w => RV g.m w mL gQ) 4 rfl hall) aV)
    have v0T := (word_all (A := fun g w => RV g.m w (qN : PayPiece) y03) 6 rfl hall)
    clear hs hall
    refine EL_nil (thn_n (E_joinC h (fun (s : Unit) e w => ∃ (g : Gh) , Fr gI wI g w ∧ e 1 = up1 ∧ RV g.m w (x1 : List Cut) up1 ∧ e 5 = p2 ∧ PT g.m w (x2 : Vector UInt32 3) p2 ∧ e 7 = p8 ∧ OB 2007 g w 25 (y5 : PayList) p8 ∧ e 8 = lE ∧ OA 4008 g w 27 (iG : List PayPiece) lE ∧ e 9 = p9 ∧ OB 2009 g w 80 (iE : Vector Int 51) p9 ∧ e 10 = .int .i64 (oD) ∧ e 11 = .int .i64 (iB) ∧ e 12 = jI ∧ OB 2012 g w 27 (mB : PayPiece) jI ∧ e 13 = .int .i64 (l5.1) ∧ e 14 = .int .i64 (l5.2.1) ∧ e 15 = .int .i64 (l5.2.2.1)) (fun X621 r0D n0L h => ?_) ?_))
    ·obtain ⟨uI, hx, h⟩ := bsome h
     refine E_join (fun e w => ∃ (g : Gh) , Fr gI wI g w ∧ e 1 = up1 ∧ RV g.m w (x1 : List Cut) up1 ∧ e 5 = p2 ∧ PT g.m w (x2 : Vector UInt32 3) p2 ∧ e 7 = p8 ∧ OB 2007 g w 25 (y5 : PayList) p8 ∧ e 8 = lE ∧ OA 4008 g w 27 (iG : List PayPiece) lE ∧ e 9 = p9 ∧ OB 2009 g w 80 (iE : Vector Int 51) p9 ∧ e 10 = .int .i64 (oD) ∧ e 11 = .int .i64 (iB) ∧ e 12 = jI ∧ OB 2012 g w 27 (mB : PayPiece) jI ∧ e 13 = .int .i64 (l5.1) ∧ e 14 = .int .i64 (l5.2.1) ∧ e 15 = .int .i64 (l5.2.2.1) ∧ e 123 = .bool (uI)) (fun Q' hQ => ?_) (fun b0T x0T hR => ?_)
     ·replace h := hx
      clear hx
      refine E_region (EL_mw (.int .i64 (l5.2.2.2)) rfl rfl ?_)
      refine EL_in (.bool ((l5.2.2.2 != (0 : Int)))) rfl rfl rfl rfl ?_
      refine EL_mw (.bool ((l5.2.2.2 != (0 : Int)))) rfl rfl ?_
      rcases csome h with ⟨uH, h⟩ | ⟨uH, h⟩
      ·refine EL_s rfl rfl uH rfl rfl ?_
       iterate 4 refine EL_s rfl rfl uH rfl rfl ?_
       refine EL_p (.bool true) (P_pick (b := (l5.2.2.2 != (0 : Int))) rfl (pick_t uH rfl)) rfl ?_
       refine EL_dead 26 rfl ?_
       refine EL_nil ?_
       obtain rfl := sinj h
       exact hQ _ _ ⟨nK, hfr, vI, xD, xJ, rF, jG, aD, yJ, sF, zJ, tF, mI, lH, rfl, b552, rfl, rfl, rfl, rfl⟩
      ·refine EL_y (.int .i64 (l5.1)) (P_move rfl) rfl rfl uH rfl ?_
       refine EL_y (.int .i64 (l5.2.1)) (P_move rfl) rfl rfl uH rfl ?_
       refine EL_y (.int .i64 (l5.2.2.1)) (P_move rfl) rfl rfl uH rfl ?_
       refine EL_y (.int .i64 ((w64 (l5.2.1 + l5.2.2.1)))) (P_int rfl rfl rfl) rfl rfl uH rfl ?_
       refine EL_y (.bool ((l5.1 != (w64 (l5.2.1 + l5.2.2.1))))) (P_int rfl rfl rfl) rfl rfl uH rfl ?_
       refine EL_p (.bool ((l5.1 != (w64 (l5.2.1 + l5.2.2.1))))) (P_pick (b := (l5.2.2.2 != (0 : Int))) rfl (pick_f uH rfl)) rfl ?_
       refine EL_mw (.bool ((l5.1 != (w64 (l5.2.1 + l5.2.2.1))))) rfl rfl ?_
       rcases csome h with ⟨oK, h⟩ | ⟨oK, h⟩
       ·refine EL_s rfl rfl oK rfl rfl ?_
        refine EL_s rfl rfl oK rfl rfl ?_
        refine EL_p (.bool true) (P_pick (b := (l5.1 != (w64 (l5.2.1 + l5.2.2.1)))) rfl (pick_t oK rfl)) rfl ?_
        refine EL_dead 22 rfl ?_
        refine EL_nil ?_
        obtain rfl := sinj h
        exact hQ _ _ ⟨nK, hfr, vI, xD, xJ, rF, jG, aD, yJ, sF, zJ, tF, mI, lH, rfl, b552, rfl, rfl, rfl, rfl⟩
       ·refine EL_y (.int .i64 (l5.2.1)) (P_move rfl) rfl rfl oK rfl ?_
        refine EL_y (.bool ((decide (l5.2.1 < (0 : Int))))) (P_int rfl rfl rfl) rfl rfl oK rfl ?_
        refine EL_p (.bool ((decide (l5.2.1 < (0 : Int))))) (P_pick (b := (l5.1 != (w64 (l5.2.1 + l5.2.2.1)))) rfl (pick_f oK rfl)) rfl ?_
        refine EL_mw (.bool ((decide (l5.2.1 < (0 : Int))))) rfl rfl ?_
        rcases csome h with ⟨lG, h⟩ | ⟨lG, h⟩
        ·refine EL_s rfl rfl lG rfl rfl ?_
         iterate 6 refine EL_s rfl rfl lG rfl rfl ?_
         refine EL_p (.bool true) (P_pick (b := (decide (l5.2.1 < (0 : Int)))) rfl (pick_t lG rfl)) rfl ?_
         refine EL_dead 13 rfl ?_
         refine EL_nil ?_
         obtain rfl := sinj h
         exact hQ _ _ ⟨nK, hfr, vI, xD, xJ, rF, jG, aD, yJ, sF, zJ, tF, mI, lH, rfl, b552, rfl, rfl, rfl, rfl⟩
        ·refine EL_y (.int .i64 (l5.2.1)) (P_move rfl) rfl rfl lG rfl ?_
         refine EL_y (.int .i64 ((w64 (l5.2.1 * (1000 : Int))))) (P_int rfl rfl rfl) rfl rfl lG rfl ?_
         refine EL_y (.int .i64 (l5.1)) (P_move rfl) rfl rfl lG rfl ?_
         refine EL_y (fPtr p8 3) (P_fieldAddr at_25_3 jG (OB.ptr aD)) rfl rfl lG rfl ?_
         refine EL_do (.yes2 rfl rfl lG) rfl (D_loadF (g := nK) part_PayList_3.1 Tryz.isAgg3 Tryz.sizeOf3 rfl aD fun y0T d0M => ?_)
         obtain rfl := RV_int.1 d0M
         refine EL_y (.int .i64 ((w64 (l5.1 * (y5).Cap)))) (P_int rfl rfl rfl) rfl rfl lG rfl ?_
         refine EL_y (.bool ((decide ((w64 (l5.2.1 * (1000 : Int))) > (w64 (l5.1 * (y5).Cap)))))) (P_int rfl rfl rfl) rfl rfl lG rfl ?_
         refine EL_p (.bool ((decide ((w64 (l5.2.1 * (1000 : Int))) > (w64 (l5.1 * (y5).Cap)))))) (P_pick (b := (decide (l5.2.1 < (0 : Int)))) rfl (pick_f lG rfl)) rfl ?_
         refine EL_p (.bool ((decide ((w64 (l5.2.1 * (1000 : Int))) > (w64 (l5.1 * (y5).Cap)))))) (P_move rfl) rfl ?_
         rcases csome h with ⟨mG, h⟩ | ⟨mG, h⟩
         ·refine EL_s rfl rfl mG rfl rfl ?_
          iterate 6 refine EL_s rfl rfl mG rfl rfl ?_
          refine EL_p (.bool true) (P_pick (b := (decide ((w64 (l5.2.1 * (1000 : Int))) > (w64 (l5.1 * (y5).Cap))))) rfl (pick_t mG rfl)) rfl ?_
          refine EL_dead 4 rfl ?_
          refine EL_nil ?_
          obtain rfl := sinj h
          exact hQ _ _ ⟨nK, hfr, vI, xD, xJ, rF, jG, aD, yJ, sF, zJ, tF, mI, lH, rfl, b552, rfl, rfl, rfl, rfl⟩
         ·refine EL_y (.int .i64 (l5.2.1)) (P_move rfl) rfl rfl mG rfl ?_
          refine EL_y (fPtr jI 4) (P_fieldAddr at_27_4 rfl (OB.ptr b552)) rfl rfl mG rfl ?_
          refine EL_do (.yes2 rfl rfl mG) rfl (D_loadF (g := nK) part_PayPiece_4.1 Tryz.isAgg3 Tryz.sizeOf3 rfl b552 fun z0T e0M => ?_)
          obtain rfl := RV_int.1 e0M
          refine EL_y (fPtr p8 2) (P_fieldAddr at_25_2 jG (OB.ptr aD)) rfl rfl mG rfl ?_
          refine EL_do (.yes2 rfl rfl mG) rfl (D_loadF (g := nK) part_PayList_2.1 Tryz.isAgg3 Tryz.sizeOf3 rfl aD fun a0U g0M => ?_)
          obtain rfl := RV_int.1 g0M
          refine EL_y (.int .i64 ((w64 ((mB).Faults * (y5).Fine)))) (P_int rfl rfl rfl) rfl rfl mG rfl ?_
          refine EL_y (.bool ((decide (l5.2.1 > (w64 ((mB).Faults * (y5).Fine)))))) (P_int rfl rfl rfl) rfl rfl mG rfl ?_
          refine EL_p (.bool ((decide (l5.2.1 > (w64 ((mB).Faults * (y5).Fine)))))) (P_pick (b := (decide ((w64 (l5.2.1 * (1000 : Int))) > (w64 (l5.1 * (y5).Cap))))) rfl (pick_f mG rfl)) rfl ?_
          refine EL_p (.bool ((decide (l5.2.1 > (w64 ((mB).Faults * (y5).Fine)))))) (P_move rfl) rfl ?_
          rcases csome h with ⟨pK, h⟩ | ⟨pK, h⟩
          ·refine EL_s rfl rfl pK rfl rfl ?_
           refine EL_s rfl rfl pK rfl rfl ?_
           refine EL_p (.bool true) (P_pick (b := (decide (l5.2.1 > (w64 ((mB).Faults * (y5).Fine))))) rfl (pick_t pK rfl)) rfl ?_
           refine EL_nil ?_
           obtain rfl := sinj h
           exact hQ _ _ ⟨nK, hfr, vI, xD, xJ, rF, jG, aD, yJ, sF, zJ, tF, mI, lH, rfl, b552, rfl, rfl, rfl, rfl⟩
          ·refine EL_y (.int .i64 (l5.2.2.1)) (P_move rfl) rfl rfl pK rfl ?_
           refine EL_y (.bool ((decide (l5.2.2.1 < (0 : Int))))) (P_int rfl rfl rfl) rfl rfl pK rfl ?_
           refine EL_p (.bool ((decide (l5.2.2.1 < (0 : Int))))) (P_pick (b := (decide (l5.2.1 > (w64 ((mB).Faults * (y5).Fine))))) rfl (pick_f pK rfl)) rfl ?_
           refine EL_nil ?_
           obtain rfl := sinj h
           exact hQ _ _ ⟨nK, hfr, vI, xD, xJ, rF, jG, aD, yJ, sF, zJ, tF, mI, lH, rfl, b552, rfl, rfl, rfl, rfl⟩
     ·clear hx
      obtain ⟨h0M, hfr, d0E, e0E, g0E, h0E, i0E, j0E, k0E, l0E, m0E, n0E, t09, u09, v09, x09, y09, z09, a0A, iQ⟩ := hR
      rcases csome h with ⟨bV, h⟩ | ⟨bV, h⟩
      ·refine E_cond_true (Eq.trans (show ev _ _ = .bool (uI) from iQ) (congrArg Value.bool bV)) ?_
       refine E_seq (E_region (EL_at (.bool false) rfl rfl ?_))
       refine EL_nil (thn_n (E_ret (thn_r ?_)))
       refine blk_r ?_
       refine thn_r ?_
       refine thn_r ?_
       refine blk_r ?_
       refine thn_r ?_
       obtain rfl := sinj h
       exact end1 rfl rfl (show _ = .bool false from rfl) ⟨_, hfr, rfl⟩
      ·refine E_cond_false (Eq.trans (show ev _ _ = .bool (uI) from iQ) (congrArg Value.bool bV)) ?_
       exact E_skip (thn_n (n0L () _ _ ⟨h0M, hfr, d0E, e0E, g0E, h0E, i0E, j0E, k0E, l0E, m0E, n0E, t09, u09, v09, x09, y09, z09, a0A⟩ h))
    ·rintro _ c0T b0U ⟨jQ, hfr, jX, kX, lX, mX, eN, aK, nX, oX, pX, qX, oT, pT, rN, nM, b0A, sT, tT⟩ h
     refine E_joinC h (fun (s : Unit) e w => ∃ (g : Gh) , Fr gI wI g w ∧ e 1 = up1 ∧ RV g.m w (x1 : List Cut) up1 ∧ e 5 = p2 ∧ PT g.m w (x2 : Vector UInt32 3) p2 ∧ e 7 = p8 ∧ OB 2007 g w 25 (y5 : PayList) p8 ∧ e 8 = lE ∧ OA 4008 g w 27 (iG : List PayPiece) lE ∧ e 9 = p9 ∧ OB 2009 g w 80 (iE : Vector Int 51) p9 ∧ e 10 = .int .i64 (oD) ∧ e 11 = .int .i64 (iB) ∧ e 12 = jI ∧ OB 2012 g w 27 (mB : PayPiece) jI ∧ e 15 = .int .i64 (l5.2.2.1)) (fun X663 q0D o0L h => ?_) ?_
     ·obtain ⟨tI, hx, h⟩ := bsome h
      refine E_join (fun e w => ∃ (g : Gh) , Fr gI wI g w ∧ e 1 = up1 ∧ RV g.m w (x1 : List Cut) up1 ∧ e 5 = p2 ∧ PT g.m w (x2 : Vector UInt32 3) p2 ∧ e 7 = p8 ∧ OB 2007 g w 25 (y5 : PayList) p8 ∧ e 8 = lE ∧ OA 4008 g w 27 (iG : List PayPiece) lE ∧ e 9 = p9 ∧ OB 2009 g w 80 (iE : Vector Int 51) p9 ∧ e 10 = .int .i64 (oD) ∧ e 11 = .int .i64 (iB) ∧ e 12 = jI ∧ OB 2012 g w 27 (mB : PayPiece) jI ∧ e 15 = .int .i64 (l5.2.2.1) ∧ e 140 = .bool (tI)) (fun Q' hQ => ?_) (fun d0T c0U hR => ?_)
      ·replace h := hx
       clear hx
       refine E_region (EL_mv sT rfl ?_)
       refine EL_p (fPtr jI 4) (P_fieldAddr at_27_4 rN (OB.ptr nM)) rfl ?_
       refine EL_do .plain rfl (D_loadF (g := jQ) part_PayPiece_4.1 Tryz.isAgg3 Tryz.sizeOf3 rfl nM fun d0U i0M => ?_)
       obtain rfl := RV_int.1 i0M
       refine EL_p (fPtr p8 2) (P_fieldAddr at_25_2 eN (OB.ptr aK)) rfl ?_
       refine EL_do .plain rfl (D_loadF (g := jQ) part_PayList_2.1 Tryz.isAgg3 Tryz.sizeOf3 rfl aK fun e0U j0M => ?_)
       obtain rfl := RV_int.1 j0M
       refine EL_in (.int .i64 ((w64 ((mB).Faults * (y5).Fine)))) rfl rfl rfl rfl ?_
       refine EL_p (.bool ((decide (l5.2.1 < (w64 ((mB).Faults * (y5).Fine)))))) (P_int rfl rfl rfl) rfl ?_
       refine EL_p (.bool ((decide (l5.2.1 < (w64 ((mB).Faults * (y5).Fine)))))) (P_move rfl) rfl ?_
       rcases csome h with ⟨bG, h⟩ | ⟨bG, h⟩
       ·refine EL_y (.int .i64 (l5.2.1)) (P_move sT) rfl rfl bG rfl ?_
        refine EL_y (.int .i64 ((w64 (l5.2.1 + (1 : Int))))) (P_int rfl rfl rfl) rfl rfl bG rfl ?_
        refine EL_y (.int .i64 ((w64 ((w64 (l5.2.1 + (1 : Int))) * (1000 : Int))))) (P_int rfl rfl rfl) rfl rfl bG rfl ?_
        refine EL_y (.int .i64 (l5.1)) (P_move b0A) rfl rfl bG rfl ?_
        refine EL_y (fPtr p8 3) (P_fieldAddr at_25_3 eN (OB.ptr aK)) rfl rfl bG rfl ?_
        refine EL_do (.yes2 rfl rfl bG) rfl (D_loadF (g := jQ) part_PayList_3.1 Tryz.isAgg3 Tryz.sizeOf3 rfl aK fun g0U k0M => ?_)
        obtain rfl := RV_int.1 k0M
        refine EL_y (.int .i64 ((w64 (l5.1 * (y5).Cap)))) (P_int rfl rfl rfl) rfl rfl bG rfl ?_
        refine EL_y (.bool ((decide ((w64 ((w64 (l5.2.1 + (1 : Int))) * (1000 : Int))) ≤ (w64 (l5.1 * (y5).Cap)))))) (P_int rfl rfl rfl) rfl rfl bG rfl ?_
        refine EL_p (.bool ((decide ((w64 ((w64 (l5.2.1 + (1 : Int))) * (1000 : Int))) ≤ (w64 (l5.1 * (y5).Cap)))))) (P_pick (b := (decide (l5.2.1 < (w64 ((mB).Faults * (y5).Fine))))) rfl (pick_t bG rfl)) rfl ?_
        refine EL_nil ?_
        obtain rfl := sinj h
        exact hQ _ _ ⟨jQ, hfr, jX, kX, lX, mX, eN, aK, nX, oX, pX, qX, oT, pT, rN, nM, tT, rfl⟩
       ·refine EL_s rfl rfl bG rfl rfl ?_
        iterate 7 refine EL_s rfl rfl bG rfl rfl ?_
        refine EL_p (.bool false) (P_pick (b := (decide (l5.2.1 < (w64 ((mB).Faults * (y5).Fine))))) rfl (pick_f bG rfl)) rfl ?_
        refine EL_nil ?_
        obtain rfl := sinj h
        exact hQ _ _ ⟨jQ, hfr, jX, kX, lX, mX, eN, aK, nX, oX, pX, qX, oT, pT, rN, nM, tT, rfl⟩
      ·clear hx
       obtain ⟨l0M, hfr, o0E, p0E, q0E, r0E, s0E, t0E, u0E, v0E, x0E, y0E, c0A, d0A, e0A, g0A, h0A, kQ⟩ := hR
       rcases csome h with ⟨cV, h⟩ | ⟨cV, h⟩
       ·refine E_cond_true (Eq.trans (show ev _ _ = .bool (tI) from kQ) (congrArg Value.bool cV)) ?_
        refine E_seq (E_region (EL_at (.bool false) rfl rfl ?_))
        refine EL_nil (thn_n (E_ret (thn_r ?_)))
        refine blk_r ?_
        refine thn_r ?_
        refine thn_r ?_
        refine blk_r ?_
        refine thn_r ?_
        obtain rfl := sinj h
        exact end1 rfl rfl (show _ = .bool false from rfl) ⟨_, hfr, rfl⟩
       ·refine E_cond_false (Eq.trans (show ev _ _ = .bool (tI) from kQ) (congrArg Value.bool cV)) ?_
        exact E_skip (thn_n (o0L () _ _ ⟨l0M, hfr, o0E, p0E, q0E, r0E, s0E, t0E, u0E, v0E, x0E, y0E, c0A, d0A, e0A, g0A, h0A⟩ h))
     ·rintro _ e0T h0U ⟨z0E, hfr, a0F, iH, b0F, jH, c0F, kH, d0F, lQ, mQ, kG, i0A, j0A, uT, cG, xT⟩ h
      refine E_seq (E_region (EL_mv d0F rfl ?_))
      refine EL_do .plain rfl (D_loadO (g := z0E) Tryz.isAgg27 Tryz.sizeOf27 uT cG fun m0M n0M => ?_)
      refine EL_do .plain rfl (D_buildSliceA (g := z0E) 4143 (xs := ([mB] : List PayPiece)) (vs := [m0M]) Tryz.underlying33 Tryz.sizeOf27 Tryz.zeroValue27 rfl rfl (.cons rfl .nil) (RVs.cons n0M RVs.nil) rfl rfl fun o0M i0U j0U hs b682 _ => ?_)
      have hfr := hfr.stp hs
      have iH := iH.stp hs
      have jH := jH.stp hs
      have kH := kH.stp hs rfl
      have lQ := lQ.stp hs rfl
      have kG := kG.stp hs rfl
      have cG := cG.stp hs rfl
      obtain ⟨v03, p0L, h⟩ := bsome h
      refine EL_do .plain rfl (D_appendAs (g := o0M) (i := 4008) (j := 4143) Tryz.underlying33 info_27 rfl rfl lQ rfl b682 (by simp) rfl p0L fun ga683 z03 k0U e0F hs hs2 b683 => ?_)
      have hfr := hfr.stp hs
      have iH := iH.stp hs
      have jH := jH.stp hs
      have kH := kH.stp hs rfl
      have kG := kG.stp hs rfl
      have cG := cG.stp hs rfl
      have hfr := hfr.stp hs2
      have iH := iH.stp hs2
      have jH := jH.stp hs2
      have kH := kH.stp hs2 rfl
      have kG := kG.stp hs2 rfl
      have cG := cG.stp hs2 rfl
      refine EL_mv i0A rfl ?_
      refine EL_mv xT rfl ?_
      refine EL_in (.int .i64 ((w64 (oD + l5.2.2.1)))) rfl rfl rfl rfl ?_
      refine EL_at e0F rfl rfl ?_
      refine EL_at (.int .i64 ((w64 (oD + l5.2.2.1)))) rfl rfl ?_
      refine EL_nil (thn_n (E_region (EL_p (fPtr jI 0) (P_fieldAddr at_27_0 uT (OB.ptr cG)) rfl ?_)))
      refine EL_do .plain rfl (D_loadF (g := z03) part_PayPiece_0.1 Tryz.isAgg3 Tryz.sizeOf3 rfl cG fun l0U p0M => ?_)
      obtain rfl := RV_int.1 p0M
      obtain ⟨yU, q09, h⟩ := bsome h
      obtain ⟨hi688, he688⟩ := vat_idx q09
      refine EL_p (fPtr p9 (((mB).Weaver : Int).toNat * 1)) (P_indexAddrA (α := Int) Tryz.underlying80 Tryz.sizeOf3 mQ (OB.ptr kG) rfl q09) rfl ?_
      refine EL_do .plain rfl (D_loadD (g := z03) (SubS.dyn hi688).1 he688 Tryz.isAgg3 Tryz.sizeOf3 rfl kG fun m0U q0M => ?_)
      obtain rfl := RV_int.1 q0M
      refine EL_mv xT rfl ?_
      refine EL_in (.int .i64 ((w64 (yU + l5.2.2.1)))) rfl rfl rfl rfl ?_
      obtain ⟨s0L, r09, h⟩ := bsome h
      obtain ⟨hi691, he691⟩ := vat_idx r09
      refine EL_p (fPtr p9 (((mB).Weaver : Int).toNat * 1)) (P_indexAddrA (α := Int) Tryz.underlying80 Tryz.sizeOf3 mQ (OB.ptr kG) rfl r09) rfl ?_
      refine EL_do .plain rfl (D_storeFc (g := z03) (SubS.dyn hi691) Tryz.sizeOf3 rfl kG rfl (RV_int.2 rfl) fun r0M n0U hs b692 rst hos => ?_)
      clear rst hos
      have hfr := hfr.stp hs
      have iH := iH.stp hs
      have jH := jH.stp hs
      have kH := kH.stp hs rfl
      have b683 := b683.stp hs rfl
      exact EL_nil (blk_n (thn_n (d0L (v03, (vset iE ((mB).Weaver) ((w64 (yU + l5.2.2.1)))), (w64 (oD + l5.2.2.1))) _ _ ⟨r0M, (e0F), hfr, a0F, iH, b0F, jH, c0F, kH, rfl, b683, mQ, b692, rfl, j0A⟩ h)))
   ·rintro ⟨bQ, cQ, oN⟩ g0T o0U ⟨s0M, g0F, hfr, h0F, i0F, j0F, k0F, l0F, m0F, n0F, o0F, p0F, q0F, k0A, l0A⟩ h
    refine E_region (EL_mv l0A rfl ?_)
    refine EL_in (.int .i64 ((w64 (iB + (1 : Int))))) rfl rfl rfl rfl ?_
    refine EL_at (.int .i64 ((w64 (iB + (1 : Int))))) rfl rfl ?_
    exact EL_nil (thn_n (b0L (bQ, cQ, oN, (w64 (iB + (1 : Int)))) _ _ ⟨s0M, (g0F), hfr, h0F, i0F, j0F, k0F, l0F, m0F, n0F, o0F, p0F, q0F, k0A, rfl⟩ h))
 ·rintro ⟨gV, nB, u9⟩ h0T p0U ⟨t0M, x5, hfr, r0F, s0F, t0F, u0F, v0F, x0F, y0F, z0F, m0A⟩ h
  refine E_joinC h (fun (s : Unit) e w => ∃ (g : Gh) , Fr gI wI g w ∧ e 5 = p2 ∧ PT g.m w (x2 : Vector UInt32 3) p2 ∧ e 7 = p8 ∧ OB 2007 g w 25 (y5 : PayList) p8) (fun X12467 rV n0A h => ?_) ?_
  ·refine E_seq (E_region (EL_at (.int .i64 (0)) rfl rfl ?_))
   refine EL_nil (thn_n (E_block ?_))
   refine E_lp h (fun (s : (List PayPiece) × Int) e w => ∃ (g : Gh) , Fr gI wI g w ∧ e 5 = p2 ∧ PT g.m w (x2 : Vector UInt32 3) p2 ∧ e 7 = p8 ∧ OB 2007 g w 25 (y5 : PayList) p8 ∧ e 8 = x5 ∧ OA 4008 g w 27 (s.1 : List PayPiece) x5 ∧ e 9 = p9 ∧ OB 2009 g w 80 (nB : Vector Int 51) p9 ∧ e 10 = .int .i64 (u9) ∧ e 17 = .int .i64 (s.2)) ⟨t0M, hfr, r0F, s0F, t0F, u0F, v0F, x0F, y0F, z0F, m0A, rfl⟩ (fun X12468 sV o0A => ?_)
   rintro ⟨d9, k8⟩ b0N v0O ⟨rX, hfr, nQ, oQ, pQ, qQ, a04, b04, c04, d04, sX, nO⟩ h
   refine E_joinC h (fun (s : Unit) e w => ∃ (g : Gh) , Fr gI wI g w ∧ e 5 = p2 ∧ PT g.m w (x2 : Vector UInt32 3) p2 ∧ e 7 = p8 ∧ OB 2007 g w 25 (y5 : PayList) p8 ∧ e 8 = x5 ∧ OA 4008 g w 27 (d9 : List PayPiece) x5 ∧ e 9 = p9 ∧ OB 2009 g w 80 (nB : Vector Int 51) p9 ∧ e 10 = .int .i64 (u9) ∧ e 17 = .int .i64 (k8)) (fun X12471 oW p0A h => ?_) ?_
   ·refine E_seq (E_region (EL_mv nO rfl ?_))
    refine EL_in (.bool ((decide (k8 < (2 : Int))))) rfl rfl rfl rfl ?_
    refine EL_nil (thn_n ?_)
    rcases csome h with ⟨sN, h⟩ | ⟨sN, h⟩
    ·refine E_ct sN rfl ?_
     exact E_skip (thn_n (p0A () _ _ ⟨rX, hfr, nQ, oQ, pQ, qQ, a04, b04, c04, d04, sX, nO⟩ h))
    ·refine E_cf sN rfl ?_
     refine E_exit ?_
     refine thn_e ?_
     refine thn_e ?_
     refine blk_hit ?_
     exact thn_n (n0A () _ _ ⟨rX, hfr, nQ, oQ, pQ, qQ⟩ h)
   ·rintro _ c0N x0O ⟨tX, hfr, qM, rE, qK, zD, sK, aE, rM, uE, nL, oL⟩ h
    refine E_joinC h (fun (s : (List PayPiece)) e w => ∃ (g : Gh) , Fr gI wI g w ∧ e 5 = p2 ∧ PT g.m w (x2 : Vector UInt32 3) p2 ∧ e 7 = p8 ∧ OB 2007 g w 25 (y5 : PayList) p8 ∧ e 8 = x5 ∧ OA 4008 g w 27 (s : List PayPiece) x5 ∧ e 9 = p9 ∧ OB 2009 g w 80 (nB : Vector Int 51) p9 ∧ e 10 = .int .i64 (u9) ∧ e 17 = .int .i64 (k8)) (fun X18356 tV q0A h => ?_) ?_
    ·refine E_block ?_
     refine E_seq (E_region (EL_do .plain rfl (D_loadO (g := tX) Tryz.isAgg25 Tryz.sizeOf25 qK zD fun a0G b0G => ?_)))
     obtain ⟨uV, r0A, h⟩ := bsome h
     refine EL_do .plain rfl (D_call (g := tX) (vs := [a0G]) en13 (.cons rfl .nil) (wk13 b0G r0A) fun c0G d0N d0G hs hr => ?_)
     have hfr := hfr.ext hs
     have rE := rE.ext hs
     have zD := zD.ext hs
     have aE := aE.ext hs
     have uE := uE.ext hs
     have rQ := hr
     refine EL_mv sK rfl ?_
     obtain ⟨vV, s0A, h⟩ := bsome h
     refine EL_do .plain rfl (D_callGF (g := c0G) (vs := [x5]) en14 (.cons rfl .nil) (W14 (iO := 1) (OM.lent (aE.toM)) s0A) fun gl18360 e0N e0G hxl hr => ?_)
     obtain ⟨g0G, hs, h0G⟩ := OWx.unlendV (free_list 27 fw_ow_PayPiece) hxl hr
     clear hxl hr
     have hfr := hfr.ext hs
     have rE := rE.ext hs
     have zD := zD.ext hs
     have aE := aE.ext hs
     have uE := uE.ext hs
     have rQ := rQ.ext hs
     obtain ⟨t5, t0A, h⟩ := bsome h
     refine EL_do .plain rfl (D_call (g := g0G) (vs := [d0G, e0G]) en27 (.cons rfl (.cons rfl .nil)) (wk27 rQ h0G t0A) fun sQ g0N y0O hs hr => ?_)
     have hfr := hfr.ext hs
     have rE := rE.ext hs
     have zD := zD.ext hs
     have aE := aE.ext hs
     have uE := uE.ext hs
     obtain ⟨u3, n9, u0M, v0M, rfl, tK, uK, rfl, rfl⟩ := hr
     refine EL_mw (.tuple #[u3, n9, .int .i64 (t5.2.2.1), .int .i64 (t5.2.2.2)]) rfl rfl ?_
     refine EL_p u3 (P_extract rfl rfl) rfl ?_
     refine EL_p n9 (P_extract rfl rfl) rfl ?_
     refine EL_p (.int .i64 (t5.2.2.1)) (P_extract rfl rfl) rfl ?_
     refine EL_p (.int .i64 (t5.2.2.2)) (P_extract rfl rfl) rfl ?_
     refine EL_at u3 rfl rfl ?_
     refine EL_at n9 rfl rfl ?_
     refine EL_at (.int .i64 (t5.2.2.1)) rfl rfl ?_
     refine EL_at (.int .i64 (t5.2.2.2)) rfl rfl ?_
     refine EL_nil (thn_n (E_joinC h (fun (s : Unit) e w => ∃ (g : Gh) , Fr gI wI g w ∧ e 5 = p2 ∧ PT g.m w (x2 : Vector UInt32 3) p2 ∧ e 7 = p8 ∧ OB 2007 g w 25 (y5 : PayList) p8 ∧ e 8 = x5 ∧ OA 4008 g w 27 (d9 : List PayPiece) x5 ∧ e 9 = p9 ∧ OB 2009 g w 80 (nB : Vector Int 51) p9 ∧ e 10 = .int .i64 (u9) ∧ e 17 = .int .i64 (k8) ∧ e 18 = u3 ∧ RV g.m w (t5.1 : List Int) u3 ∧ e 19 = n9 ∧ RV g.m w (t5.2.1 : List Int) n9) (fun X18370 nW u0A h => ?_) ?_))
     ·obtain ⟨gH, hx, h⟩ := bsome h
      refine E_join (fun e w => ∃ (g : Gh) , Fr gI wI g w ∧ e 5 = p2 ∧ PT g.m w (x2 : Vector UInt32 3) p2 ∧ e 7 = p8 ∧ OB 2007 g w 25 (y5 : PayList) p8 ∧ e 8 = x5 ∧ OA 4008 g w 27 (d9 : List PayPiece) x5 ∧ e 9 = p9 ∧ OB 2009 g w 80 (nB : Vector Int 51) p9 ∧ e 10 = .int .i64 (u9) ∧ e 17 = .int .i64 (k8) ∧ e 18 = u3 ∧ RV g.m w (t5.1 : List Int) u3 ∧ e 19 = n9 ∧ RV g.m w (t5.2.1 : List Int) n9 ∧ e 181 = .bool (gH)) (fun Q' hQ => ?_) (fun h0N z0O hR => ?_)
      ·replace h := hx
       clear hx
       refine E_region (EL_mw (.int .i64 (t5.2.2.2)) rfl rfl ?_)
       refine EL_in (.bool ((t5.2.2.2 != (0 : Int)))) rfl rfl rfl rfl ?_
       refine EL_mw (.bool ((t5.2.2.2 != (0 : Int)))) rfl rfl ?_
       rcases csome h with ⟨mH, h⟩ | ⟨mH, h⟩
       ·refine EL_s rfl rfl mH rfl rfl ?_
        refine EL_s rfl rfl mH rfl rfl ?_
        refine EL_p (.bool true) (P_pick (b := (t5.2.2.2 != (0 : Int))) rfl (pick_t mH rfl)) rfl ?_
        refine EL_dead 7 rfl ?_
        refine EL_nil ?_
        obtain rfl := sinj h
        exact hQ _ _ ⟨sQ, hfr, qM, rE, qK, zD, sK, aE, rM, uE, nL, oL, rfl, tK, rfl, uK, rfl⟩
       ·refine EL_y (.int .i64 (t5.2.2.1)) (P_move rfl) rfl rfl mH rfl ?_
        refine EL_y (.bool ((t5.2.2.1 != (0 : Int)))) (P_int rfl rfl rfl) rfl rfl mH rfl ?_
        refine EL_p (.bool ((t5.2.2.1 != (0 : Int)))) (P_pick (b := (t5.2.2.2 != (0 : Int))) rfl (pick_f mH rfl)) rfl ?_
        refine EL_mw (.bool ((t5.2.2.1 != (0 : Int)))) rfl rfl ?_
        rcases csome h with ⟨uF, h⟩ | ⟨uF, h⟩
        ·refine EL_s rfl rfl uF rfl rfl ?_
         iterate 4 refine EL_s rfl rfl uF rfl rfl ?_
         refine EL_p (.bool true) (P_pick (b := (t5.2.2.1 != (0 : Int))) rfl (pick_t uF rfl)) rfl ?_
         refine EL_nil ?_
         obtain rfl := sinj h
         exact hQ _ _ ⟨sQ, hfr, qM, rE, qK, zD, sK, aE, rM, uE, nL, oL, rfl, tK, rfl, uK, rfl⟩
        ·refine EL_y u3 (P_move rfl) rfl rfl uF rfl ?_
         refine EL_y (.int .i64 ((t5.1).length : Int)) (P_len Tryz.underlying23 rfl tK) rfl rfl uF rfl ?_
         refine EL_y n9 (P_move rfl) rfl rfl uF rfl ?_
         refine EL_y (.int .i64 ((t5.2.1).length : Int)) (P_len Tryz.underlying23 rfl uK) rfl rfl uF rfl ?_
         refine EL_y (.bool ((((t5.1).length : Int) != ((t5.2.1).length : Int)))) (P_int rfl rfl rfl) rfl rfl uF rfl ?_
         refine EL_p (.bool ((((t5.1).length : Int) != ((t5.2.1).length : Int)))) (P_pick (b := (t5.2.2.1 != (0 : Int))) rfl (pick_f uF rfl)) rfl ?_
         refine EL_nil ?_
         obtain rfl := sinj h
         exact hQ _ _ ⟨sQ, hfr, qM, rE, qK, zD, sK, aE, rM, uE, nL, oL, rfl, tK, rfl, uK, rfl⟩
      ·clear hx
       obtain ⟨i0G, hfr, e04, g04, h04, i04, j04, k04, l04, m04, uX, vX, xX, yX, zX, aY, gN⟩ := hR
       rcases csome h with ⟨tN, h⟩ | ⟨tN, h⟩
       ·refine E_cond_true (Eq.trans (show ev _ _ = .bool (gH) from gN) (congrArg Value.bool tN)) ?_
        refine E_seq (E_region (EL_at (.bool false) rfl rfl ?_))
        refine EL_nil (thn_n (E_ret (thn_r ?_)))
        refine blk_r ?_
        refine thn_r ?_
        refine thn_r ?_
        refine blk_r ?_
        refine thn_r ?_
        obtain rfl := sinj h
        exact end1 rfl rfl (show _ = .bool false from rfl) ⟨_, hfr, rfl⟩
       ·refine E_cond_false (Eq.trans (show ev _ _ = .bool (gH) from gN) (congrArg Value.bool tN)) ?_
        exact E_skip (thn_n (u0A () _ _ ⟨i0G, hfr, e04, g04, h04, i04, j04, k04, l04, m04, uX, vX, xX, yX, zX, aY⟩ h))
     ·rintro _ i0N a0P ⟨j0G, hfr, n04, o04, p04, q04, r04, s04, t04, u04, bY, cY, dY, eY, gY, iY⟩ h
      refine E_seq (E_region (EL_at (.int .i64 (0)) rfl rfl ?_))
      refine EL_nil (thn_n (E_joinC h (fun (s : Int) e w => ∃ (g : Gh) , Fr gI wI g w ∧ e 5 = p2 ∧ PT g.m w (x2 : Vector UInt32 3) p2 ∧ e 7 = p8 ∧ OB 2007 g w 25 (y5 : PayList) p8 ∧ e 8 = x5 ∧ OA 4008 g w 27 (d9 : List PayPiece) x5 ∧ e 9 = p9 ∧ OB 2009 g w 80 (nB : Vector Int 51) p9 ∧ e 10 = .int .i64 (u9) ∧ e 17 = .int .i64 (k8) ∧ e 18 = u3 ∧ RV g.m w (t5.1 : List Int) u3 ∧ e 22 = .int .i64 (s)) (fun X20756 iW v0A h => ?_) ?_))
      ·refine E_seq (E_region (EL_at (.int .i64 (0)) rfl rfl ?_))
       refine EL_nil (thn_n (E_block ?_))
       refine E_lp h (fun (s : Int × Int) e w => ∃ (g : Gh) , Fr gI wI g w ∧ e 5 = p2 ∧ PT g.m w (x2 : Vector UInt32 3) p2 ∧ e 7 = p8 ∧ OB 2007 g w 25 (y5 : PayList) p8 ∧ e 8 = x5 ∧ OA 4008 g w 27 (d9 : List PayPiece) x5 ∧ e 9 = p9 ∧ OB 2009 g w 80 (nB : Vector Int 51) p9 ∧ e 10 = .int .i64 (u9) ∧ e 17 = .int .i64 (k8) ∧ e 18 = u3 ∧ RV g.m w (t5.1 : List Int) u3 ∧ e 19 = n9 ∧ RV g.m w (t5.2.1 : List Int) n9 ∧ e 22 = .int .i64 (s.1) ∧ e 23 = .int .i64 (s.2)) ⟨j0G, hfr, n04, o04, p04, q04, r04, s04, t04, u04, bY, cY, dY, eY, gY, iY, rfl, rfl⟩ (fun X20757 jW x0A => ?_)
       rintro ⟨nD, o0⟩ j0N b0P ⟨jY, hfr, tQ, uQ, vQ, xQ, yQ, zQ, aR, bR, oO, pO, pL, qL, kY, mY, qO, rO⟩ h
       refine E_joinC h (fun (s : Unit) e w => ∃ (g : Gh) , Fr gI wI g w ∧ e 5 = p2 ∧ PT g.m w (x2 : Vector UInt32 3) p2 ∧ e 7 = p8 ∧ OB 2007 g w 25 (y5 : PayList) p8 ∧ e 8 = x5 ∧ OA 4008 g w 27 (d9 : List PayPiece) x5 ∧ e 9 = p9 ∧ OB 2009 g w 80 (nB : Vector Int 51) p9 ∧ e 10 = .int .i64 (u9) ∧ e 17 = .int .i64 (k8) ∧ e 18 = u3 ∧ RV g.m w (t5.1 : List Int) u3 ∧ e 19 = n9 ∧ RV g.m w (t5.2.1 : List Int) n9 ∧ e 22 = .int .i64 (nD) ∧ e 23 = .int .i64 (o0)) (fun X20760 mW y0A h => ?_) ?_
       ·refine E_seq (E_region (EL_mv rO rfl ?_))
        refine EL_mv pL rfl ?_
        refine EL_p (.int .i64 ((t5.1).length : Int)) (P_len Tryz.underlying23 rfl qL) rfl ?_
        refine EL_in (.bool ((decide (o0 < ((t5.1).length : Int))))) rfl rfl rfl rfl ?_
        refine EL_nil (thn_n ?_)
        rcases csome h with ⟨uN, h⟩ | ⟨uN, h⟩
        ·refine E_ct uN rfl ?_
         exact E_skip (thn_n (y0A () _ _ ⟨jY, hfr, tQ, uQ, vQ, xQ, yQ, zQ, aR, bR, oO, pO, pL, qL, kY, mY, qO, rO⟩ h))
        ·refine E_cf uN rfl ?_
         refine E_exit ?_
         refine thn_e ?_
         refine thn_e ?_
         refine blk_hit ?_
         exact thn_n (v0A (nD) _ _ ⟨jY, hfr, tQ, uQ, vQ, xQ, yQ, zQ, aR, bR, oO, pO, pL, qL, qO⟩ h)
       ·rintro _ k0N c0P ⟨rL, hfr, yI, mC, zI, qC, eJ, rC, sG, tB, yH, zH, bA, x6, yF, dB, aI, r8⟩ h
        refine E_joinC h (fun (s : Int) e w => ∃ (g : Gh) , Fr gI wI g w ∧ e 5 = p2 ∧ PT g.m w (x2 : Vector UInt32 3) p2 ∧ e 7 = p8 ∧ OB 2007 g w 25 (y5 : PayList) p8 ∧ e 8 = x5 ∧ OA 4008 g w 27 (d9 : List PayPiece) x5 ∧ e 9 = p9 ∧ OB 2009 g w 80 (nB : Vector Int 51) p9 ∧ e 10 = .int .i64 (u9) ∧ e 17 = .int .i64 (k8) ∧ e 18 = u3 ∧ RV g.m w (t5.1 : List Int) u3 ∧ e 19 = n9 ∧ RV g.m w (t5.2.1 : List Int) n9 ∧ e 22 = .int .i64 (s) ∧ e 23 = .int .i64 (o0)) (fun X21948 kW z0A h => ?_) ?_
        ·refine E_block ?_
         refine E_joinC h (fun (s : Unit) e w => ∃ (g : Gh) , Fr gI wI g w ∧ e 5 = p2 ∧ PT g.m w (x2 : Vector UInt32 3) p2 ∧ e 7 = p8 ∧ OB 2007 g w 25 (y5 : PayList) p8 ∧ e 8 = x5 ∧ OA 4008 g w 27 (d9 : List PayPiece) x5 ∧ e 9 = p9 ∧ OB 2009 g w 80 (nB : Vector Int 51) p9 ∧ e 10 = .int .i64 (u9) ∧ e 17 = .int .i64 (k8) ∧ e 18 = u3 ∧ RV g.m w (t5.1 : List Int) u3 ∧ e 19 = n9 ∧ RV g.m w (t5.2.1 : List Int) n9 ∧ e 22 = .int .i64 (nD) ∧ e 23 = .int .i64 (o0)) (fun X22539 lW a0B h => ?_) ?_
         ·obtain ⟨dH, hx, h⟩ := bsome h
          refine E_join (fun e w => ∃ (g : Gh) , Fr gI wI g w ∧ e 5 = p2 ∧ PT g.m w (x2 : Vector UInt32 3) p2 ∧ e 7 = p8 ∧ OB 2007 g w 25 (y5 : PayList) p8 ∧ e 8 = x5 ∧ OA 4008 g w 27 (d9 : List PayPiece) x5 ∧ e 9 = p9 ∧ OB 2009 g w 80 (nB : Vector Int 51) p9 ∧ e 10 = .int .i64 (u9) ∧ e 17 = .int .i64 (k8) ∧ e 18 = u3 ∧ RV g.m w (t5.1 : List Int) u3 ∧ e 19 = n9 ∧ RV g.m w (t5.2.1 : List Int) n9 ∧ e 22 = .int .i64 (nD) ∧ e 23 = .int .i64 (o0) ∧ e 228 = .bool (dH)) (fun Q' hQ => ?_) (fun l0N d0P hR => ?_)
          ·replace h := hx
           clear hx
           obtain ⟨yB, nI, h⟩ := bsome h
           have k0G := PT_idx x6 nI
           refine L_load (x := .tmp 190) Tryz.isAgg3 Tryz.sizeOf3 k0G fun e0P l0G bK => ?_
           obtain rfl := RV_int.1 l0G
           rcases csome h with ⟨k9, h⟩ | ⟨k9, h⟩
           ·refine E_drawL (g := rL) (n := 41) [] [0, 1, 2, 3, 4, 5, 6, 7, 8, 9, 10, 11, 12, 13, 14, 15, 16, 17, 18, 19, 20, 21, 22, 23, 24, 25, 26, 27, 28, 29, 30, 31, 32, 33, 34, 35, 36, 37, 38, 39, 40] rfl mixed (by kernel_rfl) trivial ?_
            refine L_p u3 rfl rfl (P_move bA) ?_
            refine L_p (.int .i64 (o0)) rfl rfl (P_move r8) ?_
            refine L_p (ePtr u3 o0 1) rfl rfl (P_indexAddr (α := Int) Tryz.underlying23 Tryz.sizeOf3 rfl x6 rfl nI) ?_
            refine L_ld (c := .int .i64 (yB)) rfl rfl .plain (fun _ _ h => h.ch) bK rfl ?_
            refine L_p (.bool ((decide (yB < (0 : Int))))) rfl rfl (P_int rfl rfl rfl) ?_
            refine L_p (.bool ((decide (yB < (0 : Int))))) rfl rfl (P_move rfl) ?_
            iterate 5 refine L_s rfl rfl rfl k9 rfl ?_
            refine L_p (.bool true) rfl rfl (P_pick (b := (decide (yB < (0 : Int)))) rfl (pick_t k9 rfl)) ?_
            refine L_dead (fun _ => rfl) 29 rfl ?_
            refine L_nl fun m0G g0P hs => ?_
            have hfr := hfr.ext hs
            have mC := mC.ext hs
            have qC := qC.ext hs
            have rC := rC.ext hs
            have tB := tB.ext hs
            have x6 := x6.ext hs
            have dB := dB.ext hs
            clear hs
            refine EL_nil ?_
            obtain rfl := sinj h
            exact hQ _ _ ⟨m0G, hfr, yI, mC, zI, qC, eJ, rC, sG, tB, yH, zH, bA, x6, yF, dB, aI, r8, rfl⟩
           ·obtain ⟨zB, cK, h⟩ := bsome h
            have n0G := PT_idx x6 cK
            refine L_load (x := .tmp 196) Tryz.isAgg3 Tryz.sizeOf3 n0G fun h0P o0G oM => ?_
            obtain rfl := RV_int.1 o0G
            rcases csome h with ⟨vB, h⟩ | ⟨vB, h⟩
            ·refine E_drawL (g := rL) (n := 41) [] [0, 1, 2, 3, 4, 5, 6, 7, 8, 9, 10, 11, 12, 13, 14, 15, 16, 17, 18, 19, 20, 21, 22, 23, 24, 25, 26, 27, 28, 29, 30, 31, 32, 33, 34, 35, 36, 37, 38, 39, 40] rfl mixed (by kernel_rfl) trivial ?_
             refine L_p u3 rfl rfl (P_move bA) ?_
             refine L_p (.int .i64 (o0)) rfl rfl (P_move r8) ?_
             refine L_p (ePtr u3 o0 1) rfl rfl (P_indexAddr (α := Int) Tryz.underlying23 Tryz.sizeOf3 rfl x6 rfl nI) ?_
             refine L_ld (c := .int .i64 (yB)) rfl rfl .plain (fun _ _ h => h.ch) bK rfl ?_
             refine L_p (.bool ((decide (yB < (0 : Int))))) rfl rfl (P_int rfl rfl rfl) ?_
             refine L_p (.bool ((decide (yB < (0 : Int))))) rfl rfl (P_move rfl) ?_
             refine L_y u3 rfl rfl rfl rfl k9 (P_move bA) ?_
             refine L_y (.int .i64 (o0)) rfl rfl rfl rfl k9 (P_move r8) ?_
             refine L_y (ePtr u3 o0 1) rfl rfl rfl rfl k9 (P_indexAddr (α := Int) Tryz.underlying23 Tryz.sizeOf3 rfl x6 rfl cK) ?_
             refine L_ld (c := .int .i64 (zB)) rfl rfl (.yes2 rfl rfl k9) (fun _ _ h => h.ch) oM rfl ?_
             refine L_y (.bool ((decide (zB > (50 : Int))))) rfl rfl rfl rfl k9 (P_int rfl rfl rfl) ?_
             refine L_p (.bool ((decide (zB > (50 : Int))))) rfl rfl (P_pick (b := (decide (yB < (0 : Int)))) rfl (pick_f k9 rfl)) ?_
             refine L_p (.bool ((decide (zB > (50 : Int))))) rfl rfl (P_move rfl) ?_
             iterate 3 refine L_s rfl rfl rfl vB rfl ?_
             refine L_dead (fun _ => rfl) 10 rfl ?_
             refine L_s rfl rfl rfl vB rfl ?_
             refine L_p (.bool true) rfl rfl (P_pick (b := (decide (zB > (50 : Int)))) rfl (pick_t vB rfl)) ?_
             refine L_dead (fun _ => rfl) 13 rfl ?_
             refine L_nl fun p0G i0P hs => ?_
             have hfr := hfr.ext hs
             have mC := mC.ext hs
             have qC := qC.ext hs
             have rC := rC.ext hs
             have tB := tB.ext hs
             have x6 := x6.ext hs
             have dB := dB.ext hs
             clear hs
             refine EL_nil ?_
             obtain rfl := sinj h
             exact hQ _ _ ⟨p0G, hfr, yI, mC, zI, qC, eJ, rC, sG, tB, yH, zH, bA, x6, yF, dB, aI, r8, rfl⟩
            ·rcases csome h with ⟨aB, h⟩ | ⟨aB, h⟩
             ·obtain ⟨tD, vN, h⟩ := bsome h
              have q0G := PT_idx x6 vN
              refine L_load (x := .tmp 206) Tryz.isAgg3 Tryz.sizeOf3 q0G fun j0P r0G yT => ?_
              obtain rfl := RV_int.1 r0G
              obtain ⟨uD, xN, h⟩ := bsome h
              have s0G := PT_idx x6 xN
              refine L_load (x := .tmp 211) Tryz.isAgg3 Tryz.sizeOf3 s0G fun k0P t0G zT => ?_
              obtain rfl := RV_int.1 t0G
              rcases csome h with ⟨bD, h⟩ | ⟨bD, h⟩
              ·refine E_drawL (g := rL) (n := 41) [] [0, 1, 2, 3, 4, 5, 6, 7, 8, 9, 10, 11, 12, 13, 14, 15, 16, 17, 18, 19, 20, 21, 22, 23, 24, 25, 26, 27, 28, 29, 30, 31, 32, 33, 34, 35, 36, 37, 38, 39, 40] rfl mixed (by kernel_rfl) trivial ?_
               refine L_p u3 rfl rfl (P_move bA) ?_
               refine L_p (.int .i64 (o0)) rfl rfl (P_move r8) ?_
               refine L_p (ePtr u3 o0 1) rfl rfl (P_indexAddr (α := Int) Tryz.underlying23 Tryz.sizeOf3 rfl x6 rfl nI) ?_
               refine L_ld (c := .int .i64 (yB)) rfl rfl .plain (fun _ _ h => h.ch) bK rfl ?_
               refine L_p (.bool ((decide (yB < (0 : Int))))) rfl rfl (P_int rfl rfl rfl) ?_
               refine L_p (.bool ((decide (yB < (0 : Int))))) rfl rfl (P_move rfl) ?_
               refine L_y u3 rfl rfl rfl rfl k9 (P_move bA) ?_
               refine L_y (.int .i64 (o0)) rfl rfl rfl rfl k9 (P_move r8) ?_
               refine L_y (ePtr u3 o0 1) rfl rfl rfl rfl k9 (P_indexAddr (α := Int) Tryz.underlying23 Tryz.sizeOf3 rfl x6 rfl cK) ?_
               refine L_ld (c := .int .i64 (zB)) rfl rfl (.yes2 rfl rfl k9) (fun _ _ h => h.ch) oM rfl ?_
               refine L_y (.bool ((decide (zB > (50 : Int))))) rfl rfl rfl rfl k9 (P_int rfl rfl rfl) ?_
               refine L_p (.bool ((decide (zB > (50 : Int))))) rfl rfl (P_pick (b := (decide (yB < (0 : Int)))) rfl (pick_f k9 rfl)) ?_
               refine L_p (.bool ((decide (zB > (50 : Int))))) rfl rfl (P_move rfl) ?_
               refine L_y (.int .i64 (o0)) rfl rfl rfl rfl vB (P_move r8) ?_
               refine L_y (.bool ((decide (o0 > (0 : Int))))) rfl rfl rfl rfl vB (P_int rfl rfl rfl) ?_
               refine L_y (.bool ((decide (o0 > (0 : Int))))) rfl rfl rfl rfl vB (P_move rfl) ?_
               refine L_y u3 rfl rfl rfl rfl aB (P_move bA) ?_
               refine L_y (.int .i64 (o0)) rfl rfl rfl rfl aB (P_move r8) ?_
               refine L_y (ePtr u3 o0 1) rfl rfl rfl rfl aB (P_indexAddr (α := Int) Tryz.underlying23 Tryz.sizeOf3 rfl x6 rfl vN) ?_
               refine L_ld (c := .int .i64 (tD)) rfl rfl (.yes2 rfl rfl aB) (fun _ _ h => h.ch) yT rfl ?_
               refine L_y u3 rfl rfl rfl rfl aB (P_move bA) ?_
               refine L_y (.int .i64 (o0)) rfl rfl rfl rfl aB (P_move r8) ?_
               refine L_y (.int .i64 ((w64 (o0 - (1 : Int))))) rfl rfl rfl rfl aB (P_int rfl rfl rfl) ?_
               refine L_y (ePtr u3 (w64 (o0 - (1 : Int))) 1) rfl rfl rfl rfl aB (P_indexAddr (α := Int) Tryz.underlying23 Tryz.sizeOf3 rfl x6 rfl xN) ?_
               refine L_ld (c := .int .i64 (uD)) rfl rfl (.yes2 rfl rfl aB) (fun _ _ h => h.ch) zT rfl ?_
               refine L_y (.bool ((decide (tD ≤ uD)))) rfl rfl rfl rfl aB (P_int rfl rfl rfl) ?_
               refine L_y (.bool ((decide (tD ≤ uD)))) rfl rfl rfl rfl vB (P_pick (b := (decide (o0 > (0 : Int)))) rfl (pick_t aB rfl)) ?_
               refine L_p (.bool ((decide (tD ≤ uD)))) rfl rfl (P_pick (b := (decide (zB > (50 : Int)))) rfl (pick_f vB rfl)) ?_
               refine L_p (.bool ((decide (tD ≤ uD)))) rfl rfl (P_move rfl) ?_
               iterate 11 refine L_s rfl rfl rfl bD rfl ?_
               refine L_p (.bool true) rfl rfl (P_pick (b := (decide (tD ≤ uD))) rfl (pick_t bD rfl)) ?_
               refine L_nl fun u0G l0P hs => ?_
               have hfr := hfr.ext hs
               have mC := mC.ext hs
               have qC := qC.ext hs
               have rC := rC.ext hs
               have tB := tB.ext hs
               have x6 := x6.ext hs
               have dB := dB.ext hs
               clear hs
               refine EL_nil ?_
               obtain rfl := sinj h
               exact hQ _ _ ⟨u0G, hfr, yI, mC, zI, qC, eJ, rC, sG, tB, yH, zH, bA, x6, yF, dB, aI, r8, rfl⟩
              ·obtain ⟨dL, aU, h⟩ := bsome h
               have v0G := PT_idx dB aU
               refine L_load (x := .tmp 219) Tryz.isAgg3 Tryz.sizeOf3 v0G fun m0P x0G b0B => ?_
               obtain rfl := RV_int.1 x0G
               obtain ⟨eL, bU, h⟩ := bsome h
               have y0G := PT_idx x6 bU
               refine L_load (x := .tmp 223) Tryz.isAgg3 Tryz.sizeOf3 y0G fun n0P z0G c0B => ?_
               obtain rfl := RV_int.1 z0G
               obtain ⟨gL, cU, h⟩ := bsome h
               obtain ⟨hi23013, he23013⟩ := vat_idx cU
               refine L_loadOD (off := ((eL : Int).toNat * 1)) (x := .tmp 225) (SubS.dyn hi23013).1 he23013 Tryz.isAgg3 Tryz.sizeOf3 tB fun o0P a0H d0B => ?_
               obtain rfl := RV_int.1 a0H
               refine E_drawL (g := rL) (n := 41) [] [0, 1, 2, 3, 4, 5, 6, 7, 8, 9, 10, 11, 12, 13, 14, 15, 16, 17, 18, 19, 20, 21, 22, 23, 24, 25, 26, 27, 28, 29, 30, 31, 32, 33, 34, 35, 36, 37, 38, 39, 40] rfl mixed (by kernel_rfl) trivial ?_
               refine L_p u3 rfl rfl (P_move bA) ?_
               refine L_p (.int .i64 (o0)) rfl rfl (P_move r8) ?_
               refine L_p (ePtr u3 o0 1) rfl rfl (P_indexAddr (α := Int) Tryz.underlying23 Tryz.sizeOf3 rfl x6 rfl nI) ?_
               refine L_ld (c := .int .i64 (yB)) rfl rfl .plain (fun _ _ h => h.ch) bK rfl ?_
               refine L_p (.bool ((decide (yB < (0 : Int))))) rfl rfl (P_int rfl rfl rfl) ?_
               refine L_p (.bool ((decide (yB < (0 : Int))))) rfl rfl (P_move rfl) ?_
               refine L_y u3 rfl rfl rfl rfl k9 (P_move bA) ?_
               refine L_y (.int .i64 (o0)) rfl rfl rfl rfl k9 (P_move r8) ?_
               refine L_y (ePtr u3 o0 1) rfl rfl rfl rfl k9 (P_indexAddr (α := Int) Tryz.underlying23 Tryz.sizeOf3 rfl x6 rfl cK) ?_
               refine L_ld (c := .int .i64 (zB)) rfl rfl (.yes2 rfl rfl k9) (fun _ _ h => h.ch) oM rfl ?_
               refine L_y (.bool ((decide (zB > (50 : Int))))) rfl rfl rfl rfl k9 (P_int rfl rfl rfl) ?_
               refine L_p (.bool ((decide (zB > (50 : Int))))) rfl rfl (P_pick (b := (decide (yB < (0 : Int)))) rfl (pick_f k9 rfl)) ?_
               refine L_p (.bool ((decide (zB > (50 : Int))))) rfl rfl (P_move rfl) ?_
               refine L_y (.int .i64 (o0)) rfl rfl rfl rfl vB (P_move r8) ?_
               refine L_y (.bool ((decide (o0 > (0 : Int))))) rfl rfl rfl rfl vB (P_int rfl rfl rfl) ?_
               refine L_y (.bool ((decide (o0 > (0 : Int))))) rfl rfl rfl rfl vB (P_move rfl) ?_
               refine L_y u3 rfl rfl rfl rfl aB (P_move bA) ?_
               refine L_y (.int .i64 (o0)) rfl rfl rfl rfl aB (P_move r8) ?_
               refine L_y (ePtr u3 o0 1) rfl rfl rfl rfl aB (P_indexAddr (α := Int) Tryz.underlying23 Tryz.sizeOf3 rfl x6 rfl vN) ?_
               refine L_ld (c := .int .i64 (tD)) rfl rfl (.yes2 rfl rfl aB) (fun _ _ h => h.ch) yT rfl ?_
               refine L_y u3 rfl rfl rfl rfl aB (P_move bA) ?_
               refine L_y (.int .i64 (o0)) rfl rfl rfl rfl aB (P_move r8) ?_
               refine L_y (.int .i64 ((w64 (o0 - (1 : Int))))) rfl rfl rfl rfl aB (P_int rfl rfl rfl) ?_
               refine L_y (ePtr u3 (w64 (o0 - (1 : Int))) 1) rfl rfl rfl rfl aB (P_indexAddr (α := Int) Tryz.underlying23 Tryz.sizeOf3 rfl x6 rfl xN) ?_
               refine L_ld (c := .int .i64 (uD)) rfl rfl (.yes2 rfl rfl aB) (fun _ _ h => h.ch) zT rfl ?_
               refine L_y (.bool ((decide (tD ≤ uD)))) rfl rfl rfl rfl aB (P_int rfl rfl rfl) ?_
               refine L_y (.bool ((decide (tD ≤ uD)))) rfl rfl rfl rfl vB (P_pick (b := (decide (o0 > (0 : Int)))) rfl (pick_t aB rfl)) ?_
               refine L_p (.bool ((decide (tD ≤ uD)))) rfl rfl (P_pick (b := (decide (zB > (50 : Int)))) rfl (pick_f vB rfl)) ?_
               refine L_p (.bool ((decide (tD ≤ uD)))) rfl rfl (P_move rfl) ?_
               refine L_y n9 rfl rfl rfl rfl bD (P_move yF) ?_
               refine L_y (.int .i64 (o0)) rfl rfl rfl rfl bD (P_move r8) ?_
               refine L_y (ePtr n9 o0 1) rfl rfl rfl rfl bD (P_indexAddr (α := Int) Tryz.underlying23 Tryz.sizeOf3 rfl dB rfl aU) ?_
               refine L_ld (c := .int .i64 (dL)) rfl rfl (.yes2 rfl rfl bD) (fun _ _ h => h.ch) b0B rfl ?_
               refine L_y u3 rfl rfl rfl rfl bD (P_move bA) ?_
               refine L_y (.int .i64 (o0)) rfl rfl rfl rfl bD (P_move r8) ?_
               refine L_y (ePtr u3 o0 1) rfl rfl rfl rfl bD (P_indexAddr (α := Int) Tryz.underlying23 Tryz.sizeOf3 rfl x6 rfl bU) ?_
               refine L_ld (c := .int .i64 (eL)) rfl rfl (.yes2 rfl rfl bD) (fun _ _ h => h.ch) c0B rfl ?_
               refine L_y (fPtr p9 ((eL : Int).toNat * 1)) rfl rfl rfl rfl bD (P_indexAddrA (α := Int) Tryz.underlying80 Tryz.sizeOf3 sG (OB.ptr tB) rfl cU) ?_
               refine L_ld (c := .int .i64 (gL)) rfl rfl (.yes2 rfl rfl bD) (fun _ _ h => ⟨h.ch, fun b hb _ => h.below.block b hb⟩) d0B rfl ?_
               refine L_y (.bool ((dL != gL))) rfl rfl rfl rfl bD (P_int rfl rfl rfl) ?_
               refine L_p (.bool ((dL != gL))) rfl rfl (P_pick (b := (decide (tD ≤ uD))) rfl (pick_f bD rfl)) ?_
               refine L_nl fun b0H p0P hs => ?_
               have hfr := hfr.ext hs
               have mC := mC.ext hs
               have qC := qC.ext hs
               have rC := rC.ext hs
               have tB := tB.ext hs
               have x6 := x6.ext hs
               have dB := dB.ext hs
               clear hs
               refine EL_nil ?_
               obtain rfl := sinj h
               exact hQ _ _ ⟨b0H, hfr, yI, mC, zI, qC, eJ, rC, sG, tB, yH, zH, bA, x6, yF, dB, aI, r8, rfl⟩
             ·obtain ⟨iL, dU, h⟩ := bsome h
              have c0H := PT_idx dB dU
              refine L_load (x := .tmp 219) Tryz.isAgg3 Tryz.sizeOf3 c0H fun q0P d0H e0B => ?_
              obtain rfl := RV_int.1 d0H
              obtain ⟨jL, eU, h⟩ := bsome h
              have e0H := PT_idx x6 eU
              refine L_load (x := .tmp 223) Tryz.isAgg3 Tryz.sizeOf3 e0H fun r0P g0H g0B => ?_
              obtain rfl := RV_int.1 g0H
              obtain ⟨lL, gU, h⟩ := bsome h
              obtain ⟨hi23074, he23074⟩ := vat_idx gU
              refine L_loadOD (off := ((jL : Int).toNat * 1)) (x := .tmp 225) (SubS.dyn hi23074).1 he23074 Tryz.isAgg3 Tryz.sizeOf3 tB fun s0P h0H h0B => ?_
              obtain rfl := RV_int.1 h0H
              refine E_drawL (g := rL) (n := 41) [] [0, 1, 2, 3, 4, 5, 6, 7, 8, 9, 10, 11, 12, 13, 14, 15, 16, 17, 18, 19, 20, 21, 22, 23, 24, 25, 26, 27, 28, 29, 30, 31, 32, 33, 34, 35, 36, 37, 38, 39, 40] rfl mixed (by kernel_rfl) trivial ?_
              refine L_p u3 rfl rfl (P_move bA) ?_
              refine L_p (.int .i64 (o0)) rfl rfl (P_move r8) ?_
              refine L_p (ePtr u3 o0 1) rfl rfl (P_indexAddr (α := Int) Tryz.underlying23 Tryz.sizeOf3 rfl x6 rfl nI) ?_
              refine L_ld (c := .int .i64 (yB)) rfl rfl .plain (fun _ _ h => h.ch) bK rfl ?_
              refine L_p (.bool ((decide (yB < (0 : Int))))) rfl rfl (P_int rfl rfl rfl) ?_
              refine L_p (.bool ((decide (yB < (0 : Int))))) rfl rfl (P_move rfl) ?_
              refine L_y u3 rfl rfl rfl rfl k9 (P_move bA) ?_
              refine L_y (.int .i64 (o0)) rfl rfl rfl rfl k9 (P_move r8) ?_
              refine L_y (ePtr u3 o0 1) rfl rfl rfl rfl k9 (P_indexAddr (α := Int) Tryz.underlying23 Tryz.sizeOf3 rfl x6 rfl cK) ?_
              refine L_ld (c := .int .i64 (zB)) rfl rfl (.yes2 rfl rfl k9) (fun _ _ h => h.ch) oM rfl ?_
              refine L_y (.bool ((decide (zB > (50 : Int))))) rfl rfl rfl rfl k9 (P_int rfl rfl rfl) ?_
              refine L_p (.bool ((decide (zB > (50 : Int))))) rfl rfl (P_pick (b := (decide (yB < (0 : Int)))) rfl (pick_f k9 rfl)) ?_
              refine L_p (.bool ((decide (zB > (50 : Int))))) rfl rfl (P_move rfl) ?_
              refine L_y (.int .i64 (o0)) rfl rfl rfl rfl vB (P_move r8) ?_
              refine L_y (.bool ((decide (o0 > (0 : Int))))) rfl rfl rfl rfl vB (P_int rfl rfl rfl) ?_
              refine L_y (.bool ((decide (o0 > (0 : Int))))) rfl rfl rfl rfl vB (P_move rfl) ?_
              iterate 10 refine L_s rfl rfl rfl aB rfl ?_
              refine L_y (.bool false) rfl rfl rfl rfl vB (P_pick (b := (decide (o0 > (0 : Int)))) rfl (pick_f aB rfl)) ?_
              refine L_p (.bool false) rfl rfl (P_pick (b := (decide (zB > (50 : Int)))) rfl (pick_f vB rfl)) ?_
              refine L_p (.bool false) rfl rfl (P_move rfl) ?_
              refine L_y n9 rfl rfl rfl rfl rfl (P_move yF) ?_
              refine L_y (.int .i64 (o0)) rfl rfl rfl rfl rfl (P_move r8) ?_
              refine L_y (ePtr n9 o0 1) rfl rfl rfl rfl rfl (P_indexAddr (α := Int) Tryz.underlying23 Tryz.sizeOf3 rfl dB rfl dU) ?_
              refine L_ld (c := .int .i64 (iL)) rfl rfl (.yes2 rfl rfl rfl) (fun _ _ h => h.ch) e0B rfl ?_
              refine L_y u3 rfl rfl rfl rfl rfl (P_move bA) ?_
              refine L_y (.int .i64 (o0)) rfl rfl rfl rfl rfl (P_move r8) ?_
              refine L_y (ePtr u3 o0 1) rfl rfl rfl rfl rfl (P_indexAddr (α := Int) Tryz.underlying23 Tryz.sizeOf3 rfl x6 rfl eU) ?_
              refine L_ld (c := .int .i64 (jL)) rfl rfl (.yes2 rfl rfl rfl) (fun _ _ h => h.ch) g0B rfl ?_
              refine L_y (fPtr p9 ((jL : Int).toNat * 1)) rfl rfl rfl rfl rfl (P_indexAddrA (α := Int) Tryz.underlying80 Tryz.sizeOf3 sG (OB.ptr tB) rfl gU) ?_
              refine L_ld (c := .int .i64 (lL)) rfl rfl (.yes2 rfl rfl rfl) (fun _ _ h => ⟨h.ch, fun b hb _ => h.below.block b hb⟩) h0B rfl ?_
              refine L_y (.bool ((iL != lL))) rfl rfl rfl rfl rfl (P_int rfl rfl rfl) ?_
              refine L_p (.bool ((iL != lL))) rfl rfl (P_pick (b := false) rfl (pick_f rfl rfl)) ?_
              refine L_nl fun i0H t0P hs => ?_
              have hfr := hfr.ext hs
              have mC := mC.ext hs
              have qC := qC.ext hs
              have rC := rC.ext hs
              have tB := tB.ext hs
              have x6 := x6.ext hs
              have dB := dB.ext hs
              clear hs
              refine EL_nil ?_
              obtain rfl := sinj h
              exact hQ _ _ ⟨i0H, hfr, yI, mC, zI, qC, eJ, rC, sG, tB, yH, zH, bA, x6, yF, dB, aI, r8, rfl⟩
          ·clear hx
           obtain ⟨j0H, hfr, v04, x04, y04, z04, a05, b05, c05, d05, nY, oY, pY, qY, uY, vY, xY, yY, iN⟩ := hR
           rcases csome h with ⟨yN, h⟩ | ⟨yN, h⟩
           ·refine E_cond_true (Eq.trans (show ev _ _ = .bool (dH) from iN) (congrArg Value.bool yN)) ?_
            refine E_seq (E_region (EL_at (.bool false) rfl rfl ?_))
            refine EL_nil (thn_n (E_ret (thn_r ?_)))
            refine blk_r ?_
            refine thn_r ?_
            refine thn_r ?_
            refine blk_r ?_
            refine thn_r ?_
            refine blk_r ?_
            refine thn_r ?_
            refine thn_r ?_
            refine blk_r ?_
            refine thn_r ?_
            obtain rfl := sinj h
            exact end1 rfl rfl (show _ = .bool false from rfl) ⟨_, hfr, rfl⟩
           ·refine E_cond_false (Eq.trans (show ev _ _ = .bool (dH) from iN) (congrArg Value.bool yN)) ?_
            exact E_skip (thn_n (a0B () _ _ ⟨j0H, hfr, v04, x04, y04, z04, a05, b05, c05, d05, nY, oY, pY, qY, uY, vY, xY, yY⟩ h))
         ·rintro _ m0N u0P ⟨zY, hfr, e05, g05, h05, i05, j05, k05, l05, m05, aZ, bZ, cZ, dZ, sO, tL, mZ, tO⟩ h
          refine E_region (EL_mv mZ rfl ?_)
          refine EL_mv sO rfl ?_
          refine EL_mv tO rfl ?_
          obtain ⟨bL, iU, h⟩ := bsome h
          refine EL_p (ePtr n9 o0 1) (P_indexAddr (α := Int) Tryz.underlying23 Tryz.sizeOf3 rfl tL rfl iU) rfl ?_
          have k0H := PT_idx tL iU
          refine EL_do .plain rfl (D_load (g := zY) Tryz.isAgg3 Tryz.sizeOf3 rfl k0H fun v0P l0H => ?_)
          obtain rfl := RV_int.1 l0H
          refine EL_in (.int .i64 ((w64 (nD + bL)))) rfl rfl rfl rfl ?_
          refine EL_at (.int .i64 ((w64 (nD + bL)))) rfl rfl ?_
          exact EL_nil (blk_n (thn_n (z0A ((w64 (nD + bL))) _ _ ⟨zY, hfr, e05, g05, h05, i05, j05, k05, l05, m05, aZ, bZ, cZ, dZ, sO, tL, rfl, tO⟩ h)))
        ·rintro aL n0N x0P ⟨m0H, hfr, n05, o05, p05, q05, r05, s05, t05, u05, nZ, oZ, pZ, qZ, rZ, sZ, tZ, uZ⟩ h
         refine E_region (EL_mv uZ rfl ?_)
         refine EL_in (.int .i64 ((w64 (o0 + (1 : Int))))) rfl rfl rfl rfl ?_
         refine EL_at (.int .i64 ((w64 (o0 + (1 : Int))))) rfl rfl ?_
         exact EL_nil (thn_n (x0A (aL, (w64 (o0 + (1 : Int)))) _ _ ⟨m0H, hfr, n05, o05, p05, q05, r05, s05, t05, u05, nZ, oZ, pZ, qZ, rZ, sZ, tZ, rfl⟩ h))
      ·rintro iD o0N y0P ⟨n0H, hfr, v05, x05, y05, z05, a06, b06, c06, d06, vZ, xZ, yZ, zZ, a00⟩ h
       refine E_joinC h (fun (s : Unit) e w => ∃ (g : Gh) , Fr gI wI g w ∧ e 5 = p2 ∧ PT g.m w (x2 : Vector UInt32 3) p2 ∧ e 7 = p8 ∧ OB 2007 g w 25 (y5 : PayList) p8 ∧ e 8 = x5 ∧ OA 4008 g w 27 (d9 : List PayPiece) x5 ∧ e 9 = p9 ∧ OB 2009 g w 80 (nB : Vector Int 51) p9 ∧ e 10 = .int .i64 (u9) ∧ e 17 = .int .i64 (k8) ∧ e 22 = .int .i64 (iD)) (fun X23640 aW i0B h => ?_) ?_
       ·refine E_seq (E_region (EL_at (.int .i64 (0)) rfl rfl ?_))
        refine EL_nil (thn_n (E_block ?_))
        refine E_lp h (fun (s : Int) e w => ∃ (g : Gh) , Fr gI wI g w ∧ e 5 = p2 ∧ PT g.m w (x2 : Vector UInt32 3) p2 ∧ e 7 = p8 ∧ OB 2007 g w 25 (y5 : PayList) p8 ∧ e 8 = x5 ∧ OA 4008 g w 27 (d9 : List PayPiece) x5 ∧ e 9 = p9 ∧ OB 2009 g w 80 (nB : Vector Int 51) p9 ∧ e 10 = .int .i64 (u9) ∧ e 17 = .int .i64 (k8) ∧ e 18 = u3 ∧ RV g.m w (t5.1 : List Int) u3 ∧ e 22 = .int .i64 (iD) ∧ e 24 = .int .i64 (s)) ⟨n0H, hfr, v05, x05, y05, z05, a06, b06, c06, d06, vZ, xZ, yZ, zZ, a00, rfl⟩ (fun X23641 bW j0B => ?_)
        rintro oB p0N z0P ⟨b00, hfr, cR, dR, eR, gR, sM, tM, iR, jR, uO, vO, c00, d00, xO, yO⟩ h
        refine E_joinC h (fun (s : Unit) e w => ∃ (g : Gh) , Fr gI wI g w ∧ e 5 = p2 ∧ PT g.m w (x2 : Vector UInt32 3) p2 ∧ e 7 = p8 ∧ OB 2007 g w 25 (y5 : PayList) p8 ∧ e 8 = x5 ∧ OA 4008 g w 27 (d9 : List PayPiece) x5 ∧ e 9 = p9 ∧ OB 2009 g w 80 (nB : Vector Int 51) p9 ∧ e 10 = .int .i64 (u9) ∧ e 17 = .int .i64 (k8) ∧ e 18 = u3 ∧ RV g.m w (t5.1 : List Int) u3 ∧ e 22 = .int .i64 (iD) ∧ e 24 = .int .i64 (oB)) (fun X23644 gW k0B h => ?_) ?_
        ·refine E_seq (E_region (EL_mv yO rfl ?_))
         refine EL_mv sM rfl ?_
         refine EL_p (.int .i64 ((d9).length : Int)) (P_lenM Tryz.underlying33 rfl (tM.toM)) rfl ?_
         refine EL_in (.bool ((decide (oB < ((d9).length : Int))))) rfl rfl rfl rfl ?_
         refine EL_nil (thn_n ?_)
         rcases csome h with ⟨zN, h⟩ | ⟨zN, h⟩
         ·refine E_ct zN rfl ?_
          exact E_skip (thn_n (k0B () _ _ ⟨b00, hfr, cR, dR, eR, gR, sM, tM, iR, jR, uO, vO, c00, d00, xO, yO⟩ h))
         ·refine E_cf zN rfl ?_
          refine E_exit ?_
          refine thn_e ?_
          refine thn_e ?_
          refine blk_hit ?_
          exact thn_n (i0B () _ _ ⟨b00, hfr, cR, dR, eR, gR, sM, tM, iR, jR, uO, vO, xO⟩ h)
        ·rintro _ q0N a0Q ⟨o0H, hfr, e06, g06, h06, i06, j06, k06, l06, m06, g00, h00, i00, j00, k00, l00⟩ h
         refine E_joinC h (fun (s : Unit) e w => ∃ (g : Gh) , Fr gI wI g w ∧ e 5 = p2 ∧ PT g.m w (x2 : Vector UInt32 3) p2 ∧ e 7 = p8 ∧ OB 2007 g w 25 (y5 : PayList) p8 ∧ e 8 = x5 ∧ OA 4008 g w 27 (d9 : List PayPiece) x5 ∧ e 9 = p9 ∧ OB 2009 g w 80 (nB : Vector Int 51) p9 ∧ e 10 = .int .i64 (u9) ∧ e 17 = .int .i64 (k8) ∧ e 18 = u3 ∧ RV g.m w (t5.1 : List Int) u3 ∧ e 22 = .int .i64 (iD) ∧ e 24 = .int .i64 (oB)) (fun X23895 cW l0B h => ?_) ?_
         ·refine E_block ?_
          refine E_seq (E_region (EL_at (.bool false) rfl rfl ?_))
          refine EL_nil (thn_n ?_)
          obtain ⟨kJ, hx, h⟩ := bsome h
          refine E_join (fun e w => ∃ (g : Gh) , Fr gI wI g w ∧ e 5 = p2 ∧ PT g.m w (x2 : Vector UInt32 3) p2 ∧ e 7 = p8 ∧ OB 2007 g w 25 (y5 : PayList) p8 ∧ e 8 = x5 ∧ OA 4008 g w 27 (d9 : List PayPiece) x5 ∧ e 9 = p9 ∧ OB 2009 g w 80 (nB : Vector Int 51) p9 ∧ e 10 = .int .i64 (u9) ∧ e 17 = .int .i64 (k8) ∧ e 18 = u3 ∧ RV g.m w (t5.1 : List Int) u3 ∧ e 22 = .int .i64 (iD) ∧ e 24 = .int .i64 (oB) ∧ e 25 = .bool (kJ)) (fun Q' hQ => ?_) (fun r0N b0Q hR => ?_)
          ·replace h := hx
           clear hx
           refine E_seq (E_region (EL_at (.int .i64 (0)) rfl rfl ?_))
           refine EL_nil (thn_n (E_block ?_))
           refine E_lp h (fun (s : Bool × Int) e w => ∃ (g : Gh) , Fr gI wI g w ∧ e 5 = p2 ∧ PT g.m w (x2 : Vector UInt32 3) p2 ∧ e 7 = p8 ∧ OB 2007 g w 25 (y5 : PayList) p8 ∧ e 8 = x5 ∧ OA 4008 g w 27 (d9 : List PayPiece) x5 ∧ e 9 = p9 ∧ OB 2009 g w 80 (nB : Vector Int 51) p9 ∧ e 10 = .int .i64 (u9) ∧ e 17 = .int .i64 (k8) ∧ e 18 = u3 ∧ RV g.m w (t5.1 : List Int) u3 ∧ e 22 = .int .i64 (iD) ∧ e 24 = .int .i64 (oB) ∧ e 25 = .bool (s.1) ∧ e 26 = .int .i64 (s.2)) ⟨o0H, hfr, e06, g06, h06, i06, j06, k06, l06, m06, g00, h00, i00, j00, k00, l00, rfl, rfl⟩ (fun X24019 dW m0B => ?_)
           rintro ⟨lD, vC⟩ s0N c0Q ⟨m00, hfr, lR, mR, nR, oR, pR, qR, rR, tR, zO, aP, uL, vL, bP, cP, dP, eP⟩ h
           refine E_joinC h (fun (s : Unit) e w => ∃ (g : Gh) , Fr gI wI g w ∧ e 5 = p2 ∧ PT g.m w (x2 : Vector UInt32 3) p2 ∧ e 7 = p8 ∧ OB 2007 g w 25 (y5 : PayList) p8 ∧ e 8 = x5 ∧ OA 4008 g w 27 (d9 : List PayPiece) x5 ∧ e 9 = p9 ∧ OB 2009 g w 80 (nB : Vector Int 51) p9 ∧ e 10 = .int .i64 (u9) ∧ e 17 = .int .i64 (k8) ∧ e 18 = u3 ∧ RV g.m w (t5.1 : List Int) u3 ∧ e 22 = .int .i64 (iD) ∧ e 24 = .int .i64 (oB) ∧ e 25 = .bool (lD) ∧ e 26 = .int .i64 (vC)) (fun X24022 eW n0B h => ?_) ?_
           ·refine E_seq (E_region (EL_mv eP rfl ?_))
            refine EL_mv uL rfl ?_
            refine EL_p (.int .i64 ((t5.1).length : Int)) (P_len Tryz.underlying23 rfl vL) rfl ?_
            refine EL_in (.bool ((decide (vC < ((t5.1).length : Int))))) rfl rfl rfl rfl ?_
            refine EL_nil (thn_n ?_)
            rcases csome h with ⟨aO, h⟩ | ⟨aO, h⟩
            ·refine E_ct aO rfl ?_
             exact E_skip (thn_n (n0B () _ _ ⟨m00, hfr, lR, mR, nR, oR, pR, qR, rR, tR, zO, aP, uL, vL, bP, cP, dP, eP⟩ h))
            ·refine E_cf aO rfl ?_
             refine E_exit ?_
             refine thn_e ?_
             refine thn_e ?_
             refine blk_hit ?_
             obtain rfl := sinj h
             exact hQ _ _ ⟨m00, hfr, lR, mR, nR, oR, pR, qR, rR, tR, zO, aP, uL, vL, bP, cP, dP⟩
           ·rintro _ t0N d0Q ⟨n00, hfr, uR, nH, vR, oH, uM, vE, xR, pH, gP, iP, xL, oE, jP, yL, kP, zL⟩ h
            obtain ⟨jJ, hx, h⟩ := bsome h
            refine E_join (fun e w => ∃ (g : Gh) , Fr gI wI g w ∧ e 5 = p2 ∧ PT g.m w (x2 : Vector UInt32 3) p2 ∧ e 7 = p8 ∧ OB 2007 g w 25 (y5 : PayList) p8 ∧ e 8 = x5 ∧ OA 4008 g w 27 (d9 : List PayPiece) x5 ∧ e 9 = p9 ∧ OB 2009 g w 80 (nB : Vector Int 51) p9 ∧ e 10 = .int .i64 (u9) ∧ e 17 = .int .i64 (k8) ∧ e 18 = u3 ∧ RV g.m w (t5.1 : List Int) u3 ∧ e 22 = .int .i64 (iD) ∧ e 24 = .int .i64 (oB) ∧ e 25 = .bool (jJ) ∧ e 26 = .int .i64 (vC)) (fun Q' hQ => ?_) (fun u0N e0Q hR => ?_)
            ·replace h := hx
             clear hx
             refine E_block ?_
             rcases csome h with ⟨jD, h⟩ | ⟨jD, h⟩
             ·refine E_drawL (g := n00) (n := 14) [] [0, 1, 2, 3, 4, 5, 6, 7, 8, 9, 10, 11, 12, 13] rfl mixed (by kernel_rfl) trivial ?_
              refine L_p (.bool (lD)) rfl rfl (P_move kP) ?_
              refine L_p (.bool (lD)) rfl rfl (P_move rfl) ?_
              iterate 10 refine L_s rfl rfl rfl jD rfl ?_
              refine L_p (.bool true) rfl rfl (P_pick (b := lD) rfl (pick_t jD rfl)) ?_
              refine L_p (.bool true) rfl rfl (P_assign rfl) ?_
              refine L_nl fun p0H g0Q hs => ?_
              have hfr := hfr.ext hs
              have nH := nH.ext hs
              have oH := oH.ext hs
              have vE := vE.ext hs
              have pH := pH.ext hs
              have oE := oE.ext hs
              clear hs
              refine EL_nil (blk_n ?_)
              obtain rfl := sinj h
              exact hQ _ _ ⟨p0H, hfr, uR, nH, vR, oH, uM, vE, xR, pH, gP, iP, xL, oE, jP, yL, rfl, zL⟩
             ·obtain ⟨rJ, jU, h⟩ := bsome h
              have q0H := PT_idx oE jU
              refine L_load (x := .tmp 251) Tryz.isAgg3 Tryz.sizeOf3 q0H fun h0Q r0H o0B => ?_
              obtain rfl := RV_int.1 r0H
              obtain ⟨sJ, bO, h⟩ := bsome h
              obtain ⟨pb24114, po24114, pe24114⟩ := OM.ptrE (k := 5) (vE.toM) bO
              refine L_loadMF (x := .tmp 256) part_PayPiece_0.1 Tryz.isAgg3 Tryz.sizeOf3 (vE.toM) bO fun i0Q s0H p0B => ?_
              obtain rfl := RV_int.1 s0H
              refine E_drawL (g := n00) (n := 14) [] [0, 1, 2, 3, 4, 5, 6, 7, 8, 9, 10, 11, 12, 13] rfl mixed (by kernel_rfl) trivial ?_
              refine L_p (.bool (lD)) rfl rfl (P_move kP) ?_
              refine L_p (.bool (lD)) rfl rfl (P_move rfl) ?_
              refine L_y u3 rfl rfl rfl rfl jD (P_move xL) ?_
              refine L_y (.int .i64 (vC)) rfl rfl rfl rfl jD (P_move zL) ?_
              refine L_y (ePtr u3 vC 1) rfl rfl rfl rfl jD (P_indexAddr (α := Int) Tryz.underlying23 Tryz.sizeOf3 rfl oE rfl jU) ?_
              refine L_ld (c := .int .i64 (rJ)) rfl rfl (.yes2 rfl rfl jD) (fun _ _ h => h.ch) o0B rfl ?_
              refine L_y x5 rfl rfl rfl rfl jD (P_move uM) ?_
              refine L_y (.int .i64 (oB)) rfl rfl rfl rfl jD (P_move yL) ?_
              refine L_y (ePtr x5 oB 5) rfl rfl rfl rfl jD (P_indexAddrM (α := PayPiece) Tryz.underlying33 Tryz.sizeOf27 rfl (vE.toM) rfl bO) ?_
              refine L_y (fPtr (ePtr x5 oB 5) 0) rfl rfl rfl rfl jD (P_fieldAddr at_27_0 rfl ⟨_, _, pe24114⟩) ?_
              refine L_ld (c := .int .i64 ((sJ).Weaver)) rfl rfl (.yes2 rfl rfl jD) (fun _ _ h => ⟨h.ch, fun b hb _ => h.below.block b hb⟩) p0B rfl ?_
              refine L_y (.bool ((rJ == (sJ).Weaver))) rfl rfl rfl rfl jD (P_int rfl rfl rfl) ?_
              refine L_p (.bool ((rJ == (sJ).Weaver))) rfl rfl (P_pick (b := lD) rfl (pick_f jD rfl)) ?_
              refine L_p (.bool ((rJ == (sJ).Weaver))) rfl rfl (P_assign rfl) ?_
              refine L_nl fun t0H j0Q hs => ?_
              have hfr := hfr.ext hs
              have nH := nH.ext hs
              have oH := oH.ext hs
              have vE := vE.ext hs
              have pH := pH.ext hs
              have oE := oE.ext hs
              clear hs
              refine EL_nil (blk_n ?_)
              obtain rfl := sinj h
              exact hQ _ _ ⟨t0H, hfr, uR, nH, vR, oH, uM, vE, xR, pH, gP, iP, xL, oE, jP, yL, rfl, zL⟩
            ·clear hx
             obtain ⟨u0H, hfr, n06, o06, p06, q06, r06, s06, t06, u06, o00, p00, q00, r00, s00, t00, u00, v00⟩ := hR
             refine E_region (EL_mv v00 rfl ?_)
             refine EL_in (.int .i64 ((w64 (vC + (1 : Int))))) rfl rfl rfl rfl ?_
             refine EL_at (.int .i64 ((w64 (vC + (1 : Int))))) rfl rfl ?_
             exact EL_nil (thn_n (m0B (jJ, (w64 (vC + (1 : Int)))) _ _ ⟨u0H, hfr, n06, o06, p06, q06, r06, s06, t06, u06, o00, p00, q00, r00, s00, t00, u00, rfl⟩ h))
          ·clear hx
           obtain ⟨v0H, hfr, v06, x06, y06, z06, a07, b07, c07, d07, x00, y00, z00, a01, b01, c01, d01⟩ := hR
           refine E_seq (E_region (EL_mv d01 rfl ?_))
           refine EL_p (.bool (!kJ)) (P_not rfl) rfl ?_
           refine EL_nil (thn_n ?_)
           rcases csome h with ⟨cO, h⟩ | ⟨cO, h⟩
           ·refine E_ct cO rfl ?_
            refine E_seq (E_region (EL_at (.bool false) rfl rfl ?_))
            refine EL_nil (thn_n (E_ret (blk_r ?_)))
            refine thn_r ?_
            refine thn_r ?_
            refine blk_r ?_
            refine thn_r ?_
            refine blk_r ?_
            refine thn_r ?_
            refine thn_r ?_
            refine blk_r ?_
            refine thn_r ?_
            obtain rfl := sinj h
            exact end1 rfl rfl (show _ = .bool false from rfl) ⟨_, hfr, rfl⟩
           ·refine E_cf cO rfl ?_
            exact E_skip (blk_n (thn_n (l0B () _ _ ⟨v0H, hfr, v06, x06, y06, z06, a07, b07, c07, d07, x00, y00, z00, a01, b01, c01⟩ h)))
         ·rintro _ v0N k0Q ⟨x0H, hfr, e07, g07, h07, i07, j07, k07, l07, m07, e01, g01, h01, i01, j01, k01⟩ h
          refine E_region (EL_mv k01 rfl ?_)
          refine EL_in (.int .i64 ((w64 (oB + (1 : Int))))) rfl rfl rfl rfl ?_
          refine EL_at (.int .i64 ((w64 (oB + (1 : Int))))) rfl rfl ?_
          exact EL_nil (thn_n (j0B ((w64 (oB + (1 : Int)))) _ _ ⟨x0H, hfr, e07, g07, h07, i07, j07, k07, l07, m07, e01, g01, h01, i01, j01, rfl⟩ h))
       ·rintro _ x0N l0Q ⟨y0H, hfr, n07, o07, p07, q07, r07, s07, t07, u07, lP, l01, m01⟩ h
        refine E_joinC h (fun (s : Unit) e w => ∃ (g : Gh) , Fr gI wI g w ∧ e 5 = p2 ∧ PT g.m w (x2 : Vector UInt32 3) p2 ∧ e 7 = p8 ∧ OB 2007 g w 25 (y5 : PayList) p8 ∧ e 8 = x5 ∧ OA 4008 g w 27 (d9 : List PayPiece) x5 ∧ e 9 = p9 ∧ OB 2009 g w 80 (nB : Vector Int 51) p9 ∧ e 10 = .int .i64 (u9) ∧ e 17 = .int .i64 (k8)) (fun X24147 zV q0B h => ?_) ?_
        ·refine E_seq (E_region (EL_mv m01 rfl ?_))
         refine EL_mv lP rfl ?_
         refine EL_in (.bool ((iD != u9))) rfl rfl rfl rfl ?_
         refine EL_nil (thn_n ?_)
         rcases csome h with ⟨dO, h⟩ | ⟨dO, h⟩
         ·refine E_ct dO rfl ?_
          refine E_seq (E_region (EL_at (.bool false) rfl rfl ?_))
          refine EL_nil (thn_n (E_ret (thn_r ?_)))
          refine blk_r ?_
          refine thn_r ?_
          refine thn_r ?_
          refine blk_r ?_
          refine thn_r ?_
          obtain rfl := sinj h
          exact end1 rfl rfl (show _ = .bool false from rfl) ⟨_, hfr, rfl⟩
         ·refine E_cf dO rfl ?_
          exact E_skip (thn_n (q0B () _ _ ⟨y0H, hfr, n07, o07, p07, q07, r07, s07, t07, u07, lP, l01⟩ h))
        ·rintro _ y0N m0Q ⟨z0H, hfr, v07, x07, y07, z07, a08, b08, c08, d08, n01, o01⟩ h
         refine E_seq (E_region (EL_at (.int .i64 (0)) rfl rfl ?_))
         refine EL_nil (thn_n (E_block ?_))
         refine E_lp h (fun (s : (List PayPiece) × Int) e w => ∃ (g : Gh) , Fr gI wI g w ∧ e 5 = p2 ∧ PT g.m w (x2 : Vector UInt32 3) p2 ∧ e 7 = p8 ∧ OB 2007 g w 25 (y5 : PayList) p8 ∧ e 8 = x5 ∧ OA 4008 g w 27 (s.1 : List PayPiece) x5 ∧ e 9 = p9 ∧ OB 2009 g w 80 (nB : Vector Int 51) p9 ∧ e 10 = .int .i64 (u9) ∧ e 17 = .int .i64 (k8) ∧ e 27 = .int .i64 (s.2)) ⟨z0H, hfr, v07, x07, y07, z07, a08, b08, c08, d08, n01, o01, rfl⟩ (fun X24150 xV r0B => ?_)
         rintro ⟨yA, i7⟩ z0N n0Q ⟨p01, hfr, yR, zR, aS, bS, vM, xM, cS, dS, mP, nP, oP⟩ h
         refine E_joinC h (fun (s : Unit) e w => ∃ (g : Gh) , Fr gI wI g w ∧ e 5 = p2 ∧ PT g.m w (x2 : Vector UInt32 3) p2 ∧ e 7 = p8 ∧ OB 2007 g w 25 (y5 : PayList) p8 ∧ e 8 = x5 ∧ OA 4008 g w 27 (yA : List PayPiece) x5 ∧ e 9 = p9 ∧ OB 2009 g w 80 (nB : Vector Int 51) p9 ∧ e 10 = .int .i64 (u9) ∧ e 17 = .int .i64 (k8) ∧ e 27 = .int .i64 (i7)) (fun X24154 yV s0B h => ?_) ?_
         ·refine E_seq (E_region (EL_mv oP rfl ?_))
          refine EL_mv vM rfl ?_
          refine EL_p (.int .i64 ((yA).length : Int)) (P_lenM Tryz.underlying33 rfl (xM.toM)) rfl ?_
          obtain ⟨dN, t0B, h⟩ := bsome h
          refine EL_p (.int .i64 (dN)) (P_int rfl rfl (congrArg (Option.map (Value.int .i64)) t0B)) rfl ?_
          refine EL_in (.bool ((decide (i7 < dN)))) rfl rfl rfl rfl ?_
          refine EL_nil (thn_n ?_)
          rcases csome h with ⟨eO, h⟩ | ⟨eO, h⟩
          ·refine E_ct eO rfl ?_
           exact E_skip (thn_n (s0B () _ _ ⟨p01, hfr, yR, zR, aS, bS, vM, xM, cS, dS, mP, nP, oP⟩ h))
          ·refine E_cf eO rfl ?_
           refine E_exit ?_
           refine thn_e ?_
           refine thn_e ?_
           refine blk_hit ?_
           exact blk_n (thn_n (q0A (yA) _ _ ⟨p01, hfr, yR, zR, aS, bS, vM, xM, cS, dS, mP, nP⟩ h))
         ·rintro _ a0O a0I ⟨b0I, hfr, e08, xE, g08, yE, xG, sD, h08, zE, q01, r01, bI⟩ h
          obtain ⟨lK, hx, h⟩ := bsome h
          refine E_join (fun e w => ∃ (g : Gh) , Fr gI wI g w ∧ e 5 = p2 ∧ PT g.m w (x2 : Vector UInt32 3) p2 ∧ e 7 = p8 ∧ OB 2007 g w 25 (y5 : PayList) p8 ∧ e 8 = x5 ∧ OA 4008 g w 27 (lK : List PayPiece) x5 ∧ e 9 = p9 ∧ OB 2009 g w 80 (nB : Vector Int 51) p9 ∧ e 10 = .int .i64 (u9) ∧ e 17 = .int .i64 (k8) ∧ e 27 = .int .i64 (i7)) (fun Q' hQ => ?_) (fun b0O o0Q hR => ?_)
          ·replace h := hx
           clear hx
           refine E_block ?_
           refine E_seq ?_
           obtain ⟨xF, kU, h⟩ := bsome h
           refine L_loadM (x := .tmp 274) Tryz.isAgg27 Tryz.sizeOf27 (sD.toM) kU fun c0I d0I u0B => ?_
           obtain ⟨hG, lU, h⟩ := bsome h
           refine L_loadM (x := .tmp 282) Tryz.isAgg27 Tryz.sizeOf27 (sD.toM) lU fun s01 eS v0B => ?_
           refine E_drawV (g := b0I) (w := a0I) (i := 2028) (t2 := 27) (a0 := (⟨0, 0, 0, [], 0⟩ : PayPiece)) (a1 := (xF : PayPiece)) (n := 15) [(12, (fun _ v => varA 2028 27 (⟨0, 0, 0, [], 0⟩ : PayPiece) (xF : PayPiece) v)), (13, (fun _ v g w => OB 2029 g w 27 (⟨0, 0, 0, [], 0⟩ : PayPiece) v)), (14, (fun e _ g w => OB 2028 g w 27 (xF : PayPiece) (ev e (.tmp 28))))] [0, 1, 2, 3, 4, 5, 6, 7, 8, 9, 10, 11, 12, 13, 14] rfl mixed (by kernel_rfl) (⟨fun _ _ => up_var0, fun _ _ => upV_ob, fun _ _ => up_var1, trivial⟩) (⟨fun _ _ _ _ _ _ => rfl, fun _ _ _ _ _ _ => rfl, wok_store (A := fun p g w => OB 2028 g w 27 (xF : PayPiece) p) rfl, trivial⟩) ?_
           refine L_p x5 rfl rfl (P_move xG) ?_
           refine L_p (.int .i64 (i7)) rfl rfl (P_move bI) ?_
           refine L_p (ePtr x5 i7 5) rfl rfl (P_indexAddrM (α := PayPiece) Tryz.underlying33 Tryz.sizeOf27 rfl (sD.toM) rfl kU) ?_
           refine L_ld (c := c0I) rfl rfl .plain (fun _ _ h => ⟨h.ch, fun b hb ho => h.block b hb (by rw [ho]; decide)⟩) u0B rfl ?_
           refine L_p x5 rfl rfl (P_move xG) ?_
           refine L_p x5 rfl rfl (P_move xG) ?_
           refine L_p (.int .i64 ((yA).length : Int)) rfl rfl (P_lenM Tryz.underlying33 rfl (sD.toM)) ?_
           refine L_p (.int .i64 ((w64 (((yA).length : Int) - (1 : Int))))) rfl rfl (P_int rfl rfl rfl) ?_
           refine L_p (.int .i64 (i7)) rfl rfl (P_move bI) ?_
           refine L_p (.int .i64 ((w64 ((w64 (((yA).length : Int) - (1 : Int))) - i7)))) rfl rfl (P_int rfl rfl rfl) ?_
           refine L_p (ePtr x5 (w64 ((w64 (((yA).length : Int) - (1 : Int))) - i7)) 5) rfl rfl (P_indexAddrM (α := PayPiece) Tryz.underlying33 Tryz.sizeOf27 rfl (sD.toM) rfl lU) ?_
           refine L_ld (c := s01) rfl rfl .plain (fun _ _ h => ⟨h.ch, fun b hb ho => h.block b hb (by rw [ho]; decide)⟩) v0B rfl ?_
           refine L_do (φ := fun v => varA 2028 27 (⟨0, 0, 0, [], 0⟩ : PayPiece) (xF : PayPiece) v) rfl rfl .plain (fun g w hd => D_allocX (g := g) 2028 (⟨0, 0, 0, [], 0⟩ : PayPiece) Tryz.zeroValue27 (fun m w => ⟨_, (rep_two rep_int (rep_two rep_int (rep_two rep_int (rep_two rep_nil rep_int)))), rfl⟩) fun g' w' v hs b => ⟨g', var_ext hs, .inl b⟩) (fun gS hv => ?_)
           clear hv
           refine L_do (φ := fun v g w => OB 2029 g w 27 (⟨0, 0, 0, [], 0⟩ : PayPiece) v) rfl rfl .plain (fun g w hd => D_allocX (g := g) 2029 (⟨0, 0, 0, [], 0⟩ : PayPiece) Tryz.zeroValue27 (fun m w => ⟨_, (rep_two rep_int (rep_two rep_int (rep_two rep_int (rep_two rep_nil rep_int)))), rfl⟩) fun g' w' v hs b => ⟨g', var_ext hs, b⟩) (fun e0I hv => ?_)
           clear hv
           refine L_do (φ := fun _ g w => OB 2028 g w 27 (xF : PayPiece) gS) rfl rfl .plain (fun g w hd => D_storeV (g := g) Tryz.sizeOf27 rfl (word (A := varA 2028 27 (⟨0, 0, 0, [], 0⟩ : PayPiece) (xF : PayPiece) gS) 12 rfl rfl (deps_of hd)) rfl (d0I.stp hd.1)) (fun p0Q hv => ?_)
           clear hv
           refine L_nil fun g0I q0Q hall => ?_
           have hs := hall.1
           have hfr := hfr.stp hs
           have xE := xE.stp hs
           have yE := yE.stp hs rfl
           have sD := sD.stp hs rfl
           have zE := zE.stp hs rfl
           have eS := eS.stp hs
           have b24229 := (word_all (A := fun g w => OB 2028 g w 27 (xF : PayPiece) gS) 14 rfl hall)
           have b24230 := (word_all (A := fun g w => OB 2029 g w 27 (⟨0, 0, 0, [], 0⟩ : PayPiece) e0I) 13 rfl hall)
           clear hs hall
           refine EL_do .plain rfl (D_storeOc (g := g0I) (v := s01) Tryz.sizeOf27 rfl b24230 rfl eS fun t01 r0Q hs b24231 cb => ?_)
           clear cb
           have hfr := hfr.stp hs
           have xE := xE.stp hs
           have yE := yE.stp hs rfl
           have sD := sD.stp hs rfl
           have zE := zE.stp hs rfl
           have b24229 := b24229.stp hs rfl
           refine EL_nil (thn_n (E_seq (E_region (EL_mv xG rfl ?_))))
           refine EL_mv bI rfl ?_
           refine EL_do .plain rfl (D_loadO (g := t01) Tryz.isAgg27 Tryz.sizeOf27 rfl b24231 fun s0Q h0I => ?_)
           obtain ⟨k0D, mU, h⟩ := bsome h
           refine EL_p (ePtr x5 i7 5) (P_indexAddrM (α := PayPiece) Tryz.underlying33 Tryz.sizeOf27 rfl (sD.toM) rfl mU) rfl ?_
           refine EL_do .plain rfl (D_storeA (g := t01) (α := PayPiece) (a' := hG) Tryz.sizeOf27 rfl sD mU rfl h0I fun u01 t0Q hs b24234 => ?_)
           have hfr := hfr.stp hs
           have xE := xE.stp hs
           have yE := yE.stp hs rfl
           have zE := zE.stp hs rfl
           have b24229 := b24229.stp hs rfl
           refine EL_nil (thn_n (E_region (EL_mv xG rfl ?_)))
           refine EL_mv xG rfl ?_
           refine EL_p (.int .i64 (((List.set yA (Int.toNat i7) hG)).length : Int)) (P_lenM Tryz.underlying33 rfl (b24234.toM)) rfl ?_
           refine EL_p (.int .i64 ((w64 ((((List.set yA (Int.toNat i7) hG)).length : Int) - (1 : Int))))) (P_int rfl rfl rfl) rfl ?_
           refine EL_mv bI rfl ?_
           refine EL_p (.int .i64 ((w64 ((w64 ((((List.set yA (Int.toNat i7) hG)).length : Int) - (1 : Int))) - i7)))) (P_int rfl rfl rfl) rfl ?_
           refine EL_do .plain rfl (D_loadO (g := u01) Tryz.isAgg27 Tryz.sizeOf27 rfl b24229 fun u0Q i0I => ?_)
           obtain ⟨l0D, nU, h⟩ := bsome h
           refine EL_p (ePtr x5 (w64 ((w64 ((((List.set yA (Int.toNat i7) hG)).length : Int) - (1 : Int))) - i7)) 5) (P_indexAddrM (α := PayPiece) Tryz.underlying33 Tryz.sizeOf27 rfl (b24234.toM) rfl nU) rfl ?_
           refine EL_do .plain rfl (D_storeA (g := u01) (α := PayPiece) (a' := xF) Tryz.sizeOf27 rfl b24234 nU rfl i0I fun j0I v0Q hs b24237 => ?_)
           have hfr := hfr.stp hs
           have xE := xE.stp hs
           have yE := yE.stp hs rfl
           have zE := zE.stp hs rfl
           refine EL_nil (blk_n ?_)
           obtain rfl := sinj h
           exact hQ _ _ ⟨j0I, hfr, e08, xE, g08, yE, xG, b24237, h08, zE, q01, r01, bI⟩
          ·clear hx
           obtain ⟨k0I, hfr, i08, j08, k08, l08, m08, n08, o08, p08, v01, x01, y01⟩ := hR
           refine E_region (EL_mv y01 rfl ?_)
           refine EL_in (.int .i64 ((w64 (i7 + (1 : Int))))) rfl rfl rfl rfl ?_
           refine EL_at (.int .i64 ((w64 (i7 + (1 : Int))))) rfl rfl ?_
           exact EL_nil (thn_n (r0B (lK, (w64 (i7 + (1 : Int)))) _ _ ⟨k0I, hfr, i08, j08, k08, l08, m08, n08, o08, p08, v01, x01, rfl⟩ h))
    ·rintro pM c0O x0Q ⟨l0I, hfr, q08, r08, s08, t08, u08, v08, x08, y08, z01, a02⟩ h
     refine E_region (EL_mv a02 rfl ?_)
     refine EL_in (.int .i64 ((w64 (k8 + (1 : Int))))) rfl rfl rfl rfl ?_
     refine EL_at (.int .i64 ((w64 (k8 + (1 : Int))))) rfl rfl ?_
     exact EL_nil (thn_n (o0A (pM, (w64 (k8 + (1 : Int)))) _ _ ⟨l0I, hfr, q08, r08, s08, t08, u08, v08, x08, y08, z01, rfl⟩ h))
  ·rintro _ d0O m0I ⟨dK, hfr, cF, m7, dF, n8⟩ h
   refine E_seq (E_region ?_)
   obtain ⟨pI, oU, h⟩ := bsome h
   refine EL_p (fPtr p2 (((2 : Int) : Int).toNat * 1)) (P_indexAddrA (α := UInt32) Tryz.underlying78 Tryz.sizeOf77 cF (PT.ptr m7) rfl oU) rfl ?_
   have n0I := PT_idxA m7 oU
   refine EL_do .plain rfl (D_load (g := dK) Tryz.isAgg77 Tryz.sizeOf77 rfl n0I fun y0Q o0I => ?_)
   obtain rfl := RV_u32.1 o0I
   refine EL_p (.int .u8 (UInt8.toNat (((pI).toUInt8)))) (P_u32u8 Tryz.underlying77 Tryz.underlying5 rfl) rfl ?_
   obtain ⟨iV, pU, h⟩ := bsome h
   refine EL_p (fPtr p2 (((2 : Int) : Int).toNat * 1)) (P_indexAddrA (α := UInt32) Tryz.underlying78 Tryz.sizeOf77 cF (PT.ptr m7) rfl pU) rfl ?_
   have p0I := PT_idxA m7 pU
   refine EL_do .plain rfl (D_load (g := dK) Tryz.isAgg77 Tryz.sizeOf77 rfl p0I fun z0Q q0I => ?_)
   obtain rfl := RV_u32.1 q0I
   obtain ⟨xH, x0B, h⟩ := bsome h
   refine EL_p (.int .u32 (UInt32.toNat (xH))) (P_shr32 rfl rfl x0B) rfl ?_
   refine EL_p (.int .u16 (UInt16.toNat (((xH).toUInt16)))) (P_u32u16 Tryz.underlying77 Tryz.underlying81 rfl) rfl ?_
   obtain ⟨jV, qU, h⟩ := bsome h
   refine EL_p (fPtr p2 (((0 : Int) : Int).toNat * 1)) (P_indexAddrA (α := UInt32) Tryz.underlying78 Tryz.sizeOf77 cF (PT.ptr m7) rfl qU) rfl ?_
   have r0I := PT_idxA m7 qU
   refine EL_do .plain rfl (D_load (g := dK) Tryz.isAgg77 Tryz.sizeOf77 rfl r0I fun a0R s0I => ?_)
   obtain rfl := RV_u32.1 s0I
   obtain ⟨qI, y0B, h⟩ := bsome h
   refine EL_p (.int .u32 (UInt32.toNat (qI))) (P_rem32 rfl rfl y0B) rfl ?_
   have b02 : RV dK.m m0I (⟨0, 0, ((pI).toUInt8), ((xH).toUInt16), qI⟩ : Cut) (.agg (setCh [[.int .u8 0], [.int .u8 0], [.int .u8 0], [.int .u16 0], [.int .u32 0]] [(2, .int .u8 (UInt8.toNat (((pI).toUInt8)))), (3, .int .u16 (UInt16.toNat (((xH).toUInt16)))), (4, .int .u32 (UInt32.toNat (qI)))]).flatten.toArray) := RV_build rfl (rep_pair (rep_u8) (rep_pair (rep_u8) (rep_pair (rfl) (rep_pair (rfl) (rep_last (rfl))))))
   generalize z0B : (Value.agg (setCh [[.int .u8 0], [.int .u8 0], [.int .u8 0], [.int .u16 0], [.int .u32 0]] [(2, .int .u8 (UInt8.toNat (((pI).toUInt8)))), (3, .int .u16 (UInt16.toNat (((xH).toUInt16)))), (4, .int .u32 (UInt32.toNat (qI)))]).flatten.toArray) = c02 at b02
   refine EL_p c02 (z0B ▸ P_build (vs := [(2, .int .u8 (UInt8.toNat (((pI).toUInt8)))), (3, .int .u16 (UInt16.toNat (((xH).toUInt16)))), (4, .int .u32 (UInt32.toNat (qI)))]) [[.int .u8 0], [.int .u8 0], [.int .u8 0], [.int .u16 0], [.int .u32 0]] lay_83 rfl rfl (.cons rfl (.cons rfl (.cons rfl .nil))) ⟨⟨_, rfl, rfl⟩, ⟨⟨_, rfl, rfl⟩, ⟨⟨_, rfl, rfl⟩, trivial⟩⟩⟩) rfl ?_
   refine EL_do .plain rfl (D_loadO (g := dK) Tryz.isAgg25 Tryz.sizeOf25 dF n8 fun t0I u0I => ?_)
   obtain ⟨iA, a0C, h⟩ := bsome h
   refine EL_do .plain rfl (D_call (g := dK) (vs := [c02, t0I]) en39 (.cons rfl (.cons rfl .nil)) (wk39 b02 u0I a0C) fun v0I e0O x0I hs hr => ?_)
   have hfr := hfr.ext hs
   have m7 := m7.ext hs
   have n8 := n8.ext hs
   have iS := hr
   refine EL_do .plain rfl (D_allocOc (g := v0I) 2030 (⟨0, 0, 0, [], 0⟩ : PayPiece) Tryz.zeroValue27 (fun m w => ⟨_, (rep_two rep_int (rep_two rep_int (rep_two rep_int (rep_two rep_nil rep_int)))), rfl⟩) fun d02 y0I uC hs b24256 cb => ?_)
   have hfr := hfr.stp hs
   have m7 := m7.stp hs
   have n8 := n8.stp hs rfl
   have iS := iS.stp hs
   have x0M : OSF 2030 63003 3 d02 y0I 3 27 ([] : List Int) uC := cb.osf (by rfl)
   clear cb
   refine EL_do .plain rfl (D_storeOc (g := d02) (v := x0I) Tryz.sizeOf27 rfl b24256 rfl iS fun z0I a0J hs b24257 cb => ?_)
   clear cb
   have hfr := hfr.stp hs
   have m7 := m7.stp hs
   have n8 := n8.stp hs rfl
   refine EL_nil (thn_n (E_seq (L_loadO0 (x := .tmp 30) Tryz.isAgg27 Tryz.sizeOf27 b24257 fun b0J c0J b0C => ?_)))
   refine L_loadO0 (x := .tmp 30) Tryz.isAgg27 Tryz.sizeOf27 b24257 fun e02 jS c0C => ?_
   refine E_drawV (g := z0I) (w := a0J) (i := 2031) (t2 := 27) (a0 := (⟨0, 0, 0, [], 0⟩ : PayPiece)) (a1 := (iA : PayPiece)) (n := 5) [(2, (fun _ v => varA 2031 27 (⟨0, 0, 0, [], 0⟩ : PayPiece) (iA : PayPiece) v)), (3, (fun _ v g w => OB 2032 g w 27 (⟨0, 0, 0, [], 0⟩ : PayPiece) v)), (4, (fun e _ g w => OB 2031 g w 27 (iA : PayPiece) (ev e (.tmp 31))))] [0, 1, 2, 3, 4] rfl mixed (by kernel_rfl) (⟨fun _ _ => up_var0, fun _ _ => upV_ob, fun _ _ => up_var1, trivial⟩) (⟨fun _ _ _ _ _ _ => rfl, fun _ _ _ _ _ _ => rfl, wok_store (A := fun p g w => OB 2031 g w 27 (iA : PayPiece) p) rfl, trivial⟩) ?_
   refine L_ld (c := b0J) rfl rfl .plain (fun _ _ h => ⟨h.ch, fun b hb ho => h.block b hb (by rw [ho]; decide)⟩) b0C rfl ?_
   refine L_ld (c := e02) rfl rfl .plain (fun _ _ h => ⟨h.ch, fun b hb ho => h.block b hb (by rw [ho]; decide)⟩) c0C rfl ?_
   refine L_do (φ := fun v => varA 2031 27 (⟨0, 0, 0, [], 0⟩ : PayPiece) (iA : PayPiece) v) rfl rfl .plain (fun g w hd => D_allocX (g := g) 2031 (⟨0, 0, 0, [], 0⟩ : PayPiece) Tryz.zeroValue27 (fun m w => ⟨_, (rep_two rep_int (rep_two rep_int (rep_two rep_int (rep_two rep_nil rep_int)))), rfl⟩) fun g' w' v hs b => ⟨g', var_ext hs, .inl b⟩) (fun aM hv => ?_)
   clear hv
   refine L_do (φ := fun v g w => OB 2032 g w 27 (⟨0, 0, 0, [], 0⟩ : PayPiece) v) rfl rfl .plain (fun g w hd => D_allocX (g := g) 2032 (⟨0, 0, 0, [], 0⟩ : PayPiece) Tryz.zeroValue27 (fun m w => ⟨_, (rep_two rep_int (rep_two rep_int (rep_two rep_int (rep_two rep_nil rep_int)))), rfl⟩) fun g' w' v hs b => ⟨g', var_ext hs, b⟩) (fun g02 hv => ?_)
   clear hv
   refine L_do (φ := fun _ g w => OB 2031 g w 27 (iA : PayPiece) aM) rfl rfl .plain (fun g w hd => D_storeV (g := g) Tryz.sizeOf27 rfl (word (A := varA 2031 27 (⟨0, 0, 0, [], 0⟩ : PayPiece) (iA : PayPiece) aM) 2 rfl rfl (deps_of hd)) rfl (c0J.stp hd.1)) (fun b0R hv => ?_)
   clear hv
   refine L_nil fun d0J c0R hall => ?_
   have hs := hall.1
   have hfr := hfr.stp hs
   have m7 := m7.stp hs
   have n8 := n8.stp hs rfl
   have b24257 := b24257.stp hs rfl
   have jS := jS.stp hs
   have b24284 := (word_all (A := fun g w => OB 2031 g w 27 (iA : PayPiece) aM) 4 rfl hall)
   have b24285 := (word_all (A := fun g w => OB 2032 g w 27 (⟨0, 0, 0, [], 0⟩ : PayPiece) g02) 3 rfl hall)
   clear hs hall
   refine EL_do .plain rfl (D_storeOc (g := d0J) (v := e02) Tryz.sizeOf27 rfl b24285 rfl jS fun h02 d0R hs b24286 cb => ?_)
   clear cb
   have hfr := hfr.stp hs
   have m7 := m7.stp hs
   have n8 := n8.stp hs rfl
   have b24257 := b24257.stp hs rfl
   have b24284 := b24284.stp hs rfl
   refine EL_nil (thn_n (E_seq (E_region ?_)))
   obtain ⟨yP, rU, h⟩ := bsome h
   refine EL_p (fPtr p2 (((1 : Int) : Int).toNat * 1)) (P_indexAddrA (α := UInt32) Tryz.underlying78 Tryz.sizeOf77 cF (PT.ptr m7) rfl rU) rfl ?_
   have e0J := PT_idxA m7 rU
   refine EL_do .plain rfl (D_load (g := h02) Tryz.isAgg77 Tryz.sizeOf77 rfl e0J fun e0R g0J => ?_)
   obtain rfl := RV_u32.1 g0J
   refine EL_p (.int .i64 (((yP).toNat : Int))) (P_u32int Tryz.underlying77 Tryz.underlying3 rfl) rfl ?_
   obtain ⟨xK, d0C, h⟩ := bsome h
   refine EL_p (.int .i64 (xK)) (P_int rfl rfl (congrArg (Option.map (Value.int .i64)) d0C)) rfl ?_
   refine EL_p (fPtr aM 2) (P_fieldAddr at_27_2 rfl (OB.ptr b24284)) rfl ?_
   refine EL_do .plain rfl (D_storeFc (g := h02) part_PayPiece_2 Tryz.sizeOf3 rfl b24284 rfl (RV_int.2 rfl) fun lS g0R hs b24292 rst hos => ?_)
   clear rst hos
   have hfr := hfr.stp hs
   have m7 := m7.stp hs
   have n8 := n8.stp hs rfl
   have b24257 := b24257.stp hs rfl
   have b24286 := b24286.stp hs rfl
   refine EL_nil (thn_n (E_seq (E_region (EL_p (fPtr uC 2) (P_fieldAddr at_27_2 rfl (OB.ptr b24257)) rfl ?_))))
   refine EL_do .plain rfl (D_loadF (g := lS) part_PayPiece_2.1 Tryz.isAgg3 Tryz.sizeOf3 rfl b24257 fun h0R h0J => ?_)
   obtain rfl := RV_int.1 h0J
   refine EL_p (fPtr aM 2) (P_fieldAddr at_27_2 rfl (OB.ptr b24292)) rfl ?_
   refine EL_do .plain rfl (D_loadF (g := lS) part_PayPiece_2.1 Tryz.isAgg3 Tryz.sizeOf3 rfl b24292 fun i0R i0J => ?_)
   obtain rfl := RV_int.1 i0J
   refine EL_in (.int .i64 ((w64 ((iA).Picks + ({ iA with Picks := xK }).Picks)))) rfl rfl rfl rfl ?_
   refine EL_p (fPtr g02 2) (P_fieldAddr at_27_2 rfl (OB.ptr b24286)) rfl ?_
   refine EL_do .plain rfl (D_storeFc (g := lS) part_PayPiece_2 Tryz.sizeOf3 rfl b24286 rfl (RV_int.2 rfl) fun j0J j0R hs b24298 rst hos => ?_)
   clear rst hos
   have hfr := hfr.stp hs
   have m7 := m7.stp hs
   have n8 := n8.stp hs rfl
   have b24257 := b24257.stp hs rfl
   have b24292 := b24292.stp hs rfl
   refine EL_nil (thn_n (E_seq (L_loadO0 (x := .tmp 7) Tryz.isAgg25 Tryz.sizeOf25 n8 fun i02 k0J e0C => ?_)))
   obtain ⟨nJ, g0C, h⟩ := bsome h
   refine L_loadO0 (x := .tmp 30) Tryz.isAgg27 Tryz.sizeOf27 b24257 fun j02 l0J h0C => ?_
   obtain ⟨i6, i0C, h⟩ := bsome h
   refine E_drawL (g := j0J) (n := 13) [(1, (fun v g w => RV g.m w nJ v)), (3, (fun v g w => ∃ y0 y1 y2 y3 : Value, v = .tuple #[y0, y1, y2, y3] ∧ y0 = .int .i64 (i6.1) ∧ y1 = .int .i64 (i6.2.1) ∧ y2 = .int .i64 (i6.2.2.1) ∧ y3 = .int .i64 (i6.2.2.2)))] [0, 1, 2, 3, 4, 5, 6, 7, 8, 9, 10, 11, 12] rfl mixed (by kernel_rfl) (⟨fun _ => up_rv, fun _ => (up_ex fun _ => (up_ex fun _ => (up_ex fun _ => (up_ex fun _ => (up_and (up_eq _) (up_and (up_eq _) (up_and (up_eq _) (up_and (up_eq _) (up_eq _))))))))), trivial⟩) ?_
   refine L_ld (c := i02) rfl rfl .plain (fun _ _ h => ⟨h.ch, fun b hb _ => h.below.block b hb⟩) e0C dF ?_
   refine L_do (φ := fun v g w => RV g.m w nJ v) rfl rfl .plain (fun g w hd => D_call (g := g) (vs := [i02]) en13 (.cons rfl .nil) (wk13 (k0J.ext hd.1) g0C) fun g' w' v hs hr => ⟨g', hs, hr⟩) (fun mS hv => ?_)
   obtain ⟨_, _, _, rq24300⟩ := hv
   refine L_ld (c := j02) rfl rfl .plain (fun _ _ h => ⟨h.ch, fun b hb _ => h.below.block b hb⟩) h0C rfl ?_
   refine L_do (φ := fun v g w => ∃ y0 y1 y2 y3 : Value, v = .tuple #[y0, y1, y2, y3] ∧ y0 = .int .i64 (i6.1) ∧ y1 = .int .i64 (i6.2.1) ∧ y2 = .int .i64 (i6.2.2.1) ∧ y3 = .int .i64 (i6.2.2.2)) rfl rfl .plain (fun g w hd => D_call (g := g) (vs := [mS, j02]) en16 (.cons rfl (.cons rfl .nil)) (wk16 (word (A := fun g w => RV g.m w nJ mS) 1 rfl rfl (deps_of hd)) (l0J.ext hd.1) i0C) fun g' w' v hs hr => ⟨g', hs, hr⟩) (fun k0R hv => ?_)
   obtain ⟨_, _, _, _, _, _, _, rfl, rfl, rfl, rfl, rfl⟩ := hv
   refine L_p (.tuple #[.int .i64 (i6.1), .int .i64 (i6.2.1), .int .i64 (i6.2.2.1), .int .i64 (i6.2.2.2)]) rfl rfl (P_move rfl) ?_
   refine L_p (.int .i64 (i6.1)) rfl rfl (P_extract rfl rfl) ?_
   refine L_p (.int .i64 (i6.2.1)) rfl rfl (P_extract rfl rfl) ?_
   refine L_p (.int .i64 (i6.2.2.1)) rfl rfl (P_extract rfl rfl) ?_
   refine L_p (.int .i64 (i6.2.2.2)) rfl rfl (P_extract rfl rfl) ?_
   refine L_p (.int .i64 (i6.1)) rfl rfl (P_assign rfl) ?_
   refine L_p (.int .i64 (i6.2.1)) rfl rfl (P_assign rfl) ?_
   refine L_p (.int .i64 (i6.2.2.1)) rfl rfl (P_assign rfl) ?_
   refine L_p (.int .i64 (i6.2.2.2)) rfl rfl (P_assign rfl) ?_
   refine L_nil fun m0J l0R hall => ?_
   have hs := hall.1
   have hfr := hfr.ext hs
   have m7 := m7.ext hs
   have n8 := n8.ext hs
   have b24257 := b24257.ext hs
   have b24292 := b24292.ext hs
   have b24298 := b24298.ext hs
   have m0R := (word_all (A := fun g w => RV g.m w nJ mS) 1 rfl hall)
   clear hs hall
   refine EL_nil (thn_n (E_seq (L_loadO0 (x := .tmp 7) Tryz.isAgg25 Tryz.sizeOf25 n8 fun k02 n0J j0C => ?_)))
   obtain ⟨oJ, k0C, h⟩ := bsome h
   refine L_loadO0 (x := .tmp 31) Tryz.isAgg27 Tryz.sizeOf27 b24292 fun l02 o0J l0C => ?_
   obtain ⟨l8, m0C, h⟩ := bsome h
   refine E_drawL (g := m0J) (n := 13) [(1, (fun v g w => RV g.m w oJ v)), (3, (fun v g w => ∃ y0 y1 y2 y3 : Value, v = .tuple #[y0, y1, y2, y3] ∧ y0 = .int .i64 (l8.1) ∧ y1 = .int .i64 (l8.2.1) ∧ y2 = .int .i64 (l8.2.2.1) ∧ y3 = .int .i64 (l8.2.2.2)))] [0, 1, 2, 3, 4, 5, 6, 7, 8, 9, 10, 11, 12] rfl mixed (by kernel_rfl) (⟨fun _ => up_rv, fun _ => (up_ex fun _ => (up_ex fun _ => (up_ex fun _ => (up_ex fun _ => (up_and (up_eq _) (up_and (up_eq _) (up_and (up_eq _) (up_and (up_eq _) (up_eq _))))))))), trivial⟩) ?_
   refine L_ld (c := k02) rfl rfl .plain (fun _ _ h => ⟨h.ch, fun b hb _ => h.below.block b hb⟩) j0C dF ?_
   refine L_do (φ := fun v g w => RV g.m w oJ v) rfl rfl .plain (fun g w hd => D_call (g := g) (vs := [k02]) en13 (.cons rfl .nil) (wk13 (n0J.ext hd.1) k0C) fun g' w' v hs hr => ⟨g', hs, hr⟩) (fun nS hv => ?_)
   obtain ⟨_, _, _, rq24351⟩ := hv
   refine L_ld (c := l02) rfl rfl .plain (fun _ _ h => ⟨h.ch, fun b hb _ => h.below.block b hb⟩) l0C rfl ?_
   refine L_do (φ := fun v g w => ∃ y0 y1 y2 y3 : Value, v = .tuple #[y0, y1, y2, y3] ∧ y0 = .int .i64 (l8.1) ∧ y1 = .int .i64 (l8.2.1) ∧ y2 = .int .i64 (l8.2.2.1) ∧ y3 = .int .i64 (l8.2.2.2)) rfl rfl .plain (fun g w hd => D_call (g := g) (vs := [nS, l02]) en16 (.cons rfl (.cons rfl .nil)) (wk16 (word (A := fun g w => RV g.m w oJ nS) 1 rfl rfl (deps_of hd)) (o0J.ext hd.1) m0C) fun g' w' v hs hr => ⟨g', hs, hr⟩) (fun n0R hv => ?_)
   obtain ⟨_, _, _, _, _, _, _, rfl, rfl, rfl, rfl, rfl⟩ := hv
   refine L_p (.tuple #[.int .i64 (l8.1), .int .i64 (l8.2.1), .int .i64 (l8.2.2.1), .int .i64 (l8.2.2.2)]) rfl rfl (P_move rfl) ?_
   refine L_p (.int .i64 (l8.1)) rfl rfl (P_extract rfl rfl) ?_
   refine L_p (.int .i64 (l8.2.1)) rfl rfl (P_extract rfl rfl) ?_
   refine L_p (.int .i64 (l8.2.2.1)) rfl rfl (P_extract rfl rfl) ?_
   refine L_p (.int .i64 (l8.2.2.2)) rfl rfl (P_extract rfl rfl) ?_
   refine L_p (.int .i64 (l8.1)) rfl rfl (P_assign rfl) ?_
   refine L_p (.int .i64 (l8.2.1)) rfl rfl (P_assign rfl) ?_
   refine L_p (.int .i64 (l8.2.2.1)) rfl rfl (P_assign rfl) ?_
   refine L_p (.int .i64 (l8.2.2.2)) rfl rfl (P_assign rfl) ?_
   refine L_nil fun p0J o0R hall => ?_
   have hs := hall.1
   have hfr := hfr.ext hs
   have m7 := m7.ext hs
   have n8 := n8.ext hs
   have b24257 := b24257.ext hs
   have b24298 := b24298.ext hs
   have p0R := (word_all (A := fun g w => RV g.m w oJ nS) 1 rfl hall)
   clear hs hall
   refine EL_nil (thn_n (E_seq (L_loadO0 (x := .tmp 7) Tryz.isAgg25 Tryz.sizeOf25 n8 fun m02 q0J n0C => ?_)))
   obtain ⟨pJ, o0C, h⟩ := bsome h
   refine L_loadO0 (x := .tmp 32) Tryz.isAgg27 Tryz.sizeOf27 b24298 fun n02 r0J p0C => ?_
   obtain ⟨m8, q0C, h⟩ := bsome h
   refine E_drawL (g := p0J) (n := 13) [(1, (fun v g w => RV g.m w pJ v)), (3, (fun v g w => ∃ y0 y1 y2 y3 : Value, v = .tuple #[y0, y1, y2, y3] ∧ y0 = .int .i64 (m8.1) ∧ y1 = .int .i64 (m8.2.1) ∧ y2 = .int .i64 (m8.2.2.1) ∧ y3 = .int .i64 (m8.2.2.2)))] [0, 1, 2, 3, 4, 5, 6, 7, 8, 9, 10, 11, 12] rfl mixed (by kernel_rfl) (⟨fun _ => up_rv, fun _ => (up_ex fun _ => (up_ex fun _ => (up_ex fun _ => (up_ex fun _ => (up_and (up_eq _) (up_and (up_eq _) (up_and (up_eq _) (up_and (up_eq _) (up_eq _))))))))), trivial⟩) ?_
   refine L_ld (c := m02) rfl rfl .plain (fun _ _ h => ⟨h.ch, fun b hb _ => h.below.block b hb⟩) n0C dF ?_
   refine L_do (φ := fun v g w => RV g.m w pJ v) rfl rfl .plain (fun g w hd => D_call (g := g) (vs := [m02]) en13 (.cons rfl .nil) (wk13 (q0J.ext hd.1) o0C) fun g' w' v hs hr => ⟨g', hs, hr⟩) (fun oS hv => ?_)
   obtain ⟨_, _, _, rq24415⟩ := hv
   refine L_ld (c := n02) rfl rfl .plain (fun _ _ h => ⟨h.ch, fun b hb _ => h.below.block b hb⟩) p0C rfl ?_
   refine L_do (φ := fun v g w => ∃ y0 y1 y2 y3 : Value, v = .tuple #[y0, y1, y2, y3] ∧ y0 = .int .i64 (m8.1) ∧ y1 = .int .i64 (m8.2.1) ∧ y2 = .int .i64 (m8.2.2.1) ∧ y3 = .int .i64 (m8.2.2.2)) rfl rfl .plain (fun g w hd => D_call (g := g) (vs := [oS, n02]) en16 (.cons rfl (.cons rfl .nil)) (wk16 (word (A := fun g w => RV g.m w pJ oS) 1 rfl rfl (deps_of hd)) (r0J.ext hd.1) q0C) fun g' w' v hs hr => ⟨g', hs, hr⟩) (fun q0R hv => ?_)
   obtain ⟨_, _, _, _, _, _, _, rfl, rfl, rfl, rfl, rfl⟩ := hv
   refine L_p (.tuple #[.int .i64 (m8.1), .int .i64 (m8.2.1), .int .i64 (m8.2.2.1), .int .i64 (m8.2.2.2)]) rfl rfl (P_move rfl) ?_
   refine L_p (.int .i64 (m8.1)) rfl rfl (P_extract rfl rfl) ?_
   refine L_p (.int .i64 (m8.2.1)) rfl rfl (P_extract rfl rfl) ?_
   refine L_p (.int .i64 (m8.2.2.1)) rfl rfl (P_extract rfl rfl) ?_
   refine L_p (.int .i64 (m8.2.2.2)) rfl rfl (P_extract rfl rfl) ?_
   refine L_p (.int .i64 (m8.1)) rfl rfl (P_assign rfl) ?_
   refine L_p (.int .i64 (m8.2.1)) rfl rfl (P_assign rfl) ?_
   refine L_p (.int .i64 (m8.2.2.1)) rfl rfl (P_assign rfl) ?_
   refine L_p (.int .i64 (m8.2.2.2)) rfl rfl (P_assign rfl) ?_
   refine L_nil fun bM r0R hall => ?_
   have hs := hall.1
   have hfr := hfr.ext hs
   have m7 := m7.ext hs
   have n8 := n8.ext hs
   have b24257 := b24257.ext hs
   have s0R := (word_all (A := fun g w => RV g.m w pJ oS) 1 rfl hall)
   clear hs hall
   refine EL_nil (thn_n (E_joinC h (fun (s : Unit) e w => ∃ (g : Gh) , Fr gI wI g w ∧ e 5 = p2 ∧ PT g.m w (x2 : Vector UInt32 3) p2 ∧ e 7 = p8 ∧ OB 2007 g w 25 (y5 : PayList) p8 ∧ e 30 = uC ∧ OB 2030 g w 27 (iA : PayPiece) uC ∧ e 33 = .int .i64 (i6.1)) (fun X24501 qV r0C h => ?_) ?_))
   ·obtain ⟨cH, hx, h⟩ := bsome h
    refine E_join (fun e w => ∃ (g : Gh) , Fr gI wI g w ∧ e 5 = p2 ∧ PT g.m w (x2 : Vector UInt32 3) p2 ∧ e 7 = p8 ∧ OB 2007 g w 25 (y5 : PayList) p8 ∧ e 30 = uC ∧ OB 2030 g w 27 (iA : PayPiece) uC ∧ e 33 = .int .i64 (i6.1) ∧ e 373 = .bool (cH)) (fun Q' hQ => ?_) (fun g0O t0R hR => ?_)
    ·replace h := hx
     clear hx
     refine E_region (EL_mw (.int .i64 (i6.2.2.2)) rfl rfl ?_)
     refine EL_in (.bool ((i6.2.2.2 != (0 : Int)))) rfl rfl rfl rfl ?_
     refine EL_mw (.bool ((i6.2.2.2 != (0 : Int)))) rfl rfl ?_
     rcases csome h with ⟨qH, h⟩ | ⟨qH, h⟩
     ·refine EL_s rfl rfl qH rfl rfl ?_
      refine EL_s rfl rfl qH rfl rfl ?_
      refine EL_p (.bool true) (P_pick (b := (i6.2.2.2 != (0 : Int))) rfl (pick_t qH rfl)) rfl ?_
      refine EL_dead 19 rfl ?_
      refine EL_nil ?_
      obtain rfl := sinj h
      exact hQ _ _ ⟨bM, hfr, cF, m7, dF, n8, rfl, b24257, rfl, rfl⟩
     ·refine EL_y (.int .i64 (l8.2.2.2)) (P_move rfl) rfl rfl qH rfl ?_
      refine EL_y (.bool ((l8.2.2.2 != (0 : Int)))) (P_int rfl rfl rfl) rfl rfl qH rfl ?_
      refine EL_p (.bool ((l8.2.2.2 != (0 : Int)))) (P_pick (b := (i6.2.2.2 != (0 : Int))) rfl (pick_f qH rfl)) rfl ?_
      refine EL_mw (.bool ((l8.2.2.2 != (0 : Int)))) rfl rfl ?_
      rcases csome h with ⟨sH, h⟩ | ⟨sH, h⟩
      ·refine EL_s rfl rfl sH rfl rfl ?_
       refine EL_s rfl rfl sH rfl rfl ?_
       refine EL_p (.bool true) (P_pick (b := (l8.2.2.2 != (0 : Int))) rfl (pick_t sH rfl)) rfl ?_
       refine EL_dead 15 rfl ?_
       refine EL_nil ?_
       obtain rfl := sinj h
       exact hQ _ _ ⟨bM, hfr, cF, m7, dF, n8, rfl, b24257, rfl, rfl⟩
      ·refine EL_y (.int .i64 (m8.2.2.2)) (P_move rfl) rfl rfl sH rfl ?_
       refine EL_y (.bool ((m8.2.2.2 != (0 : Int)))) (P_int rfl rfl rfl) rfl rfl sH rfl ?_
       refine EL_p (.bool ((m8.2.2.2 != (0 : Int)))) (P_pick (b := (l8.2.2.2 != (0 : Int))) rfl (pick_f sH rfl)) rfl ?_
       refine EL_mw (.bool ((m8.2.2.2 != (0 : Int)))) rfl rfl ?_
       rcases csome h with ⟨cD, h⟩ | ⟨cD, h⟩
       ·refine EL_s rfl rfl cD rfl rfl ?_
        iterate 5 refine EL_s rfl rfl cD rfl rfl ?_
        refine EL_dead 6 rfl ?_
        refine EL_s rfl rfl cD rfl rfl ?_
        refine EL_p (.bool true) (P_pick (b := (m8.2.2.2 != (0 : Int))) rfl (pick_t cD rfl)) rfl ?_
        refine EL_nil ?_
        obtain rfl := sinj h
        exact hQ _ _ ⟨bM, hfr, cF, m7, dF, n8, rfl, b24257, rfl, rfl⟩
       ·refine EL_y (.int .i64 (i6.1)) (P_move rfl) rfl rfl cD rfl ?_
        refine EL_y (.int .i64 (l8.1)) (P_move rfl) rfl rfl cD rfl ?_
        refine EL_y (.int .i64 ((w64 (i6.1 + l8.1)))) (P_int rfl rfl rfl) rfl rfl cD rfl ?_
        refine EL_y (.int .i64 (m8.1)) (P_move rfl) rfl rfl cD rfl ?_
        refine EL_y (.bool (((w64 (i6.1 + l8.1)) != m8.1))) (P_int rfl rfl rfl) rfl rfl cD rfl ?_
        refine EL_y (.bool (((w64 (i6.1 + l8.1)) != m8.1))) (P_move rfl) rfl rfl cD rfl ?_
        rcases csome h with ⟨mE, h⟩ | ⟨mE, h⟩
        ·refine EL_y (.int .i64 (i6.1)) (P_move rfl) rfl rfl mE rfl ?_
         refine EL_y (.int .i64 (l8.1)) (P_move rfl) rfl rfl mE rfl ?_
         refine EL_y (.int .i64 ((w64 (i6.1 + l8.1)))) (P_int rfl rfl rfl) rfl rfl mE rfl ?_
         refine EL_y (.int .i64 (m8.1)) (P_move rfl) rfl rfl mE rfl ?_
         refine EL_y (.int .i64 ((w64 (m8.1 - (1 : Int))))) (P_int rfl rfl rfl) rfl rfl mE rfl ?_
         refine EL_y (.bool (((w64 (i6.1 + l8.1)) != (w64 (m8.1 - (1 : Int)))))) (P_int rfl rfl rfl) rfl rfl mE rfl ?_
         refine EL_y (.bool (((w64 (i6.1 + l8.1)) != (w64 (m8.1 - (1 : Int)))))) (P_pick (b := ((w64 (i6.1 + l8.1)) != m8.1)) rfl (pick_t mE rfl)) rfl rfl cD rfl ?_
         refine EL_p (.bool (((w64 (i6.1 + l8.1)) != (w64 (m8.1 - (1 : Int)))))) (P_pick (b := (m8.2.2.2 != (0 : Int))) rfl (pick_f cD rfl)) rfl ?_
         refine EL_nil ?_
         obtain rfl := sinj h
         exact hQ _ _ ⟨bM, hfr, cF, m7, dF, n8, rfl, b24257, rfl, rfl⟩
        ·refine EL_s rfl rfl mE rfl rfl ?_
         iterate 5 refine EL_s rfl rfl mE rfl rfl ?_
         refine EL_y (.bool false) (P_pick (b := ((w64 (i6.1 + l8.1)) != m8.1)) rfl (pick_f mE rfl)) rfl rfl cD rfl ?_
         refine EL_p (.bool false) (P_pick (b := (m8.2.2.2 != (0 : Int))) rfl (pick_f cD rfl)) rfl ?_
         refine EL_nil ?_
         obtain rfl := sinj h
         exact hQ _ _ ⟨bM, hfr, cF, m7, dF, n8, rfl, b24257, rfl, rfl⟩
    ·clear hx
     obtain ⟨s0J, hfr, z08, a09, b09, c09, o02, p02, q02, jN⟩ := hR
     rcases csome h with ⟨gO, h⟩ | ⟨gO, h⟩
     ·refine E_cond_true (Eq.trans (show ev _ _ = .bool (cH) from jN) (congrArg Value.bool gO)) ?_
      refine E_seq (E_region (EL_at (.bool false) rfl rfl ?_))
      refine EL_nil (thn_n (E_ret (thn_r ?_)))
      obtain rfl := sinj h
      exact end1 rfl rfl (show _ = .bool false from rfl) ⟨_, hfr, rfl⟩
     ·refine E_cond_false (Eq.trans (show ev _ _ = .bool (cH) from jN) (congrArg Value.bool gO)) ?_
      exact E_skip (thn_n (r0C () _ _ ⟨s0J, hfr, z08, a09, b09, c09, o02, p02, q02⟩ h))
   ·rintro _ h0O u0R ⟨r02, hfr, d09, eF, pS, bE, s02, yD, t02⟩ h
    refine E_seq (E_region (EL_do .plain rfl (D_loadO (g := r02) Tryz.isAgg25 Tryz.sizeOf25 pS bE fun t0J u0J => ?_)))
    obtain ⟨kV, s0C, h⟩ := bsome h
    refine EL_do .plain rfl (D_callG (g := r02) (vs := [t0J]) en13 (.cons rfl .nil) (W13 (iO := 4375) u0J s0C) fun v0J v0R x0R hs hm24514 => ?_)
    have hfr := hfr.ext hs
    have eF := eF.ext hs
    have bE := bE.ext hs
    have yD := yD.ext hs
    obtain ⟨sk24514, ow24514, ok24514⟩ := hm24514
    refine EL_do .plain rfl (D_allocOc (g := v0J) 2045 (⟨[], [], 0, 0⟩ : PayList) Tryz.zeroValue25 (fun m w => ⟨_, (rep_two rep_nil (rep_two rep_nil (rep_two rep_int rep_int))), rfl⟩) fun qS u02 v02 hs b24516 cb => ?_)
    have hfr := hfr.stp hs
    have eF := eF.stp hs
    have bE := bE.stp hs rfl
    have yD := yD.stp hs rfl
    have ow24514 := ow24514.stp hs rfl
    have y0M : OSF 2045 64500 0 qS u02 87 25 ([] : List PayRate) v02 := cb.osf (by rfl)
    have z0M : OSF 2045 64501 1 qS u02 3 25 ([] : List Int) v02 := cb.osf (by rfl)
    clear cb
    refine EL_do .plain rfl (D_storeOW (g := qS) Tryz.sizeOf25 rfl b24516 rfl ow24514 rfl fun gj24517 x0J y0R bk24517 hsa hsb hpp b24517 => ?_)
    have hfr := hfr.stp hsa
    have eF := eF.stp hsa
    have bE := bE.stp hsa rfl
    have yD := yD.stp hsa rfl
    have hfr := hfr.stp hsb
    have eF := eF.stp hsb
    have bE := bE.stp hsb rfl
    have yD := yD.stp hsb rfl
    clear hsa hsb
    subst hpp
    refine EL_nil (thn_n ?_)
    obtain ⟨yK, hx, h⟩ := bsome h
    refine E_join (fun e w => ∃ (g : Gh) , Fr gI wI g w ∧ e 7 = p8 ∧ OB 2007 g w 25 (y5 : PayList) p8 ∧ e 30 = uC ∧ OB 2030 g w 27 (iA : PayPiece) uC ∧ e 33 = .int .i64 (i6.1) ∧ e 45 = (Value.pointer (some ⟨bk24517, 0, none⟩)) ∧ OVb ow_PayList 2045 g w 25 (yK : PayList) bk24517) (fun Q' hQ => ?_) (fun i0O z0R hR => ?_)
    ·replace h := hx
     clear hx
     refine E_seq (E_region (EL_at (.int .i64 (0)) rfl rfl ?_))
     refine EL_nil (thn_n (E_block ?_))
     refine E_lp h (fun (s : PayList × Int) e w => ∃ (g : Gh) , Fr gI wI g w ∧ e 5 = p2 ∧ PT g.m w (x2 : Vector UInt32 3) p2 ∧ e 7 = p8 ∧ OB 2007 g w 25 (y5 : PayList) p8 ∧ e 30 = uC ∧ OB 2030 g w 27 (iA : PayPiece) uC ∧ e 33 = .int .i64 (i6.1) ∧ e 45 = (Value.pointer (some ⟨bk24517, 0, none⟩)) ∧ OVb ow_PayList 2045 g w 25 (s.1 : PayList) bk24517 ∧ e 46 = .int .i64 (s.2)) ⟨x0J, hfr, d09, eF, pS, bE, s02, yD, t02, rfl, ⟨_, b24517, ok24514⟩, rfl⟩ (fun X24617 lV t0C => ?_)
     rintro ⟨a9, y9⟩ j0O a0S ⟨rS, hfr, e09, g09, sS, tS, pP, sP, tP, cM, ⟨kN, lJ, kI⟩, uP⟩ h
     refine E_joinC h (fun (s : Unit) e w => ∃ (g : Gh) , Fr gI wI g w ∧ e 5 = p2 ∧ PT g.m w (x2 : Vector UInt32 3) p2 ∧ e 7 = p8 ∧ OB 2007 g w 25 (y5 : PayList) p8 ∧ e 30 = uC ∧ OB 2030 g w 27 (iA : PayPiece) uC ∧ e 33 = .int .i64 (i6.1) ∧ e 45 = (Value.pointer (some ⟨bk24517, 0, none⟩)) ∧ OVb ow_PayList 2045 g w 25 (a9 : PayList) bk24517 ∧ e 46 = .int .i64 (y9)) (fun X24624 mV u0C h => ?_) ?_
     ·refine E_seq (E_region (EL_mv uP rfl ?_))
      refine EL_p ((.pointer (some ⟨bk24517, (0 + 0), none⟩))) (P_fieldAddrH at_25_0 cM) rfl ?_
      refine EL_do .plain rfl (D_loadH (g := rS) (Cxt.fld (Cxt.root ow_PayList bk24517) fl_PayList_0 (a9) (kN)) rfl rfl (kI.1) Tryz.isAgg22 rfl lJ ?_)
      have hz24628 := (OV.slice lJ (Cxt.fld (Cxt.root ow_PayList bk24517) fl_PayList_0 (a9) (kN)) rfl rfl (kI.1)).1
      refine EL_p (.int .i64 (((a9).Rates).length : Int)) (P_lenH Tryz.underlying22 rfl hz24628) rfl ?_
      refine EL_p (.bool ((decide (y9 < (((a9).Rates).length : Int))))) (P_int rfl rfl rfl) rfl ?_
      refine EL_nil (thn_n ?_)
      rcases csome h with ⟨jO, h⟩ | ⟨jO, h⟩
      ·refine E_ct jO rfl ?_
       exact E_skip (thn_n (u0C () _ _ ⟨rS, hfr, e09, g09, sS, tS, pP, sP, tP, cM, ⟨_, lJ, kI⟩, uP⟩ h))
      ·refine E_cf jO rfl ?_
       refine E_exit ?_
       refine thn_e ?_
       refine thn_e ?_
       refine blk_hit ?_
       obtain rfl := sinj h
       exact hQ _ _ ⟨rS, hfr, sS, tS, pP, sP, tP, cM, ⟨_, lJ, kI⟩⟩
     ·rintro _ k0O b0S ⟨y0J, hfr, uS, yG, h09, gJ, x02, dI, y02, dM, ⟨cC, aG, lI⟩, eM⟩ h
      obtain ⟨iJ, hx, h⟩ := bsome h
      refine E_join (fun e w => ∃ (g : Gh) , Fr gI wI g w ∧ e 5 = p2 ∧ PT g.m w (x2 : Vector UInt32 3) p2 ∧ e 7 = p8 ∧ OB 2007 g w 25 (y5 : PayList) p8 ∧ e 30 = uC ∧ OB 2030 g w 27 (iA : PayPiece) uC ∧ e 33 = .int .i64 (i6.1) ∧ e 45 = (Value.pointer (some ⟨bk24517, 0, none⟩)) ∧ OVb ow_PayList 2045 g w 25 (iJ : PayList) bk24517 ∧ e 46 = .int .i64 (y9)) (fun Q' hQ => ?_) (fun l0O c0S hR => ?_)
      ·replace h := hx
       clear hx
       refine E_block ?_
       refine L_loadH (x := .tmp 383) (Cxt.fld (Cxt.root ow_PayList bk24517) fl_PayList_0 (a9) (cC)) rfl rfl (lI.1) Tryz.isAgg22 aG fun v0C => ?_
       refine L_loadH (x := .tmp 386) (Cxt.fld (Cxt.root ow_PayList bk24517) fl_PayList_0 (a9) (cC)) rfl rfl (lI.1) Tryz.isAgg22 aG fun x0C => ?_
       obtain ⟨vF, tH, h⟩ := bsome h
       obtain ⟨bb24680, cc24680, ss24680, hq24680, sU⟩ := (OV.slice aG (Cxt.fld (Cxt.root ow_PayList bk24517) fl_PayList_0 (a9) (cC)) rfl rfl (lI.1)).2 tH
       refine L_loadV (x := .tmp 390) (Cxt.fld (Cxt.idx (Cxt.fld (Cxt.root ow_PayList bk24517) fl_PayList_0 (a9) (cC)) ((a9).Rates) (Int.toNat y9) bb24680 cc24680 ss24680 (idx_nat tH).2 sU) fl_PayRate_1 (vF) (())) ((congrArg (fun q => ({ a9 with Rates := q } : PayList)) (set_idx tH)).trans rfl) (((congrArg (fun q => ((Sl.at bb24680 cc24680 q), (Prod.snd cC))) set_unit).trans (congrArg (fun q => (q, (Prod.snd cC))) (hq24680).symm)).trans rfl) Tryz.isAgg3 Tryz.sizeOf3 aG fun d0S z0J y0C => ?_
       obtain rfl := RV_int.1 z0J
       obtain ⟨bN, tU, h⟩ := bsome h
       have a0K := PT_idxA yG tU
       refine L_load (x := .tmp 392) Tryz.isAgg77 Tryz.sizeOf77 a0K fun e0S b0K z0C => ?_
       obtain rfl := RV_u32.1 b0K
       obtain ⟨sI, a0D, h⟩ := bsome h
       refine E_drawL (g := y0J) (n := 17) [] [0, 1, 2, 3, 4, 5, 6, 7, 8, 9, 10, 11, 12, 13, 14, 15, 16] rfl mixed (by kernel_rfl) trivial ?_
       refine L_p ((.pointer (some ⟨bk24517, (0 + 0), none⟩))) rfl rfl (P_fieldAddrH at_25_0 dM) ?_
       refine L_ld (c := (hdrV (Prod.fst cC) ((a9).Rates).length)) rfl rfl .plain (fun _ _ h => ⟨h.ch, fun b hb _ => h.below.block b hb⟩) v0C rfl ?_
       refine L_p (.int .i64 (y9)) rfl rfl (P_move eM) ?_
       refine L_p ((.pointer (some ⟨bk24517, (0 + 0), none⟩))) rfl rfl (P_fieldAddrH at_25_0 dM) ?_
       refine L_ld (c := (hdrV (Prod.fst cC) ((a9).Rates).length)) rfl rfl .plain (fun _ _ h => ⟨h.ch, fun b hb _ => h.below.block b hb⟩) x0C rfl ?_
       refine L_p (.int .i64 (y9)) rfl rfl (P_move eM) ?_
       refine L_p ((.pointer (some ⟨bb24680, ((Int.toNat y9) * 2), none⟩))) rfl rfl (P_indexH Tryz.underlying22 Tryz.sizeOf87 (rfl.trans (hdr_at hq24680 _)) rfl (idx_nat tH)) ?_
       refine L_p ((.pointer (some ⟨bb24680, (((Int.toNat y9) * 2) + 1), none⟩))) rfl rfl (P_fieldAddrH at_87_1 rfl) ?_
       refine L_ld (c := .int .i64 ((vF).Rate)) rfl rfl .plain (fun _ _ h => ⟨h.ch, fun b hb _ => h.below.block b hb⟩) y0C rfl ?_
       refine L_p (fPtr p2 (((1 : Int) : Int).toNat * 1)) rfl rfl (P_indexAddrA (α := UInt32) Tryz.underlying78 Tryz.sizeOf77 uS (PT.ptr yG) rfl tU) ?_
       refine L_ld (c := .int .u32 (UInt32.toNat (bN))) rfl rfl .plain (fun _ _ h => h.ch) z0C rfl ?_
       refine L_p (.int .i64 (((bN).toNat : Int))) rfl rfl (P_u32int Tryz.underlying77 Tryz.underlying3 rfl) ?_
       refine L_p (.int .i64 (sI)) rfl rfl (P_int rfl rfl (congrArg (Option.map (Value.int .i64)) a0D)) ?_
       refine L_p (.int .i64 ((w64 ((vF).Rate + sI)))) rfl rfl (P_int rfl rfl rfl) ?_
       refine L_p (.int .i64 (min64 (10000 : Int) (w64 ((vF).Rate + sI)))) rfl rfl (P_min rfl rfl) ?_
       refine L_p ((.pointer (some ⟨bb24680, ((Int.toNat y9) * 2), none⟩))) rfl rfl (P_indexH Tryz.underlying22 Tryz.sizeOf87 (rfl.trans (hdr_at hq24680 _)) rfl (idx_nat tH)) ?_
       refine L_p ((.pointer (some ⟨bb24680, (((Int.toNat y9) * 2) + 1), none⟩))) rfl rfl (P_fieldAddrH at_87_1 rfl) ?_
       refine L_nl fun c0K g0S hs => ?_
       have hfr := hfr.ext hs
       have yG := yG.ext hs
       have gJ := gJ.ext hs
       have dI := dI.ext hs
       have aG := aG.ext hs
       clear hs
       refine EL_do .plain rfl (D_storeOV (g := c0K) (u' := ((min64 (10000 : Int) (w64 ((vF).Rate + sI))) : Int)) (Cxt.fld (Cxt.idx (Cxt.fld (Cxt.root ow_PayList bk24517) fl_PayList_0 (a9) (cC)) ((a9).Rates) (Int.toNat y9) bb24680 cc24680 ss24680 (idx_nat tH).2 sU) fl_PayRate_1 (vF) (())) ((congrArg (fun q => ({ a9 with Rates := q } : PayList)) (set_idx tH)).trans rfl) (((congrArg (fun q => ((Sl.at bb24680 cc24680 q), (Prod.snd cC))) set_unit).trans (congrArg (fun q => (q, (Prod.snd cC))) (hq24680).symm)).trans rfl) Tryz.sizeOf3 rfl aG rfl (RV_int.2 rfl) fun z02 d0K hs b24714 => ?_)
       have hfr := hfr.stp hs
       have yG := yG.stp hs
       have gJ := gJ.stp hs rfl
       have dI := dI.stp hs rfl
       replace b24714 : OV ow_PayList 2045 z02 d0K 25 (({ a9 with Rates := (List.set ((a9).Rates) (Int.toNat y9) ({ vF with Rate := (min64 (10000 : Int) (w64 ((vF).Rate + sI))) } : PayRate)) } : PayList) : PayList) bk24517 cC := b24714
       refine EL_nil (blk_n ?_)
       obtain rfl := sinj h
       exact hQ _ _ ⟨z02, hfr, uS, yG, h09, gJ, x02, dI, y02, dM, ⟨_, b24714, lI⟩, eM⟩
      ·clear hx
       obtain ⟨e0K, hfr, i09, j09, k09, l09, a03, b03, c03, d03, ⟨q0L, e03, dV⟩, g03⟩ := hR
       refine E_region (EL_mv g03 rfl ?_)
       refine EL_in (.int .i64 ((w64 (y9 + (1 : Int))))) rfl rfl rfl rfl ?_
       refine EL_at (.int .i64 ((w64 (y9 + (1 : Int))))) rfl rfl ?_
       exact EL_nil (thn_n (t0C (iJ, (w64 (y9 + (1 : Int)))) _ _ ⟨e0K, hfr, i09, j09, k09, l09, a03, b03, c03, d03, ⟨_, e03, dV⟩, rfl⟩ h))
    ·clear hx
     obtain ⟨vS, hfr, xS, vK, iM, iI, jM, h03, ⟨r0L, vP, eV⟩⟩ := hR
     refine E_seq (E_region (EL_do .plain rfl (D_loadAL (g := vS) Tryz.isAgg25 Tryz.sizeOf25 h03 vP fun g0K al24718 => ?_)))
     refine EL_do .plain rfl (D_loadO (g := vS) Tryz.isAgg27 Tryz.sizeOf27 iM iI fun h0K i0K => ?_)
     obtain ⟨lB, b0D, h⟩ := bsome h
     refine EL_do .plain rfl (D_callF (g := vS) (vs := [g0K, h0K]) (R := fun v => ∃ y0 y1 y2 y3, v = .tuple #[y0, y1, y2, y3] ∧ y0 = .int .i64 (lB.1) ∧ y1 = .int .i64 (lB.2.1) ∧ y2 = .int .i64 (lB.2.2.1) ∧ y3 = .int .i64 (lB.2.2.2)) en16 (.cons rfl (.cons rfl .nil)) (wk16 (AL.lent al24718 vP eV rfl) (i0K.lent) b0D) fun i03 h0S i0S hs hv => ?_)
     obtain ⟨_, _, _, _, rfl, rfl, rfl, rfl, rfl⟩ := hv
     have hfr := hfr.ext hs
     have vK := vK.ext hs
     have iI := iI.ext hs
     refine EL_mw (.tuple #[.int .i64 (lB.1), .int .i64 (lB.2.1), .int .i64 (lB.2.2.1), .int .i64 (lB.2.2.2)]) rfl rfl ?_
     refine EL_p (.int .i64 (lB.1)) (P_extract rfl rfl) rfl ?_
     refine EL_p (.int .i64 (lB.2.1)) (P_extract rfl rfl) rfl ?_
     refine EL_p (.int .i64 (lB.2.2.1)) (P_extract rfl rfl) rfl ?_
     refine EL_p (.int .i64 (lB.2.2.2)) (P_extract rfl rfl) rfl ?_
     refine EL_at (.int .i64 (lB.1)) rfl rfl ?_
     refine EL_at (.int .i64 (lB.2.1)) rfl rfl ?_
     refine EL_at (.int .i64 (lB.2.2.1)) rfl rfl ?_
     refine EL_at (.int .i64 (lB.2.2.2)) rfl rfl ?_
     refine EL_nil (thn_n (E_joinC h (fun (s : Unit) e w => ∃ (g : Gh) , Fr gI wI g w ∧ e 7 = p8 ∧ OB 2007 g w 25 (y5 : PayList) p8 ∧ e 30 = uC ∧ OB 2030 g w 27 (iA : PayPiece) uC ∧ e 33 = .int .i64 (i6.1)) (fun X24726 pV c0D h => ?_) ?_))
     ·obtain ⟨aH, hx, h⟩ := bsome h
      refine E_join (fun e w => ∃ (g : Gh) , Fr gI wI g w ∧ e 7 = p8 ∧ OB 2007 g w 25 (y5 : PayList) p8 ∧ e 30 = uC ∧ OB 2030 g w 27 (iA : PayPiece) uC ∧ e 33 = .int .i64 (i6.1) ∧ e 414 = .bool (aH)) (fun Q' hQ => ?_) (fun m0O j0S hR => ?_)
      ·replace h := hx
       clear hx
       refine E_region (EL_mw (.int .i64 (lB.2.2.2)) rfl rfl ?_)
       refine EL_in (.bool ((lB.2.2.2 != (0 : Int)))) rfl rfl rfl rfl ?_
       refine EL_mw (.bool ((lB.2.2.2 != (0 : Int)))) rfl rfl ?_
       rcases csome h with ⟨eG, h⟩ | ⟨eG, h⟩
       ·refine EL_s rfl rfl eG rfl rfl ?_
        refine EL_s rfl rfl eG rfl rfl ?_
        refine EL_s rfl rfl eG rfl rfl ?_
        refine EL_p (.bool true) (P_pick (b := (lB.2.2.2 != (0 : Int))) rfl (pick_t eG rfl)) rfl ?_
        refine EL_nil ?_
        obtain rfl := sinj h
        exact hQ _ _ ⟨i03, hfr, xS, vK, iM, iI, jM, rfl⟩
       ·refine EL_y (.int .i64 (lB.1)) (P_move rfl) rfl rfl eG rfl ?_
        refine EL_y (.int .i64 (i6.1)) (P_move jM) rfl rfl eG rfl ?_
        refine EL_y (.bool ((decide (lB.1 < i6.1)))) (P_int rfl rfl rfl) rfl rfl eG rfl ?_
        refine EL_p (.bool ((decide (lB.1 < i6.1)))) (P_pick (b := (lB.2.2.2 != (0 : Int))) rfl (pick_f eG rfl)) rfl ?_
        refine EL_nil ?_
        obtain rfl := sinj h
        exact hQ _ _ ⟨i03, hfr, xS, vK, iM, iI, jM, rfl⟩
      ·clear hx
       obtain ⟨j0K, hfr, m09, n09, j03, k03, l03, lN⟩ := hR
       rcases csome h with ⟨kO, h⟩ | ⟨kO, h⟩
       ·refine E_cond_true (Eq.trans (show ev _ _ = .bool (aH) from lN) (congrArg Value.bool kO)) ?_
        refine E_seq (E_region (EL_at (.bool false) rfl rfl ?_))
        refine EL_nil (thn_n (E_ret (thn_r ?_)))
        obtain rfl := sinj h
        exact end1 rfl rfl (show _ = .bool false from rfl) ⟨_, hfr, rfl⟩
       ·refine E_cond_false (Eq.trans (show ev _ _ = .bool (aH) from lN) (congrArg Value.bool kO)) ?_
        exact E_skip (thn_n (c0D () _ _ ⟨j0K, hfr, m09, n09, j03, k03, l03⟩ h))
     ·rintro _ n0O k0S ⟨mN, hfr, o09, eD, xP, kM, m03⟩ h
      refine E_joinC h (fun (s : Unit) e w => ∃ (g : Gh) , Fr gI wI g w) (fun X24792 zP uU h => ?_) ?_
      ·refine E_seq (E_region (EL_p (fPtr uC 3) (P_fieldAddr at_27_3 xP (OB.ptr kM)) rfl ?_))
       refine EL_do .plain rfl (D_loadF (g := mN) part_PayPiece_3.1 Tryz.isAgg23 Tryz.sizeOf23 rfl kM fun l0S k0K => ?_)
       refine EL_p (.int .i64 (((iA).Extras).length : Int)) (P_len Tryz.underlying23 rfl k0K) rfl ?_
       refine EL_p (.bool ((decide ((((iA).Extras).length : Int) > (0 : Int))))) (P_int rfl rfl rfl) rfl ?_
       refine EL_nil (thn_n ?_)
       rcases csome h with ⟨lO, h⟩ | ⟨lO, h⟩
       ·refine E_ct lO rfl ?_
        refine E_seq (E_region (EL_do .plain rfl (D_loadO (g := mN) Tryz.isAgg27 Tryz.sizeOf27 xP kM fun l0K m0K => ?_)))
        refine EL_do .plain rfl (D_buildSliceA (g := mN) 4420 (xs := ([iA] : List PayPiece)) (vs := [l0K]) Tryz.underlying33 Tryz.sizeOf27 Tryz.zeroValue27 rfl rfl (.cons rfl .nil) (RVs.cons m0K RVs.nil) rfl rfl fun m0S n0S n0K hs b24797 _ => ?_)
        have hfr := hfr.stp hs
        have eD := eD.stp hs rfl
        obtain ⟨gp24798, hs, rp24798⟩ := OM.pub (b24797.toM)
        have hfr := hfr.stp hs
        have eD := eD.stp hs rfl
        obtain ⟨nV, d0D, h⟩ := bsome h
        refine EL_do .plain rfl (D_call (g := gp24798) (vs := [n0K]) en14 (.cons rfl .nil) (wk14 rp24798 d0D) fun n03 o0O o0K hs hr => ?_)
        have hfr := hfr.ext hs
        have eD := eD.ext hs
        have o03 := hr
        obtain ⟨zK, vU, h⟩ := bsome h
        refine EL_p (ePtr o0K (0 : Int) 5) (P_indexAddr (α := PayPiece) Tryz.underlying33 Tryz.sizeOf27 rfl o03 rfl vU) rfl ?_
        have p0K := PT_idx o03 vU
        refine EL_do .plain rfl (D_load (g := n03) Tryz.isAgg27 Tryz.sizeOf27 rfl p0K fun q0K yS => ?_)
        refine EL_do .plain rfl (D_allocOc (g := n03) 2051 (⟨0, 0, 0, [], 0⟩ : PayPiece) Tryz.zeroValue27 (fun m w => ⟨_, (rep_two rep_int (rep_two rep_int (rep_two rep_int (rep_two rep_nil rep_int)))), rfl⟩) fun p03 r0K zS hs b24804 cb => ?_)
        have hfr := hfr.stp hs
        have eD := eD.stp hs rfl
        have yS := yS.stp hs
        have a0N : OSF 2051 65103 3 p03 r0K 3 27 ([] : List Int) zS := cb.osf (by rfl)
        clear cb
        refine EL_do .plain rfl (D_storeOc (g := p03) (v := q0K) Tryz.sizeOf27 rfl b24804 rfl yS fun q03 o0S hs b24805 cb => ?_)
        clear cb
        have hfr := hfr.stp hs
        have eD := eD.stp hs rfl
        refine EL_nil (thn_n (E_seq (E_region (EL_p (fPtr zS 3) (P_fieldAddr at_27_3 rfl (OB.ptr b24805)) rfl ?_))))
        refine EL_do .plain rfl (D_loadF (g := q03) part_PayPiece_3.1 Tryz.isAgg23 Tryz.sizeOf23 rfl b24805 fun s0K r03 => ?_)
        obtain ⟨oV, xU, h⟩ := bsome h
        have t0K := RV_cut r03 xU
        refine EL_p ((cutV s0K (Int.toNat (1 : Int)) (Int.toNat (((zK).Extras).length : Int)) 1)) (P_slice Tryz.underlying23 Tryz.sizeOf3 rfl r03 rfl rfl xU) rfl ?_
        refine EL_p (fPtr zS 3) (P_fieldAddr at_27_3 rfl (OB.ptr b24805)) rfl ?_
        refine EL_do .plain rfl (D_storeFc (g := q03) part_PayPiece_3 Tryz.sizeOf23 rfl b24805 rfl t0K fun u0K p0S hs b24811 rst hos => ?_)
        clear rst hos
        have hfr := hfr.stp hs
        have eD := eD.stp hs rfl
        refine EL_nil (thn_n (E_seq (L_loadO0 (x := .tmp 7) Tryz.isAgg25 Tryz.sizeOf25 eD fun s03 v0K e0D => ?_)))
        obtain ⟨qJ, g0D, h⟩ := bsome h
        refine L_loadO0 (x := .tmp 51) Tryz.isAgg27 Tryz.sizeOf27 b24811 fun t03 x0K h0D => ?_
        obtain ⟨l9, i0D, h⟩ := bsome h
        refine E_drawL (g := u0K) (n := 13) [(1, (fun v g w => RV g.m w qJ v)), (3, (fun v g w => ∃ y0 y1 y2 y3 : Value, v = .tuple #[y0, y1, y2, y3] ∧ y0 = .int .i64 (l9.1) ∧ y1 = .int .i64 (l9.2.1) ∧ y2 = .int .i64 (l9.2.2.1) ∧ y3 = .int .i64 (l9.2.2.2)))] [0, 1, 2, 3, 4, 5, 6, 7, 8, 9, 10, 11, 12] rfl mixed (by kernel_rfl) (⟨fun _ => up_rv, fun _ => (up_ex fun _ => (up_ex fun _ => (up_ex fun _ => (up_ex fun _ => (up_and (up_eq _) (up_and (up_eq _) (up_and (up_eq _) (up_and (up_eq _) (up_eq _))))))))), trivial⟩) ?_
        refine L_ld (c := s03) rfl rfl .plain (fun _ _ h => ⟨h.ch, fun b hb _ => h.below.block b hb⟩) e0D o09 ?_
        refine L_do (φ := fun v g w => RV g.m w qJ v) rfl rfl .plain (fun g w hd => D_call (g := g) (vs := [s03]) en13 (.cons rfl .nil) (wk13 (v0K.ext hd.1) g0D) fun g' w' v hs hr => ⟨g', hs, hr⟩) (fun eT hv => ?_)
        obtain ⟨_, _, _, rq24813⟩ := hv
        refine L_ld (c := t03) rfl rfl .plain (fun _ _ h => ⟨h.ch, fun b hb _ => h.below.block b hb⟩) h0D rfl ?_
        refine L_do (φ := fun v g w => ∃ y0 y1 y2 y3 : Value, v = .tuple #[y0, y1, y2, y3] ∧ y0 = .int .i64 (l9.1) ∧ y1 = .int .i64 (l9.2.1) ∧ y2 = .int .i64 (l9.2.2.1) ∧ y3 = .int .i64 (l9.2.2.2)) rfl rfl .plain (fun g w hd => D_call (g := g) (vs := [eT, t03]) en16 (.cons rfl (.cons rfl .nil)) (wk16 (word (A := fun g w => RV g.m w qJ eT) 1 rfl rfl (deps_of hd)) (x0K.ext hd.1) i0D) fun g' w' v hs hr => ⟨g', hs, hr⟩) (fun q0S hv => ?_)
        obtain ⟨_, _, _, _, _, _, _, rfl, rfl, rfl, rfl, rfl⟩ := hv
        refine L_p (.tuple #[.int .i64 (l9.1), .int .i64 (l9.2.1), .int .i64 (l9.2.2.1), .int .i64 (l9.2.2.2)]) rfl rfl (P_move rfl) ?_
        refine L_p (.int .i64 (l9.1)) rfl rfl (P_extract rfl rfl) ?_
        refine L_p (.int .i64 (l9.2.1)) rfl rfl (P_extract rfl rfl) ?_
        refine L_p (.int .i64 (l9.2.2.1)) rfl rfl (P_extract rfl rfl) ?_
        refine L_p (.int .i64 (l9.2.2.2)) rfl rfl (P_extract rfl rfl) ?_
        refine L_p (.int .i64 (l9.1)) rfl rfl (P_assign rfl) ?_
        refine L_p (.int .i64 (l9.2.1)) rfl rfl (P_assign rfl) ?_
        refine L_p (.int .i64 (l9.2.2.1)) rfl rfl (P_assign rfl) ?_
        refine L_p (.int .i64 (l9.2.2.2)) rfl rfl (P_assign rfl) ?_
        refine L_nil fun u03 r0S hall => ?_
        have hs := hall.1
        have hfr := hfr.ext hs
        have s0S := (word_all (A := fun g w => RV g.m w qJ eT) 1 rfl hall)
        clear hs hall
        refine EL_nil (thn_n ?_)
        obtain ⟨zG, hx, h⟩ := bsome h
        refine E_join (fun e w => ∃ (g : Gh) , Fr gI wI g w ∧ e 443 = .bool (zG)) (fun Q' hQ => ?_) (fun p0O t0S hR => ?_)
        ·replace h := hx
         clear hx
         refine E_region (EL_mw (.int .i64 (l9.2.2.2)) rfl rfl ?_)
         refine EL_in (.bool ((l9.2.2.2 != (0 : Int)))) rfl rfl rfl rfl ?_
         refine EL_mw (.bool ((l9.2.2.2 != (0 : Int)))) rfl rfl ?_
         rcases csome h with ⟨gG, h⟩ | ⟨gG, h⟩
         ·refine EL_s rfl rfl gG rfl rfl ?_
          refine EL_s rfl rfl gG rfl rfl ?_
          refine EL_s rfl rfl gG rfl rfl ?_
          refine EL_p (.bool true) (P_pick (b := (l9.2.2.2 != (0 : Int))) rfl (pick_t gG rfl)) rfl ?_
          refine EL_nil ?_
          obtain rfl := sinj h
          exact hQ _ _ ⟨u03, hfr, rfl⟩
         ·refine EL_y (.int .i64 (l9.1)) (P_move rfl) rfl rfl gG rfl ?_
          refine EL_y (.int .i64 (i6.1)) (P_move m03) rfl rfl gG rfl ?_
          refine EL_y (.bool ((decide (l9.1 > i6.1)))) (P_int rfl rfl rfl) rfl rfl gG rfl ?_
          refine EL_p (.bool ((decide (l9.1 > i6.1)))) (P_pick (b := (l9.2.2.2 != (0 : Int))) rfl (pick_f gG rfl)) rfl ?_
          refine EL_nil ?_
          obtain rfl := sinj h
          exact hQ _ _ ⟨u03, hfr, rfl⟩
        ·clear hx
         obtain ⟨y0K, hfr, nN⟩ := hR
         rcases csome h with ⟨mO, h⟩ | ⟨mO, h⟩
         ·refine E_cond_true (Eq.trans (show ev _ _ = .bool (zG) from nN) (congrArg Value.bool mO)) ?_
          refine E_seq (E_region (EL_at (.bool false) rfl rfl ?_))
          refine EL_nil (thn_n (E_ret (thn_r ?_)))
          obtain rfl := sinj h
          exact end1 rfl rfl (show _ = .bool false from rfl) ⟨_, hfr, rfl⟩
         ·refine E_cond_false (Eq.trans (show ev _ _ = .bool (zG) from nN) (congrArg Value.bool mO)) ?_
          exact E_skip (thn_n (uU () _ _ ⟨y0K, hfr⟩ h))
       ·refine E_cf lO rfl ?_
        exact E_skip (thn_n (uU () _ _ ⟨mN, hfr⟩ h))
      ·rintro _ q0O u0S ⟨z0K, hfr⟩ h
       refine E_seq (E_region ?_)
       obtain ⟨cN, j0D, h⟩ := bsome h
       refine EL_do .plain rfl (D_call (g := z0K) (vs := []) en12 .nil (wk12  j0D) fun v0S r0O x0S hs hr => ?_)
       have hfr := hfr.ext hs
       subst hr
       refine EL_at (.bool (cN)) rfl rfl ?_
       refine EL_nil (thn_n (E_ret ?_))
       obtain rfl := sinj h
       exact end1 rfl rfl (show _ = .bool (cN) from rfl) ⟨_, hfr, rfl⟩
end Go.Proofs.YtkmbkaoolacofaaGreat
