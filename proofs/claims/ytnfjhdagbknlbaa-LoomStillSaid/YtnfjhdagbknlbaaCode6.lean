import Derived.Test.YtnfjhdagbknlbaaCode5
set_option maxRecDepth 8000
set_option maxHeartbeats 4000000
namespace Go.Proofs.Ytnfjhdagbknlbaa
open Go.RowKit
def f8 (x0 : Hall) (x1 : Vector UInt8 7) (x2 : List UInt8) : Option (Bool) :=
 (f39 x0).bind fun y5 =>
 Option.bind (α := (List LoomOrder)) (
  lp (σ := (List LoomOrder) × Int) (fun q01 (m8, z4) =>
   jn (σ := Unit) (fun _ =>
    Option.bind (α := (List LoomOrder)) (
     (idx m8 z4).bind fun y180 =>
     (idx m8 z4).bind fun iH =>
     (idx m8 z4).bind fun jH =>
     (idx (x1).toList z4).bind fun cP =>
     (rem64 ((cP).toNat : Int) (40 : Int)).bind fun kH =>
     (idx m8 z4).bind fun r01 =>
     some ((List.set m8 (Int.toNat z4) ({ r01 with Late := (max64 (w64 ((y180).Early + (iH).Woven)) (w64 ((jH).Late - kH))) })))
     ) fun sF =>
    q01 (sF, (w64 (z4 + (1 : Int))))
    ) fun s01 =>
   bif (decide (z4 < ((m8).length : Int))) then
    s01 ()
   else
    some (m8)
   ) big (y5.2.1, (0 : Int))
  ) fun j3 =>
 (f15 (y5.1)).bind fun t01 =>
 (f16 j3).bind fun u01 =>
 (f23 t01 u01).bind fun z2 =>
 (f15 (y5.1)).bind fun v01 =>
 (f16 j3).bind fun x01 =>
 (f24 v01 x01).bind fun i3 =>
 (f15 (y5.1)).bind fun y01 =>
 (f16 j3).bind fun z01 =>
 (f17 y01 z01).bind fun u3 =>
 (f15 (y5.1)).bind fun a02 =>
 (f16 j3).bind fun b02 =>
 (f30 a02 b02).bind fun o0 =>
 jn (σ := Unit) (fun _ =>
  (f42 j3 (i3.1)).bind fun gD =>
  jn (σ := Unit) (fun _ =>
   jn (σ := Unit) (fun _ =>
    jn (σ := Unit) (fun _ =>
     jn (σ := Unit) (fun _ =>
      jn (σ := Unit) (fun _ =>
       (f42 j3 (z2.1)).bind fun v6 =>
       jn (σ := Unit) (fun _ =>
        jn (σ := Unit) (fun _ =>
         jn (σ := Unit) (fun _ =>
          Option.bind (α := Bool) (
           lp (σ := Bool × Int) (fun qV (iD, x6) =>
            jn (σ := Unit) (fun _ =>
             Option.bind (α := Bool) (
              lp (σ := Bool × Int) (fun rV (o7, y6) =>
               jn (σ := Unit) (fun _ =>
                Option.bind (α := Bool) (
                 bif o7 then
                  some (true)
                 else
                  (idx (z2.1) x6).bind fun iE =>
                  (idx (i3.1) y6).bind fun jE =>
                  some ((iE == jE))
                 ) fun jD =>
                rV (jD, (w64 (y6 + (1 : Int))))
                ) fun sV =>
               bif (decide (y6 < ((i3.1).length : Int))) then
                sV ()
               else
                some (o7)
               ) big (iD, (0 : Int))
              ) fun kD =>
             qV (kD, (w64 (x6 + (1 : Int))))
             ) fun tV =>
            bif (decide (x6 < ((z2.1).length : Int))) then
             tV ()
            else
             some (iD)
            ) big (false, (0 : Int))
           ) fun gA =>
          Option.bind (α := Bool) (
           bif gA then
            (f14).bind fun bH =>
            some (bH)
           else
            some (false)
           ) fun kE =>
          some (kE)
          ) fun uV =>
         lp (σ := Int) (fun vV a7 =>
          jn (σ := Unit) (fun _ =>
           jn (σ := Unit) (fun _ =>
            vV ((w64 (a7 + (1 : Int))))
            ) fun xV =>
           (f42 (v6.2.1) (([a7] : List Int))).bind fun tF =>
           (f15 (y5.1)).bind fun yV =>
           (f17 yV (tF.1)).bind fun lD =>
           bif (lD.2 != (0 : Int)) then
            some (false)
           else
            xV ()
           ) fun zV =>
          bif (decide (a7 < ((v6.2.1).length : Int))) then
           zV ()
          else
           uV ()
          ) big ((0 : Int))
         ) fun aW =>
        (f15 (y5.1)).bind fun bW =>
        (f16 (v6.2.1)).bind fun cW =>
        (f17 bW cW).bind fun mD =>
        bif (mD.2 != (9 : Int)) then
         some (false)
        else
         aW ()
        ) fun dW =>
       Option.bind (α := Bool) (
        bif (!v6.2.2) then
         some (true)
        else
         some ((((v6.2.1).length : Int) == (0 : Int)))
        ) fun oA =>
       bif oA then
        some (false)
       else
        dW ()
       ) fun eW =>
      bif (z2.2 != (0 : Int)) then
       Option.bind (α := Bool) (
        bif (z2.2 == (7 : Int)) then
         bif (((z2.1).length : Int) == (0 : Int)) then
          (f14).bind fun cH =>
          some (cH)
         else
          some (false)
        else
         some (false)
        ) fun lE =>
       some (lE)
      else
       eW ()
      ) fun dP =>
     bif (o0.2.2 == (0 : Int)) then
      Option.bind (α := Int) (
       lp (σ := Int × Int) (fun gW (n8, i5) =>
        jn (σ := Unit) (fun _ =>
         Option.bind (α := Int) (
          Option.bind (α := Bool) (
           (idx j3 i5).bind fun mA =>
           bif (decide ((mA).Early ≥ (o0.1).Low)) then
            (idx j3 i5).bind fun uF =>
            some ((decide ((uF).Late ≤ (o0.1).High)))
           else
            some (false)
           ) fun pA =>
          bif pA then
           (idx j3 i5).bind fun dH =>
           some ((w64 (n8 + (dH).Woven)))
          else
           some (n8)
          ) fun nD =>
         gW (nD, (w64 (i5 + (1 : Int))))
         ) fun iW =>
        bif (decide (i5 < ((j3).length : Int))) then
         iW ()
        else
         some (n8)
        ) big ((0 : Int), (0 : Int))
       ) fun e8 =>
      Option.bind (α := Bool) (
       bif (decide ((o0.1).Low < (0 : Int))) then
        some (true)
       else
        bif (decide ((o0.1).High > (300 : Int))) then
         some (true)
        else
         bif (decide ((o0.1).Low ≥ (o0.1).High)) then
          some (true)
         else
          bif (e8 != o0.2.1) then
           some (true)
          else
           some ((decide (o0.2.1 ≤ (w64 ((w64 ((o0.1).High - (o0.1).Low)) * (((y5.1).Widths).length : Int))))))
       ) fun qA =>
      bif qA then
       some (false)
      else
       dP ()
     else
      dP ()
     ) fun c02 =>
    lp (σ := Int) (fun d02 t5 =>
     jn (σ := Unit) (fun _ =>
      jn (σ := Unit) (fun _ =>
       d02 ((w64 (t5 + (1 : Int))))
       ) fun xR =>
      Option.bind (α := (List Int)) (
       lp (σ := (List Int) × Int) (fun e02 (i7, i6) =>
        jn (σ := Unit) (fun _ =>
         Option.bind (α := (List Int)) (
          (idx x2 t5).bind fun g02 =>
          (u8shr g02 (wu64 i6)).bind fun lH =>
          bif ((lH &&& (1 : UInt8)) == (1 : UInt8)) then
           (apnd 8 i7 (([i6] : List Int))).bind fun h02 =>
           some (h02)
          else
           some (i7)
          ) fun jC =>
         e02 (jC, (w64 (i6 + (1 : Int))))
         ) fun i02 =>
        Option.bind (α := Bool) (
         bif (decide (i6 < ((j3).length : Int))) then
          some ((decide (((i7).length : Int) < (w64 (((i3.1).length : Int) - (1 : Int))))))
         else
          some (false)
         ) fun iB =>
        bif iB then
         i02 ()
        else
         some (i7)
        ) big (([] : List Int), (0 : Int))
       ) fun mE =>
      (f42 j3 mE).bind fun eC =>
      Option.bind (α := Bool) (
       bif (decide (((i3.1).length : Int) > (0 : Int))) then
        some ((decide (((eC.1).length : Int) > (0 : Int))))
       else
        some (false)
       ) fun jB =>
      bif jB then
       (f15 (y5.1)).bind fun j02 =>
       (f17 j02 (eC.1)).bind fun zE =>
       bif (zE.2 != (9 : Int)) then
        some (false)
       else
        xR ()
      else
       xR ()
      ) fun k02 =>
     Option.bind (α := Bool) (
      bif (decide (t5 < ((x2).length : Int))) then
       some ((decide (t5 < (10 : Int))))
      else
       some (false)
      ) fun kB =>
     bif kB then
      k02 ()
     else
      c02 ()
     ) big ((0 : Int))
    ) fun l02 =>
   (f15 (y5.1)).bind fun m02 =>
   (f17 m02 (gD.1)).bind fun cF =>
   bif (cF.2 != (0 : Int)) then
    some (false)
   else
    l02 ()
   ) fun n02 =>
  bif (!gD.2.2) then
   some (false)
  else
   n02 ()
  ) fun o02 =>
 Option.bind (α := Bool) (
  bif (i3.2 != (0 : Int)) then
   some (true)
  else
   bif (u3.2 != (0 : Int)) then
    bif (u3.2 != (9 : Int)) then
     some (true)
    else
     bif (!((u3.2 == (0 : Int)) == (z2.2 == (7 : Int)))) then
      some (true)
     else
      bif (!((u3.2 == (0 : Int)) == (((i3.1).length : Int) == (0 : Int)))) then
       some (true)
      else
       bif (o0.2.2 == (0 : Int)) then
        some ((u3.2 == (0 : Int)))
       else
        some (false)
   else
    bif (!((u3.2 == (0 : Int)) == (z2.2 == (7 : Int)))) then
     some (true)
    else
     bif (!((u3.2 == (0 : Int)) == (((i3.1).length : Int) == (0 : Int)))) then
      some (true)
     else
      bif (o0.2.2 == (0 : Int)) then
       some ((u3.2 == (0 : Int)))
      else
       some (false)
  ) fun lB =>
 bif lB then
  some (false)
 else
  o02 ()
def f10 (x0 : Hall) (x1 : UInt8) (x2 : Vector UInt8 2) : Option (Bool) :=
 (f39 x0).bind fun y5 =>
 (rem64 ((x1).toNat : Int) (((y5.1).Widths).length : Int)).bind fun o8 =>
 (idx (x2).toList (0 : Int)).bind fun iQ =>
 (rem64 ((iQ).toNat : Int) (80 : Int)).bind fun m8 =>
 (idx (x2).toList (0 : Int)).bind fun jQ =>
 (rem64 ((jQ).toNat : Int) (80 : Int)).bind fun i8 =>
 (idx (x2).toList (1 : Int)).bind fun kQ =>
 (rem64 ((kQ).toNat : Int) (20 : Int)).bind fun k8 =>
 (f15 (y5.1)).bind fun uH =>
 (f16 (y5.2.1)).bind fun vH =>
 (f32 (y5.2.2)).bind fun y74 =>
 (f33 uH vH y74 ((⟨o8, (⟨m8, (w64 (i8 + k8))⟩ : Span)⟩ : LoomStop))).bind fun z3 =>
 (f15 (y5.1)).bind fun iF =>
 (f16 (y5.2.1)).bind fun nF =>
 (f32 (y5.2.2)).bind fun oF =>
 (f34 iF nF oF ((⟨o8, (⟨m8, (w64 (i8 + k8))⟩ : Span)⟩ : LoomStop))).bind fun o0 =>
 jn (σ := Unit) (fun _ =>
  jn (σ := Int × Int) (fun (o9, jB) =>
   (f15 (y5.1)).bind fun cD =>
   (f16 (y5.2.1)).bind fun eD =>
   (f32 ((o0.1 : List LoomRun))).bind fun gD =>
   (f40 cD eD gD).bind fun n8 =>
   Option.bind (α := Bool) (
    bif (jB == (((z3.1 : List Int)).length : Int)) then
     bif (o9 == (((o0.2.1 : List Int)).length : Int)) then
      (f44 (y5.1) (y5.2.1) ((o0.1 : List LoomRun))).bind fun iD =>
      bif iD then
       bif ((n8.2 == (0 : Int)) == ((((o0.2.1 : List Int)).length : Int) == (0 : Int))) then
        (f14).bind fun bG =>
        some (bG)
       else
        some (false)
      else
       some (false)
     else
      some (false)
    else
     some (false)
    ) fun jD =>
   some (jD)
   ) fun lQ =>
  lp (σ := Int × Int × Int) (fun mQ (i3, u3, j1) =>
   jn (σ := Unit) (fun _ =>
    jn (σ := Int × Int) (fun (tD, uD) =>
     mQ (tD, uD, (w64 (j1 + (1 : Int))))
     ) fun nQ =>
    (idx (y5.2.2) j1).bind fun j3 =>
    (idx ((o0.1 : List LoomRun)) j1).bind fun u0 =>
    jn (σ := Unit) (fun _ =>
     jn (σ := Int) (fun v8 =>
      jn (σ := Int) (fun kB =>
       jn (σ := Unit) (fun _ =>
        Option.bind (α := Bool) (
         bif ((((z3.1 : List Int)).length : Int) == (0 : Int)) then
          some ((!(decide (j3 = u0))))
         else
          some (false)
         ) fun zB =>
        bif zB then
         some (false)
        else
         nQ (kB, v8)
        ) fun qI =>
       bif (!(decide (j3 = u0))) then
        (f32 ((o0.1 : List LoomRun))).bind fun kD =>
        (idx kD j1).bind fun xE =>
        (idx kD j1).bind fun cG =>
        Option.bind (α := Bool) (
         (idx ((List.set kD (Int.toNat j1) ({ cG with From := (w64 ((xE).From - (1 : Int))) }))) j1).bind fun oQ =>
         (f43 oQ ((⟨o8, (⟨m8, (w64 (i8 + k8))⟩ : Span)⟩ : LoomStop)) (y5.2.1)).bind fun lD =>
         bif (!lD) then
          (f44 (y5.1) (y5.2.1) ((List.set kD (Int.toNat j1) ({ cG with From := (w64 ((xE).From - (1 : Int))) })))).bind fun rI =>
          some (rI)
         else
          some (false)
         ) fun aC =>
        bif aC then
         some (false)
        else
         qI ()
       else
        qI ()
       ) fun sI =>
      (idx (y5.2.1) (u0).Order).bind fun yE =>
      (idx (y5.2.1) (u0).Order).bind fun dG =>
      bif (decide ((w64 ((u0).From + (yE).Woven)) > (dG).Late)) then
       jn (σ := Unit) (fun _ =>
        sI ((w64 (i3 + (1 : Int))))
        ) fun pQ =>
       Option.bind (α := Bool) (
        bif (decide (i3 ≥ (((o0.2.1 : List Int)).length : Int))) then
         some (true)
        else
         (idx ((o0.2.1 : List Int)) i3).bind fun zE =>
         some ((zE != (u0).Order))
        ) fun cC =>
       bif cC then
        some (false)
       else
        pQ ()
      else
       sI (i3)
      ) fun tI =>
     (f43 j3 ((⟨o8, (⟨m8, (w64 (i8 + k8))⟩ : Span)⟩ : LoomStop)) (y5.2.1)).bind fun qQ =>
     bif qQ then
      jn (σ := Unit) (fun _ =>
       tI ((w64 (u3 + (1 : Int))))
       ) fun rQ =>
      Option.bind (α := Bool) (
       bif (decide (u3 ≥ (((z3.1 : List Int)).length : Int))) then
        some (true)
       else
        (idx ((z3.1 : List Int)) u3).bind fun cF =>
        some ((cF != (j3).Order))
       ) fun dC =>
      bif dC then
       some (false)
      else
       rQ ()
     else
      tI (u3)
     ) fun sQ =>
    Option.bind (α := Bool) (
     bif ((j3).Order != (u0).Order) then
      some (true)
     else
      bif ((j3).Loom != (u0).Loom) then
       some (true)
      else
       bif (decide ((u0).From < (j3).From)) then
        some (true)
       else
        bif (decide ((u0).From > (1000 : Int))) then
         some (true)
        else
         (f43 u0 ((⟨o8, (⟨m8, (w64 (i8 + k8))⟩ : Span)⟩ : LoomStop)) (y5.2.1)).bind fun mC =>
         bif mC then
          some (true)
         else
          bif ((j3).Loom != ((⟨o8, (⟨m8, (w64 (i8 + k8))⟩ : Span)⟩ : LoomStop)).Loom) then
           some ((!(decide (j3 = u0))))
          else
           some (false)
     ) fun eC =>
    bif eC then
     some (false)
    else
     sQ ()
    ) fun tQ =>
   bif (decide (j1 < ((y5.2.2).length : Int))) then
    tQ ()
   else
    lQ (i3, u3)
   ) big ((0 : Int), (0 : Int), (0 : Int))
  ) fun yU =>
 Option.bind (α := Bool) (
  bif (z3.2 != (0 : Int)) then
   some (true)
  else
   bif (o0.2.2 != (0 : Int)) then
    some (true)
   else
    some (((((o0.1 : List LoomRun)).length : Int) != ((y5.2.2).length : Int)))
  ) fun kC =>
 bif kC then
  some (false)
 else
  yU ()
theorem wk10 {gI : Gh} {wI : World} {x0 : Hall} {x1 : UInt8} {x2 : Vector UInt8 2} {up0 : Value} (rp0 : RV gI.m wI x0 up0) {up2 : Value} (rp2 : RV gI.m wI x2 up2) {r : Bool} (h : f10 x0 x1 x2 = some r) : Fn Try.prog 10 #[up0, .int .u8 (UInt8.toNat (x1)), up2] gI wI (fun _ _ v => v = .bool (r)) := by
 unfold f10 at h
 refine fn_of_E Try.func10 rfl (Nat.le_of_ble_eq_true rfl) fun g0 hm hfr => ?_
 have rp0 : RV g0.m wI x0 up0 := hm ▸ rp0
 have rp2 : RV g0.m wI x2 up2 := hm ▸ rp2
 show E _ 264 none _ _ _ _ _
 refine Zf (Za (Ze .plain rfl (D_box (g := g0) rfl rp0 fun g1 w1 p1 hs q1 => ?_)))
 have hfr := hfr.ext hs
 have rp2 := rp2.ext hs
 refine Ze .plain rfl (D_box (g := g1) rfl rp2 fun g2 w2 p2 hs q2 => ?_)
 have hfr := hfr.ext hs
 have q1 := q1.ext hs
 refine Zg (.bool false) rfl rfl ?_
 refine Zb (Zd (Zf (Za (Ze .plain rfl (D_load (g := g2) Try.isAgg71 Try.sizeOf71 rfl q1 fun v3 r3 => ?_)))))
 obtain ⟨y5, hy5, h⟩ := bsome h
 refine Ze .plain rfl (Zp (g := g2) (vs := [v3]) en39 (.cons rfl .nil) (wk39 r3 hy5) fun g4 w4_ v4 hs hr => ?_)
 have hfr := hfr.ext hs
 have q2 := q2.ext hs
 obtain ⟨uJ, vJ, i5, rfl, hG, vD, e8⟩ := hr
 refine Zn (.tuple #[uJ, vJ, i5]) rfl rfl ?_
 refine EL_p uJ (Zi rfl rfl) rfl ?_
 refine EL_p vJ (Zi rfl rfl) rfl ?_
 refine EL_p i5 (Zi rfl rfl) rfl ?_
 refine Ze .plain rfl (D_allocOc (g := g4) 2007 (⟨[], 0⟩ : LoomMill) Try.zeroValue24 (fun m w => ⟨_, (rep_two rep_nil rep_int), rfl⟩) fun g6 w6 p6 hs b6 cb => ?_)
 have hfr := hfr.stp hs
 have q2 := q2.stp hs
 have hG := hG.stp hs
 have vD := vD.stp hs
 have e8 := e8.stp hs
 have k06 : OSF 2007 60700 0 g6 w6 3 24 ([] : List Int) p6 := cb.osf (by rfl)
 clear cb
 refine Ze .plain rfl (D_allocOc (g := g6) 2008 ([] : List LoomOrder) Try.zeroValue25 (fun m w => ⟨_, rep_nil, rfl⟩) fun g7 w7 p7 hs b7 cb => ?_)
 have hfr := hfr.stp hs
 have q2 := q2.stp hs
 have hG := hG.stp hs
 have vD := vD.stp hs
 have e8 := e8.stp hs
 have b6 := b6.stp hs rfl
 have l06 : OSF 2008 60800 0 g7 w7 82 25 ([] : List LoomOrder) p7 := cb.osf (by rfl)
 clear cb
 refine Ze .plain rfl (D_storeOc (g := g7) (v := uJ) Try.sizeOf24 rfl b6 rfl hG fun g8 w8 hs b8 cb => ?_)
 clear cb
 have hfr := hfr.stp hs
 have q2 := q2.stp hs
 have vD := vD.stp hs
 have e8 := e8.stp hs
 have b7 := b7.stp hs rfl
 refine Ze .plain rfl (D_storeOc (g := g8) (v := vJ) Try.sizeOf25 rfl b7 rfl vD fun g9 w9 hs b9 cb => ?_)
 clear cb
 have hfr := hfr.stp hs
 have q2 := q2.stp hs
 have e8 := e8.stp hs
 have b8 := b8.stp hs rfl
 obtain ⟨gp9, hs, qp9⟩ := OB.pub b9
 have hfr := hfr.stp hs
 have q2 := q2.stp hs
 have e8 := e8.stp hs
 have b8 := b8.stp hs rfl
 refine Zg i5 rfl rfl ?_
 refine Zb (Zd (Zf (L_loadO (x := .tmp 33) part_LoomMill_0.1 Try.isAgg22 Try.sizeOf22 b8 fun v11 r11 e01 => ?_)))
 obtain ⟨o8, g01, h⟩ := bsome h
 obtain ⟨iQ, zU, h⟩ := bsome h
 have q14 := PT_idxA q2 zU
 refine Zs (x := .tmp 37) Try.isAgg5 Try.sizeOf5 q14 fun v15 r15 h01 => ?_
 obtain rfl := RV_u8.1 r15
 obtain ⟨m8, i01, h⟩ := bsome h
 obtain ⟨jQ, aV, h⟩ := bsome h
 have q18 := PT_idxA q2 aV
 refine Zs (x := .tmp 41) Try.isAgg5 Try.sizeOf5 q18 fun v19 r19 j01 => ?_
 obtain rfl := RV_u8.1 r19
 obtain ⟨i8, k01, h⟩ := bsome h
 obtain ⟨kQ, bV, h⟩ := bsome h
 have q22 := PT_idxA q2 bV
 refine Zs (x := .tmp 45) Try.isAgg5 Try.sizeOf5 q22 fun v23 r23 l01 => ?_
 obtain rfl := RV_u8.1 r23
 obtain ⟨k8, m01, h⟩ := bsome h
 have cV : RV gp9.m w9 (⟨m8, (w64 (i8 + k8))⟩ : Span) (.agg (setCh [[.int .i64 0], [.int .i64 0]] [(0, .int .i64 (m8)), (1, .int .i64 ((w64 (i8 + k8))))]).flatten.toArray) := RV_build rfl (rep_pair (rfl) (rep_last (rfl)))
 generalize n01 : (Value.agg (setCh [[.int .i64 0], [.int .i64 0]] [(0, .int .i64 (m8)), (1, .int .i64 ((w64 (i8 + k8))))]).flatten.toArray) = uQ at cV
 have vQ : RV gp9.m _ (⟨o8, (⟨m8, (w64 (i8 + k8))⟩ : Span)⟩ : LoomStop) (.agg (setCh [[.int .i64 0], [.int .i64 0, .int .i64 0]] [(0, .int .i64 (o8)), (1, uQ)]).flatten.toArray) := RV_build rfl (rep_pair (rfl) (rep_last (RV.cells cV)))
 generalize o01 : (Value.agg (setCh [[.int .i64 0], [.int .i64 0, .int .i64 0]] [(0, .int .i64 (o8)), (1, uQ)]).flatten.toArray) = v26 at vQ
 refine E_drawL (g := gp9) (n := 22) [(21, (fun v g w => OB 2010 g w 54 (⟨0, ⟨0, 0⟩⟩ : LoomStop) v))] [0, 1, 2, 3, 4, 5, 6, 7, 8, 9, 10, 11, 12, 13, 14, 15, 16, 17, 18, 19, 20, 21] rfl mixed (by kernel_rfl) (⟨fun _ => up_ob, trivial⟩) ?_
 refine L_p (.int .u8 (UInt8.toNat (x1))) rfl rfl (Zk rfl) ?_
 refine L_p (.int .i64 (((x1).toNat : Int))) rfl rfl (P_u8int Try.underlying5 Try.underlying3 rfl) ?_
 refine L_p (fPtr p6 0) rfl rfl (Zc at_24_0 rfl (OB.ptr b8)) ?_
 refine L_ld (c := v11) rfl rfl .plain (fun _ _ h => ⟨h.ch, fun b hb _ => h.below.block b hb⟩) e01 rfl ?_
 refine L_p (.int .i64 (((y5.1).Widths).length : Int)) rfl rfl (P_len Try.underlying22 rfl r11) ?_
 refine L_p (.int .i64 (o8)) rfl rfl (P_int rfl rfl (congrArg (Option.map (Value.int .i64)) g01)) ?_
 refine L_p (fPtr p2 (((0 : Int) : Int).toNat * 1)) rfl rfl (P_indexAddrA (α := UInt8) Try.underlying88 Try.sizeOf5 rfl (PT.ptr q2) rfl zU) ?_
 refine L_ld (c := .int .u8 (UInt8.toNat (iQ))) rfl rfl .plain (fun _ _ h => h.ch) h01 rfl ?_
 refine L_p (.int .i64 (((iQ).toNat : Int))) rfl rfl (P_u8int Try.underlying5 Try.underlying3 rfl) ?_
 refine L_p (.int .i64 (m8)) rfl rfl (P_int rfl rfl (congrArg (Option.map (Value.int .i64)) i01)) ?_
 refine L_p (fPtr p2 (((0 : Int) : Int).toNat * 1)) rfl rfl (P_indexAddrA (α := UInt8) Try.underlying88 Try.sizeOf5 rfl (PT.ptr q2) rfl aV) ?_
 refine L_ld (c := .int .u8 (UInt8.toNat (jQ))) rfl rfl .plain (fun _ _ h => h.ch) j01 rfl ?_
 refine L_p (.int .i64 (((jQ).toNat : Int))) rfl rfl (P_u8int Try.underlying5 Try.underlying3 rfl) ?_
 refine L_p (.int .i64 (i8)) rfl rfl (P_int rfl rfl (congrArg (Option.map (Value.int .i64)) k01)) ?_
 refine L_p (fPtr p2 (((1 : Int) : Int).toNat * 1)) rfl rfl (P_indexAddrA (α := UInt8) Try.underlying88 Try.sizeOf5 rfl (PT.ptr q2) rfl bV) ?_
 refine L_ld (c := .int .u8 (UInt8.toNat (kQ))) rfl rfl .plain (fun _ _ h => h.ch) l01 rfl ?_
 refine L_p (.int .i64 (((kQ).toNat : Int))) rfl rfl (P_u8int Try.underlying5 Try.underlying3 rfl) ?_
 refine L_p (.int .i64 (k8)) rfl rfl (P_int rfl rfl (congrArg (Option.map (Value.int .i64)) m01)) ?_
 refine L_p (.int .i64 ((w64 (i8 + k8)))) rfl rfl (P_int rfl rfl rfl) ?_
 refine L_p uQ rfl rfl (n01 ▸ P_build (vs := [(0, .int .i64 (m8)), (1, .int .i64 ((w64 (i8 + k8))))]) [[.int .i64 0], [.int .i64 0]] lay_48 rfl rfl (.cons rfl (.cons rfl .nil)) ⟨⟨_, rfl, rfl⟩, ⟨⟨_, rfl, rfl⟩, trivial⟩⟩) ?_
 refine L_p v26 rfl rfl (o01 ▸ P_build (vs := [(0, .int .i64 (o8)), (1, uQ)]) [[.int .i64 0], [.int .i64 0, .int .i64 0]] lay_54 rfl rfl (.cons rfl (.cons rfl .nil)) ⟨⟨_, rfl, rfl⟩, ⟨⟨_, rfl, cells_size cV⟩, trivial⟩⟩) ?_
 refine L_do (φ := fun v g w => OB 2010 g w 54 (⟨0, ⟨0, 0⟩⟩ : LoomStop) v) rfl rfl .plain (fun g w hd => D_allocX (g := g) 2010 (⟨0, ⟨0, 0⟩⟩ : LoomStop) Try.zeroValue54 (fun m w => ⟨_, (rep_two rep_int (rep_two rep_int rep_int)), rfl⟩) fun g' w' v hs b => ⟨g', hs, b⟩) (fun z4 hv => ?_)
 clear hv
 refine L_nil fun g28 w28 hall => ?_
 have hs := hall.1
 have hfr := hfr.ext hs
 have e8 := e8.ext hs
 have b8 := b8.ext hs
 have qp9 := qp9.ext hs
 have vQ := vQ.ext hs
 have b65 := (word_all (A := fun g w => OB 2010 g w 54 (⟨0, ⟨0, 0⟩⟩ : LoomStop) z4) 21 rfl hall)
 clear hs hall
 refine Ze .plain rfl (D_storeOc (g := g28) (v := v26) Try.sizeOf54 rfl b65 rfl vQ fun g66 w66 hs b66 cb => ?_)
 clear cb
 have hfr := hfr.stp hs
 have e8 := e8.stp hs
 have b8 := b8.stp hs rfl
 have qp9 := qp9.stp hs
 obtain ⟨gp66, hs, qp66⟩ := OB.pub b66
 have hfr := hfr.stp hs
 have e8 := e8.stp hs
 have b8 := b8.stp hs rfl
 have qp9 := qp9.stp hs
 refine Zb (Zd (Zf (Za (EL_p ((.func (.func 43) #[] #[z4, p7])) (P_makeFunc (capf_0_2 (show ev _ _ = z4 from rfl) (show ev _ _ = p7 from rfl))) rfl ?_))))
 refine Zg ((.func (.func 43) #[] #[z4, p7])) rfl rfl ?_
 refine Zb (Zd (Zf (L_loadO0 (x := .tmp 7) Try.isAgg24 Try.sizeOf24 b8 fun v67 r67 p01 => ?_)))
 obtain ⟨uH, q01, h⟩ := bsome h
 refine Zs (x := .tmp 8) Try.isAgg25 Try.sizeOf25 qp9 fun v70 r70 r01 => ?_
 obtain ⟨vH, s01, h⟩ := bsome h
 obtain ⟨y74, t01, h⟩ := bsome h
 refine Zs (x := .tmp 10) Try.isAgg54 Try.sizeOf54 qp66 fun v75 r75 u01 => ?_
 obtain ⟨z3, v01, h⟩ := bsome h
 refine E_drawL (g := gp66) (n := 13) [(1, (fun v g w => RV g.m w uH v)), (3, (fun v g w => RV g.m w vH v)), (5, (fun v g w => RV g.m w y74 v)), (7, (fun v g w => ∃ y0 y1 : Value, v = .tuple #[y0, y1] ∧ RV g.m w (z3.1 : List Int) y0 ∧ y1 = .int .i64 (z3.2)))] [0, 1, 2, 3, 4, 5, 6, 7, 8, 9, 10, 11, 12] rfl mixed (by kernel_rfl) (⟨fun _ => up_rv, fun _ => up_rv, fun _ => up_rv, fun _ => (up_ex fun _ => (up_ex fun _ => (up_and (up_eq _) (up_and up_rv (up_eq _))))), trivial⟩) ?_
 refine L_ld (c := v67) rfl rfl .plain (fun _ _ h => ⟨h.ch, fun b hb _ => h.below.block b hb⟩) p01 rfl ?_
 refine L_do (φ := fun v g w => RV g.m w uH v) rfl rfl .plain (fun g w hd => Zp (g := g) (vs := [v67]) en15 (.cons rfl .nil) (wk15 (r67.ext hd.1) q01) fun g' w' v hs hr => ⟨g', hs, hr⟩) (fun dV hv => ?_)
 obtain ⟨_, _, _, rq68⟩ := hv
 refine L_ld (c := v70) rfl rfl .plain (fun _ _ h => h.ch) r01 rfl ?_
 refine L_do (φ := fun v g w => RV g.m w vH v) rfl rfl .plain (fun g w hd => Zp (g := g) (vs := [v70]) en16 (.cons rfl .nil) (wk16 (r70.ext hd.1) s01) fun g' w' v hs hr => ⟨g', hs, hr⟩) (fun eV hv => ?_)
 obtain ⟨_, _, _, rq71⟩ := hv
 refine L_p i5 rfl rfl (Zk rfl) ?_
 refine L_do (φ := fun v g w => RV g.m w y74 v) rfl rfl .plain (fun g w hd => Zp (g := g) (vs := [i5]) en32 (.cons rfl .nil) (wk32 (e8.ext hd.1) t01) fun g' w' v hs hr => ⟨g', hs, hr⟩) (fun gV hv => ?_)
 obtain ⟨_, _, _, rq73⟩ := hv
 refine L_ld (c := v75) rfl rfl .plain (fun _ _ h => h.ch) u01 rfl ?_
 refine L_do (φ := fun v g w => ∃ y0 y1 : Value, v = .tuple #[y0, y1] ∧ RV g.m w (z3.1 : List Int) y0 ∧ y1 = .int .i64 (z3.2)) rfl rfl .plain (fun g w hd => Zp (g := g) (vs := [dV, eV, gV, v75]) en33 (.cons rfl (.cons rfl (.cons rfl (.cons rfl .nil)))) (wk33 (word (A := fun g w => RV g.m w uH dV) 1 rfl rfl (deps_of hd)) (word (A := fun g w => RV g.m w vH eV) 3 rfl rfl (deps_of hd)) (word (A := fun g w => RV g.m w y74 gV) 5 rfl rfl (deps_of hd)) (r75.ext hd.1) v01) fun g' w' v hs hr => ⟨g', hs, hr⟩) (fun v76 hv => ?_)
 obtain ⟨_, _, _, o3, _, rfl, t02, rfl⟩ := hv
 refine L_p (.tuple #[o3, .int .i64 (z3.2)]) rfl rfl (Zk rfl) ?_
 refine L_p o3 rfl rfl (Zi rfl rfl) ?_
 refine L_p (.int .i64 (z3.2)) rfl rfl (Zi rfl rfl) ?_
 refine L_p o3 rfl rfl (P_assign rfl) ?_
 refine L_p (.int .i64 (z3.2)) rfl rfl (P_assign rfl) ?_
 refine L_nil fun g78 w78 hall => ?_
 have hs := hall.1
 have hfr := hfr.ext hs
 have e8 := e8.ext hs
 have b8 := b8.ext hs
 have qp9 := qp9.ext hs
 have qp66 := qp66.ext hs
 have m06 := (word_all (A := fun g w => RV g.m w uH dV) 1 rfl hall)
 have n06 := (word_all (A := fun g w => RV g.m w vH eV) 3 rfl hall)
 have o06 := (word_all (A := fun g w => RV g.m w y74 gV) 5 rfl hall)
 have p06 := (tup2_0 (word_all (A := fun g w => ∃ y0 y1 : Value, Value.tuple #[o3, .int .i64 (z3.2)] = .tuple #[y0, y1] ∧ RV g.m w (z3.1 : List Int) y0 ∧ y1 = .int .i64 (z3.2)) 7 rfl hall))
 have iG := (tup2_0 (word_all (A := fun g w => ∃ y0 y1 : Value, Value.tuple #[o3, .int .i64 (z3.2)] = .tuple #[y0, y1] ∧ RV g.m w (z3.1 : List Int) y0 ∧ y1 = .int .i64 (z3.2)) 7 rfl hall))
 clear hs hall
 refine Zb (Zd (Zf (L_loadO0 (x := .tmp 7) Try.isAgg24 Try.sizeOf24 b8 fun iV x01 lX => ?_)))
 obtain ⟨iF, mX, h⟩ := bsome h
 refine Zs (x := .tmp 8) Try.isAgg25 Try.sizeOf25 qp9 fun jV y01 nX => ?_
 obtain ⟨nF, oX, h⟩ := bsome h
 obtain ⟨oF, pX, h⟩ := bsome h
 refine Zs (x := .tmp 10) Try.isAgg54 Try.sizeOf54 qp66 fun kV z01 qX => ?_
 obtain ⟨o0, rX, h⟩ := bsome h
 refine E_drawL (g := g78) (n := 15) [(1, (fun v g w => RV g.m w iF v)), (3, (fun v g w => RV g.m w nF v)), (5, (fun v g w => RV g.m w oF v)), (7, (fun v g w => ∃ y0 y1 y2 : Value, v = .tuple #[y0, y1, y2] ∧ RV g.m w (o0.1 : List LoomRun) y0 ∧ RV g.m w (o0.2.1 : List Int) y1 ∧ y2 = .int .i64 (o0.2.2)))] [0, 1, 2, 3, 4, 5, 6, 7, 8, 9, 10, 11, 12, 13, 14] rfl mixed (by kernel_rfl) (⟨fun _ => up_rv, fun _ => up_rv, fun _ => up_rv, fun _ => (up_ex fun _ => (up_ex fun _ => (up_ex fun _ => (up_and (up_eq _) (up_and up_rv (up_and up_rv (up_eq _))))))), trivial⟩) ?_
 refine L_ld (c := iV) rfl rfl .plain (fun _ _ h => ⟨h.ch, fun b hb _ => h.below.block b hb⟩) lX rfl ?_
 refine L_do (φ := fun v g w => RV g.m w iF v) rfl rfl .plain (fun g w hd => Zp (g := g) (vs := [iV]) en15 (.cons rfl .nil) (wk15 (x01.ext hd.1) mX) fun g' w' v hs hr => ⟨g', hs, hr⟩) (fun xJ hv => ?_)
 obtain ⟨_, _, _, rq132⟩ := hv
 refine L_ld (c := jV) rfl rfl .plain (fun _ _ h => h.ch) nX rfl ?_
 refine L_do (φ := fun v g w => RV g.m w nF v) rfl rfl .plain (fun g w hd => Zp (g := g) (vs := [jV]) en16 (.cons rfl .nil) (wk16 (y01.ext hd.1) oX) fun g' w' v hs hr => ⟨g', hs, hr⟩) (fun yJ hv => ?_)
 obtain ⟨_, _, _, rq135⟩ := hv
 refine L_p i5 rfl rfl (Zk rfl) ?_
 refine L_do (φ := fun v g w => RV g.m w oF v) rfl rfl .plain (fun g w hd => Zp (g := g) (vs := [i5]) en32 (.cons rfl .nil) (wk32 (e8.ext hd.1) pX) fun g' w' v hs hr => ⟨g', hs, hr⟩) (fun zJ hv => ?_)
 obtain ⟨_, _, _, rq137⟩ := hv
 refine L_ld (c := kV) rfl rfl .plain (fun _ _ h => h.ch) qX rfl ?_
 refine L_do (φ := fun v g w => ∃ y0 y1 y2 : Value, v = .tuple #[y0, y1, y2] ∧ RV g.m w (o0.1 : List LoomRun) y0 ∧ RV g.m w (o0.2.1 : List Int) y1 ∧ y2 = .int .i64 (o0.2.2)) rfl rfl .plain (fun g w hd => Zp (g := g) (vs := [xJ, yJ, zJ, kV]) en34 (.cons rfl (.cons rfl (.cons rfl (.cons rfl .nil)))) (wk34 (word (A := fun g w => RV g.m w iF xJ) 1 rfl rfl (deps_of hd)) (word (A := fun g w => RV g.m w nF yJ) 3 rfl rfl (deps_of hd)) (word (A := fun g w => RV g.m w oF zJ) 5 rfl rfl (deps_of hd)) (z01.ext hd.1) rX) fun g' w' v hs hr => ⟨g', hs, hr⟩) (fun q06 hv => ?_)
 obtain ⟨_, _, _, z2, d3, _, rfl, e02, g02, rfl⟩ := hv
 refine L_p (.tuple #[z2, d3, .int .i64 (o0.2.2)]) rfl rfl (Zk rfl) ?_
 refine L_p z2 rfl rfl (Zi rfl rfl) ?_
 refine L_p d3 rfl rfl (Zi rfl rfl) ?_
 refine L_p (.int .i64 (o0.2.2)) rfl rfl (Zi rfl rfl) ?_
 refine L_p z2 rfl rfl (P_assign rfl) ?_
 refine L_p d3 rfl rfl (P_assign rfl) ?_
 refine L_p (.int .i64 (o0.2.2)) rfl rfl (P_assign rfl) ?_
 refine L_nil fun aK r06 hall => ?_
 have hs := hall.1
 have hfr := hfr.ext hs
 have e8 := e8.ext hs
 have b8 := b8.ext hs
 have qp9 := qp9.ext hs
 have qp66 := qp66.ext hs
 have iG := iG.ext hs
 have s06 := (word_all (A := fun g w => RV g.m w iF xJ) 1 rfl hall)
 have t06 := (word_all (A := fun g w => RV g.m w nF yJ) 3 rfl hall)
 have u06 := (word_all (A := fun g w => RV g.m w oF zJ) 5 rfl hall)
 have v06 := (tup3_0 (word_all (A := fun g w => ∃ y0 y1 y2 : Value, Value.tuple #[z2, d3, .int .i64 (o0.2.2)] = .tuple #[y0, y1, y2] ∧ RV g.m w (o0.1 : List LoomRun) y0 ∧ RV g.m w (o0.2.1 : List Int) y1 ∧ y2 = .int .i64 (o0.2.2)) 7 rfl hall))
 have x06 := (tup3_1 (word_all (A := fun g w => ∃ y0 y1 y2 : Value, Value.tuple #[z2, d3, .int .i64 (o0.2.2)] = .tuple #[y0, y1, y2] ∧ RV g.m w (o0.1 : List LoomRun) y0 ∧ RV g.m w (o0.2.1 : List Int) y1 ∧ y2 = .int .i64 (o0.2.2)) 7 rfl hall))
 have uI := (tup3_0 (word_all (A := fun g w => ∃ y0 y1 y2 : Value, Value.tuple #[z2, d3, .int .i64 (o0.2.2)] = .tuple #[y0, y1, y2] ∧ RV g.m w (o0.1 : List LoomRun) y0 ∧ RV g.m w (o0.2.1 : List Int) y1 ∧ y2 = .int .i64 (o0.2.2)) 7 rfl hall))
 have bK := (tup3_1 (word_all (A := fun g w => ∃ y0 y1 y2 : Value, Value.tuple #[z2, d3, .int .i64 (o0.2.2)] = .tuple #[y0, y1, y2] ∧ RV g.m w (o0.1 : List LoomRun) y0 ∧ RV g.m w (o0.2.1 : List Int) y1 ∧ y2 = .int .i64 (o0.2.2)) 7 rfl hall))
 clear hs hall
 refine Zb (Zd (Zq h (fun (s : Unit) e w => ∃ (g : Gh) , Fr gI wI g w ∧ e 7 = p6 ∧ OB 2007 g w 24 (y5.1 : LoomMill) p6 ∧ e 8 = p7 ∧ PT g.m w (y5.2.1 : List LoomOrder) p7 ∧ e 9 = i5 ∧ RV g.m w (y5.2.2 : List LoomRun) i5 ∧ e 10 = z4 ∧ PT g.m w ((⟨o8, (⟨m8, (w64 (i8 + k8))⟩ : Span)⟩ : LoomStop) : LoomStop) z4 ∧ e 11 = (.func (.func 43) #[] #[z4, p7]) ∧ e 12 = o3 ∧ RV g.m w ((z3.1 : List Int) : List Int) o3 ∧ e 14 = z2 ∧ RV g.m w ((o0.1 : List LoomRun) : List LoomRun) z2 ∧ e 15 = d3 ∧ RV g.m w ((o0.2.1 : List Int) : List Int) d3) (fun X216 yU sX h => ?_) ?_))
 ·obtain ⟨kC, hx, h⟩ := bsome h
  refine E_join (fun e w => ∃ (g : Gh) , Fr gI wI g w ∧ e 7 = p6 ∧ OB 2007 g w 24 (y5.1 : LoomMill) p6 ∧ e 8 = p7 ∧ PT g.m w (y5.2.1 : List LoomOrder) p7 ∧ e 9 = i5 ∧ RV g.m w (y5.2.2 : List LoomRun) i5 ∧ e 10 = z4 ∧ PT g.m w ((⟨o8, (⟨m8, (w64 (i8 + k8))⟩ : Span)⟩ : LoomStop) : LoomStop) z4 ∧ e 11 = (.func (.func 43) #[] #[z4, p7]) ∧ e 12 = o3 ∧ RV g.m w ((z3.1 : List Int) : List Int) o3 ∧ e 14 = z2 ∧ RV g.m w ((o0.1 : List LoomRun) : List LoomRun) z2 ∧ e 15 = d3 ∧ RV g.m w ((o0.2.1 : List Int) : List Int) d3 ∧ e 88 = .bool (kC)) (fun Q' hQ => ?_) (fun r03 y06 hR => ?_)
  ·replace h := hx
   clear hx
   refine Za (Zn (.int .i64 (z3.2)) rfl rfl ?_)
   refine EL_in (.bool ((z3.2 != (0 : Int)))) rfl rfl rfl rfl ?_
   refine Zn (.bool ((z3.2 != (0 : Int)))) rfl rfl ?_
   rcases Zt h with ⟨qC, h⟩ | ⟨qC, h⟩
   ·refine EL_s rfl rfl qC rfl rfl ?_
    refine EL_s rfl rfl qC rfl rfl ?_
    refine EL_p (.bool true) (Zl (b := (z3.2 != (0 : Int))) rfl (pick_t qC rfl)) rfl ?_
    refine EL_dead 7 rfl ?_
    refine Zb ?_
    obtain rfl := sinj h
    exact hQ _ _ ⟨aK, hfr, rfl, b8, rfl, qp9, rfl, e8, rfl, qp66, rfl, rfl, iG, rfl, uI, rfl, bK, rfl⟩
   ·refine EL_y (.int .i64 (o0.2.2)) (Zk rfl) rfl rfl qC rfl ?_
    refine EL_y (.bool ((o0.2.2 != (0 : Int)))) (P_int rfl rfl rfl) rfl rfl qC rfl ?_
    refine EL_p (.bool ((o0.2.2 != (0 : Int)))) (Zl (b := (z3.2 != (0 : Int))) rfl (pick_f qC rfl)) rfl ?_
    refine Zn (.bool ((o0.2.2 != (0 : Int)))) rfl rfl ?_
    rcases Zt h with ⟨yB, h⟩ | ⟨yB, h⟩
    ·refine EL_s rfl rfl yB rfl rfl ?_
     iterate 4 refine EL_s rfl rfl yB rfl rfl ?_
     refine EL_p (.bool true) (Zl (b := (o0.2.2 != (0 : Int))) rfl (pick_t yB rfl)) rfl ?_
     refine Zb ?_
     obtain rfl := sinj h
     exact hQ _ _ ⟨aK, hfr, rfl, b8, rfl, qp9, rfl, e8, rfl, qp66, rfl, rfl, iG, rfl, uI, rfl, bK, rfl⟩
    ·refine EL_y z2 (Zk rfl) rfl rfl yB rfl ?_
     refine EL_y (.int .i64 (((o0.1 : List LoomRun)).length : Int)) (P_len Try.underlying31 rfl uI) rfl rfl yB rfl ?_
     refine EL_y i5 (Zk rfl) rfl rfl yB rfl ?_
     refine EL_y (.int .i64 ((y5.2.2).length : Int)) (P_len Try.underlying31 rfl e8) rfl rfl yB rfl ?_
     refine EL_y (.bool (((((o0.1 : List LoomRun)).length : Int) != ((y5.2.2).length : Int)))) (P_int rfl rfl rfl) rfl rfl yB rfl ?_
     refine EL_p (.bool (((((o0.1 : List LoomRun)).length : Int) != ((y5.2.2).length : Int)))) (Zl (b := (o0.2.2 != (0 : Int))) rfl (pick_f yB rfl)) rfl ?_
     refine Zb ?_
     obtain rfl := sinj h
     exact hQ _ _ ⟨aK, hfr, rfl, b8, rfl, qp9, rfl, e8, rfl, qp66, rfl, rfl, iG, rfl, uI, rfl, bK, rfl⟩
  ·clear hx
   obtain ⟨a02, hfr, lV, mV, nV, oV, pV, qV, oR, pR, qR, rR, tR, uR, vR, xR, yR, xH⟩ := hR
   rcases Zt h with ⟨vI, h⟩ | ⟨vI, h⟩
   ·refine E_cond_true (Eq.trans (show ev _ _ = .bool (kC) from xH) (congrArg Value.bool vI)) ?_
    refine Zf (Za (Zg (.bool false) rfl rfl ?_))
    refine Zb (Zd (E_ret (thn_r ?_)))
    obtain rfl := sinj h
    exact end1 rfl rfl (show _ = .bool false from rfl) ⟨_, hfr, rfl⟩
   ·refine E_cond_false (Eq.trans (show ev _ _ = .bool (kC) from xH) (congrArg Value.bool vI)) ?_
    exact Zu (Zd (sX () _ _ ⟨a02, hfr, lV, mV, nV, oV, pV, qV, oR, pR, qR, rR, tR, uR, vR, xR, yR⟩ h))
 ·rintro _ s03 z06 ⟨b02, hfr, rV, sV, tV, uV, vV, xV, zR, aS, bS, cS, dS, eS, gS, iS, jS⟩ h
  refine Zf (Za (Zg (.int .i64 (0)) rfl rfl ?_))
  refine Zg (.int .i64 (0)) rfl rfl ?_
  refine Zb (Zd (Zq h (fun (s : Int × Int) e w => ∃ (g : Gh) , Fr gI wI g w ∧ e 7 = p6 ∧ OB 2007 g w 24 (y5.1 : LoomMill) p6 ∧ e 8 = p7 ∧ PT g.m w (y5.2.1 : List LoomOrder) p7 ∧ e 12 = o3 ∧ RV g.m w ((z3.1 : List Int) : List Int) o3 ∧ e 14 = z2 ∧ RV g.m w ((o0.1 : List LoomRun) : List LoomRun) z2 ∧ e 15 = d3 ∧ RV g.m w ((o0.2.1 : List Int) : List Int) d3 ∧ e 17 = .int .i64 (s.1) ∧ e 18 = .int .i64 (s.2)) (fun X3492 lQ yV h => ?_) ?_))
  ·refine Zf (Za (Zg (.int .i64 (0)) rfl rfl ?_))
   refine Zb (Zd (Zr ?_))
   refine E_lp h (fun (s : Int × Int × Int) e w => ∃ (g : Gh) , Fr gI wI g w ∧ e 7 = p6 ∧ OB 2007 g w 24 (y5.1 : LoomMill) p6 ∧ e 8 = p7 ∧ PT g.m w (y5.2.1 : List LoomOrder) p7 ∧ e 9 = i5 ∧ RV g.m w (y5.2.2 : List LoomRun) i5 ∧ e 10 = z4 ∧ PT g.m w ((⟨o8, (⟨m8, (w64 (i8 + k8))⟩ : Span)⟩ : LoomStop) : LoomStop) z4 ∧ e 11 = (.func (.func 43) #[] #[z4, p7]) ∧ e 12 = o3 ∧ RV g.m w ((z3.1 : List Int) : List Int) o3 ∧ e 14 = z2 ∧ RV g.m w ((o0.1 : List LoomRun) : List LoomRun) z2 ∧ e 15 = d3 ∧ RV g.m w ((o0.2.1 : List Int) : List Int) d3 ∧ e 17 = .int .i64 (s.1) ∧ e 18 = .int .i64 (s.2.1) ∧ e 19 = .int .i64 (s.2.2)) ⟨b02, hfr, rV, sV, tV, uV, vV, xV, zR, aS, bS, cS, dS, eS, gS, iS, jS, rfl, rfl, rfl⟩ (fun X3493 mQ zV => ?_)
   rintro ⟨i3, u3, j1⟩ v02 t03 ⟨xQ, hfr, yH, zH, aI, bI, cI, dI, cK, dK, eK, jG, kG, lG, mG, nG, oG, pG, qG, rG⟩ h
   refine Zq h (fun (s : Unit) e w => ∃ (g : Gh) , Fr gI wI g w ∧ e 7 = p6 ∧ OB 2007 g w 24 (y5.1 : LoomMill) p6 ∧ e 8 = p7 ∧ PT g.m w (y5.2.1 : List LoomOrder) p7 ∧ e 9 = i5 ∧ RV g.m w (y5.2.2 : List LoomRun) i5 ∧ e 10 = z4 ∧ PT g.m w ((⟨o8, (⟨m8, (w64 (i8 + k8))⟩ : Span)⟩ : LoomStop) : LoomStop) z4 ∧ e 11 = (.func (.func 43) #[] #[z4, p7]) ∧ e 12 = o3 ∧ RV g.m w ((z3.1 : List Int) : List Int) o3 ∧ e 14 = z2 ∧ RV g.m w ((o0.1 : List LoomRun) : List LoomRun) z2 ∧ e 15 = d3 ∧ RV g.m w ((o0.2.1 : List Int) : List Int) d3 ∧ e 17 = .int .i64 (i3) ∧ e 18 = .int .i64 (u3) ∧ e 19 = .int .i64 (j1)) (fun X3496 tQ aW h => ?_) ?_
   ·refine Zf (Za (Zo rG rfl ?_))
    refine Zo cI rfl ?_
    refine EL_p (.int .i64 ((y5.2.2).length : Int)) (P_len Try.underlying31 rfl dI) rfl ?_
    refine EL_in (.bool ((decide (j1 < ((y5.2.2).length : Int))))) rfl rfl rfl rfl ?_
    refine Zb (Zd ?_)
    rcases Zt h with ⟨sG, h⟩ | ⟨sG, h⟩
    ·refine E_ct sG rfl ?_
     exact Zu (Zd (aW () _ _ ⟨xQ, hfr, yH, zH, aI, bI, cI, dI, cK, dK, eK, jG, kG, lG, mG, nG, oG, pG, qG, rG⟩ h))
    ·refine E_cf sG rfl ?_
     refine E_exit ?_
     refine thn_e ?_
     refine thn_e ?_
     refine blk_hit ?_
     exact Zd (yV (i3, u3) _ _ ⟨xQ, hfr, yH, zH, aI, bI, jG, kG, lG, mG, nG, oG, pG, qG⟩ h)
   ·rintro _ x02 tX ⟨yQ, hfr, lB, o7, mB, m7, yA, i7, t9, l5, u9, qA, a7, y9, t5, rA, c7, sA, uA, x8⟩ h
    refine Zq h (fun (s : Int × Int) e w => ∃ (g : Gh) , Fr gI wI g w ∧ e 7 = p6 ∧ OB 2007 g w 24 (y5.1 : LoomMill) p6 ∧ e 8 = p7 ∧ PT g.m w (y5.2.1 : List LoomOrder) p7 ∧ e 9 = i5 ∧ RV g.m w (y5.2.2 : List LoomRun) i5 ∧ e 10 = z4 ∧ PT g.m w ((⟨o8, (⟨m8, (w64 (i8 + k8))⟩ : Span)⟩ : LoomStop) : LoomStop) z4 ∧ e 11 = (.func (.func 43) #[] #[z4, p7]) ∧ e 12 = o3 ∧ RV g.m w ((z3.1 : List Int) : List Int) o3 ∧ e 14 = z2 ∧ RV g.m w ((o0.1 : List LoomRun) : List LoomRun) z2 ∧ e 15 = d3 ∧ RV g.m w ((o0.2.1 : List Int) : List Int) d3 ∧ e 17 = .int .i64 (s.1) ∧ e 18 = .int .i64 (s.2) ∧ e 19 = .int .i64 (j1)) (fun X5129 nQ bW h => ?_) ?_
    ·refine Zr ?_
     refine Zf ?_
     obtain ⟨j3, kJ, h⟩ := bsome h
     have uX := PT_idx i7 kJ
     refine Zs (x := .tmp 97) Try.isAgg76 Try.sizeOf76 uX fun zQ xI cW => ?_
     obtain ⟨u0, lJ, h⟩ := bsome h
     have vX := PT_idx t5 lJ
     refine Zs (x := .tmp 101) Try.isAgg76 Try.sizeOf76 vX fun aR dF dW => ?_
     refine E_drawTL (g := yQ) (n := 10) [4, 5, 6, 7] [(8, (fun v g w => OB 2020 g w 76 (⟨0, 0, 0⟩ : LoomRun) v)), (9, (fun v g w => OB 2021 g w 76 (⟨0, 0, 0⟩ : LoomRun) v))] [0, 1, 2, 3, 4, 5, 6, 7, 8, 9] rfl mixed (by kernel_rfl) (⟨fun _ => up_ob, fun _ => up_ob, trivial⟩) rfl ?_
     refine L_p i5 rfl rfl (Zk yA) ?_
     refine L_p (.int .i64 (j1)) rfl rfl (Zk x8) ?_
     refine L_p (ePtr i5 j1 3) rfl rfl (Zh (α := LoomRun) Try.underlying31 Try.sizeOf76 rfl i7 rfl kJ) ?_
     refine L_ld (c := zQ) rfl rfl .plain (fun _ _ h => h.ch) cW rfl ?_
     refine L_purL (c := z2) rfl rfl .plain (Zk y9) ?_
     refine L_purL (c := .int .i64 (j1)) rfl rfl .plain (Zk x8) ?_
     refine L_purL (c := ePtr z2 j1 3) rfl rfl .plain (Zh (α := LoomRun) Try.underlying31 Try.sizeOf76 rfl t5 rfl lJ) ?_
     refine L_ldL (c := aR) rfl rfl .plain (fun _ _ h => h.ch) rfl dW rfl ?_
     refine L_do (φ := fun v g w => OB 2020 g w 76 (⟨0, 0, 0⟩ : LoomRun) v) rfl rfl .plain (fun g w hd => D_allocX (g := g) 2020 (⟨0, 0, 0⟩ : LoomRun) Try.zeroValue76 (fun m w => ⟨_, (rep_two rep_int (rep_two rep_int rep_int)), rfl⟩) fun g' w' v hs b => ⟨g', hs, b⟩) (fun y6 hv => ?_)
     clear hv
     refine L_do (φ := fun v g w => OB 2021 g w 76 (⟨0, 0, 0⟩ : LoomRun) v) rfl rfl .plain (fun g w hd => D_allocX (g := g) 2021 (⟨0, 0, 0⟩ : LoomRun) Try.zeroValue76 (fun m w => ⟨_, (rep_two rep_int (rep_two rep_int rep_int)), rfl⟩) fun g' w' v hs b => ⟨g', hs, b⟩) (fun q5 hv => ?_)
     clear hv
     refine L_nil fun bR xX hall => ?_
     have hs := hall.1
     have hlt : Lt yQ.m tX bR xX := hs.ch
     have hfr := hfr.ext hs
     have o7 := o7.ext hs
     have m7 := m7.ext hs
     have i7 := i7.ext hs
     have l5 := l5.ext hs
     have a7 := a7.ext hs
     have t5 := t5.ext hs
     have c7 := c7.ext hs
     have xI := xI.ext hs
     have dF := dF.ext hs
     have b5158 := (word_all (A := fun g w => OB 2020 g w 76 (⟨0, 0, 0⟩ : LoomRun) y6) 8 rfl hall)
     have b5159 := (word_all (A := fun g w => OB 2021 g w 76 (⟨0, 0, 0⟩ : LoomRun) q5) 9 rfl hall)
     clear hs hall
     refine TL_do hlt.w .plain rfl (D_storeOc (g := bR) (v := zQ) Try.sizeOf76 rfl b5158 rfl xI fun yX u03 hs b5160 cb => ?_)
     clear cb
     have hfr := hfr.stp hs
     have hlt := hlt.stp hs
     have o7 := o7.stp hs rfl
     have m7 := m7.stp hs
     have i7 := i7.stp hs
     have l5 := l5.stp hs
     have a7 := a7.stp hs
     have t5 := t5.stp hs
     have c7 := c7.stp hs
     have dF := dF.stp hs
     have b5159 := b5159.stp hs rfl
     refine TL_do hlt.w .plain rfl (D_storeOc (g := yX) (v := aR) Try.sizeOf76 rfl b5159 rfl dF fun iA v03 hs b5161 cb => ?_)
     clear cb
     have hfr := hfr.stp hs
     have hlt := hlt.stp hs
     have o7 := o7.stp hs rfl
     have m7 := m7.stp hs
     have i7 := i7.stp hs
     have l5 := l5.stp hs
     have a7 := a7.stp hs
     have t5 := t5.stp hs
     have c7 := c7.stp hs
     have b5160 := b5160.stp hs rfl
     refine TL_nil hlt.w ?_
     clear hlt
     refine Zd (Zq h (fun (s : Unit) e w => ∃ (g : Gh) , Fr gI wI g w ∧ e 7 = p6 ∧ OB 2007 g w 24 (y5.1 : LoomMill) p6 ∧ e 8 = p7 ∧ PT g.m w (y5.2.1 : List LoomOrder) p7 ∧ e 9 = i5 ∧ RV g.m w (y5.2.2 : List LoomRun) i5 ∧ e 10 = z4 ∧ PT g.m w ((⟨o8, (⟨m8, (w64 (i8 + k8))⟩ : Span)⟩ : LoomStop) : LoomStop) z4 ∧ e 11 = (.func (.func 43) #[] #[z4, p7]) ∧ e 12 = o3 ∧ RV g.m w ((z3.1 : List Int) : List Int) o3 ∧ e 14 = z2 ∧ RV g.m w ((o0.1 : List LoomRun) : List LoomRun) z2 ∧ e 15 = d3 ∧ RV g.m w ((o0.2.1 : List Int) : List Int) d3 ∧ e 17 = .int .i64 (i3) ∧ e 18 = .int .i64 (u3) ∧ e 19 = .int .i64 (j1) ∧ e 20 = y6 ∧ OB 2020 g w 76 (j3 : LoomRun) y6 ∧ e 21 = q5 ∧ OB 2021 g w 76 (u0 : LoomRun) q5) (fun X5222 sQ eW h => ?_) ?_)
     ·obtain ⟨eC, hx, h⟩ := bsome h
      refine E_join (fun e w => ∃ (g : Gh) , Fr gI wI g w ∧ e 7 = p6 ∧ OB 2007 g w 24 (y5.1 : LoomMill) p6 ∧ e 8 = p7 ∧ PT g.m w (y5.2.1 : List LoomOrder) p7 ∧ e 9 = i5 ∧ RV g.m w (y5.2.2 : List LoomRun) i5 ∧ e 10 = z4 ∧ PT g.m w ((⟨o8, (⟨m8, (w64 (i8 + k8))⟩ : Span)⟩ : LoomStop) : LoomStop) z4 ∧ e 11 = (.func (.func 43) #[] #[z4, p7]) ∧ e 12 = o3 ∧ RV g.m w ((z3.1 : List Int) : List Int) o3 ∧ e 14 = z2 ∧ RV g.m w ((o0.1 : List LoomRun) : List LoomRun) z2 ∧ e 15 = d3 ∧ RV g.m w ((o0.2.1 : List Int) : List Int) d3 ∧ e 17 = .int .i64 (i3) ∧ e 18 = .int .i64 (u3) ∧ e 19 = .int .i64 (j1) ∧ e 20 = y6 ∧ OB 2020 g w 76 (j3 : LoomRun) y6 ∧ e 21 = q5 ∧ OB 2021 g w 76 (u0 : LoomRun) q5 ∧ e 143 = .bool (eC)) (fun Q' hQ => ?_) (fun y02 x03 hR => ?_)
      ·replace h := hx
       clear hx
       refine Za (EL_p (fPtr y6 0) (Zc at_76_0 rfl (OB.ptr b5160)) rfl ?_)
       refine Ze .plain rfl (D_loadF (g := iA) part_LoomRun_0.1 Try.isAgg3 Try.sizeOf3 rfl b5160 fun y03 zX => ?_)
       obtain rfl := Zj.1 zX
       refine EL_p (fPtr q5 0) (Zc at_76_0 rfl (OB.ptr b5161)) rfl ?_
       refine Ze .plain rfl (D_loadF (g := iA) part_LoomRun_0.1 Try.isAgg3 Try.sizeOf3 rfl b5161 fun z03 aY => ?_)
       obtain rfl := Zj.1 aY
       refine EL_in (.bool (((j3).Order != (u0).Order))) rfl rfl rfl rfl ?_
       refine Zn (.bool (((j3).Order != (u0).Order))) rfl rfl ?_
       rcases Zt h with ⟨nA, h⟩ | ⟨nA, h⟩
       ·refine EL_s rfl rfl nA rfl rfl ?_
        iterate 4 refine EL_s rfl rfl nA rfl rfl ?_
        refine EL_p (.bool true) (Zl (b := ((j3).Order != (u0).Order)) rfl (pick_t nA rfl)) rfl ?_
        refine EL_dead 29 rfl ?_
        refine Zb ?_
        obtain rfl := sinj h
        exact hQ _ _ ⟨iA, hfr, lB, o7, mB, m7, yA, i7, t9, l5, u9, qA, a7, y9, t5, rA, c7, sA, uA, x8, rfl, b5160, rfl, b5161, rfl⟩
       ·refine EL_y (fPtr y6 1) (Zc at_76_1 rfl (OB.ptr b5160)) rfl rfl nA rfl ?_
        refine Ze (.yes2 rfl rfl nA) rfl (D_loadF (g := iA) part_LoomRun_1.1 Try.isAgg3 Try.sizeOf3 rfl b5160 fun a04 bY => ?_)
        obtain rfl := Zj.1 bY
        refine EL_y (fPtr q5 1) (Zc at_76_1 rfl (OB.ptr b5161)) rfl rfl nA rfl ?_
        refine Ze (.yes2 rfl rfl nA) rfl (D_loadF (g := iA) part_LoomRun_1.1 Try.isAgg3 Try.sizeOf3 rfl b5161 fun b04 cY => ?_)
        obtain rfl := Zj.1 cY
        refine EL_y (.bool (((j3).Loom != (u0).Loom))) (P_int rfl rfl rfl) rfl rfl nA rfl ?_
        refine EL_p (.bool (((j3).Loom != (u0).Loom))) (Zl (b := ((j3).Order != (u0).Order)) rfl (pick_f nA rfl)) rfl ?_
        refine Zn (.bool (((j3).Loom != (u0).Loom))) rfl rfl ?_
        rcases Zt h with ⟨oA, h⟩ | ⟨oA, h⟩
        ·refine EL_s rfl rfl oA rfl rfl ?_
         iterate 4 refine EL_s rfl rfl oA rfl rfl ?_
         refine EL_p (.bool true) (Zl (b := ((j3).Loom != (u0).Loom)) rfl (pick_t oA rfl)) rfl ?_
         refine EL_dead 22 rfl ?_
         refine Zb ?_
         obtain rfl := sinj h
         exact hQ _ _ ⟨iA, hfr, lB, o7, mB, m7, yA, i7, t9, l5, u9, qA, a7, y9, t5, rA, c7, sA, uA, x8, rfl, b5160, rfl, b5161, rfl⟩
        ·refine EL_y (fPtr q5 2) (Zc at_76_2 rfl (OB.ptr b5161)) rfl rfl oA rfl ?_
         refine Ze (.yes2 rfl rfl oA) rfl (D_loadF (g := iA) part_LoomRun_2.1 Try.isAgg3 Try.sizeOf3 rfl b5161 fun c04 dY => ?_)
         obtain rfl := Zj.1 dY
         refine EL_y (fPtr y6 2) (Zc at_76_2 rfl (OB.ptr b5160)) rfl rfl oA rfl ?_
         refine Ze (.yes2 rfl rfl oA) rfl (D_loadF (g := iA) part_LoomRun_2.1 Try.isAgg3 Try.sizeOf3 rfl b5160 fun d04 eY => ?_)
         obtain rfl := Zj.1 eY
         refine EL_y (.bool ((decide ((u0).From < (j3).From)))) (P_int rfl rfl rfl) rfl rfl oA rfl ?_
         refine EL_p (.bool ((decide ((u0).From < (j3).From)))) (Zl (b := ((j3).Loom != (u0).Loom)) rfl (pick_f oA rfl)) rfl ?_
         refine Zn (.bool ((decide ((u0).From < (j3).From)))) rfl rfl ?_
         rcases Zt h with ⟨zA, h⟩ | ⟨zA, h⟩
         ·refine EL_s rfl rfl zA rfl rfl ?_
          refine EL_s rfl rfl zA rfl rfl ?_
          refine EL_s rfl rfl zA rfl rfl ?_
          refine EL_p (.bool true) (Zl (b := (decide ((u0).From < (j3).From))) rfl (pick_t zA rfl)) rfl ?_
          refine EL_dead 17 rfl ?_
          refine Zb ?_
          obtain rfl := sinj h
          exact hQ _ _ ⟨iA, hfr, lB, o7, mB, m7, yA, i7, t9, l5, u9, qA, a7, y9, t5, rA, c7, sA, uA, x8, rfl, b5160, rfl, b5161, rfl⟩
         ·refine EL_y (fPtr q5 2) (Zc at_76_2 rfl (OB.ptr b5161)) rfl rfl zA rfl ?_
          refine Ze (.yes2 rfl rfl zA) rfl (D_loadF (g := iA) part_LoomRun_2.1 Try.isAgg3 Try.sizeOf3 rfl b5161 fun e04 gY => ?_)
          obtain rfl := Zj.1 gY
          refine EL_y (.bool ((decide ((u0).From > (1000 : Int))))) (P_int rfl rfl rfl) rfl rfl zA rfl ?_
          refine EL_p (.bool ((decide ((u0).From > (1000 : Int))))) (Zl (b := (decide ((u0).From < (j3).From))) rfl (pick_f zA rfl)) rfl ?_
          refine Zn (.bool ((decide ((u0).From > (1000 : Int))))) rfl rfl ?_
          rcases Zt h with ⟨aB, h⟩ | ⟨aB, h⟩
          ·refine EL_s rfl rfl aB rfl rfl ?_
           refine EL_s rfl rfl aB rfl rfl ?_
           refine EL_s rfl rfl aB rfl rfl ?_
           refine EL_p (.bool true) (Zl (b := (decide ((u0).From > (1000 : Int)))) rfl (pick_t aB rfl)) rfl ?_
           refine EL_dead 12 rfl ?_
           refine Zb ?_
           obtain rfl := sinj h
           exact hQ _ _ ⟨iA, hfr, lB, o7, mB, m7, yA, i7, t9, l5, u9, qA, a7, y9, t5, rA, c7, sA, uA, x8, rfl, b5160, rfl, b5161, rfl⟩
          ·refine EL_y ((.func (.func 43) #[] #[z4, p7])) (Zk u9) rfl rfl aB rfl ?_
           refine Ze (.yes2 rfl rfl aB) rfl (D_loadO (g := iA) Try.isAgg76 Try.sizeOf76 rfl b5161 fun iY jY => ?_)
           obtain ⟨mC, gW, h⟩ := bsome h
           refine Ze (.yes2 rfl rfl aB) rfl (D_callv (g := iA) (vs := [iY]) (first := #[]) (caps := #[z4, p7]) rfl en43 (.cons rfl .nil) (wk43 jY l5 m7 gW) fun rC g04 h04 hs hr => ?_)
           have hfr := hfr.ext hs
           have o7 := o7.ext hs
           have m7 := m7.ext hs
           have i7 := i7.ext hs
           have l5 := l5.ext hs
           have a7 := a7.ext hs
           have t5 := t5.ext hs
           have c7 := c7.ext hs
           have b5160 := b5160.ext hs
           have b5161 := b5161.ext hs
           subst hr
           refine EL_p (.bool (mC)) (Zl (b := (decide ((u0).From > (1000 : Int)))) rfl (pick_f aB rfl)) rfl ?_
           refine Zn (.bool (mC)) rfl rfl ?_
           rcases Zt h with ⟨q8, h⟩ | ⟨q8, h⟩
           ·refine EL_s rfl rfl q8 rfl rfl ?_
            iterate 5 refine EL_s rfl rfl q8 rfl rfl ?_
            refine EL_dead 3 rfl ?_
            refine EL_s rfl rfl q8 rfl rfl ?_
            refine EL_p (.bool true) (Zl (b := mC) rfl (pick_t q8 rfl)) rfl ?_
            refine Zb ?_
            obtain rfl := sinj h
            exact hQ _ _ ⟨rC, hfr, lB, o7, mB, m7, yA, i7, t9, l5, u9, qA, a7, y9, t5, rA, c7, sA, uA, x8, rfl, b5160, rfl, b5161, rfl⟩
           ·refine EL_y (fPtr y6 1) (Zc at_76_1 rfl (OB.ptr b5160)) rfl rfl q8 rfl ?_
            refine Ze (.yes2 rfl rfl q8) rfl (D_loadF (g := rC) part_LoomRun_1.1 Try.isAgg3 Try.sizeOf3 rfl b5160 fun i04 kY => ?_)
            obtain rfl := Zj.1 kY
            refine EL_y (fPtr z4 0) (Zc at_54_0 t9 (PT.ptr l5)) rfl rfl q8 rfl ?_
            have mY := Zm (part_LoomStop_0).1 l5
            refine Ze (.yes2 rfl rfl q8) rfl (D_load (g := rC) Try.isAgg3 Try.sizeOf3 rfl mY fun j04 nY => ?_)
            obtain rfl := Zj.1 nY
            refine EL_y (.bool (((j3).Loom != ((⟨o8, (⟨m8, (w64 (i8 + k8))⟩ : Span)⟩ : LoomStop)).Loom))) (P_int rfl rfl rfl) rfl rfl q8 rfl ?_
            refine EL_y (.bool (((j3).Loom != ((⟨o8, (⟨m8, (w64 (i8 + k8))⟩ : Span)⟩ : LoomStop)).Loom))) (Zk rfl) rfl rfl q8 rfl ?_
            rcases Zt h with ⟨bB, h⟩ | ⟨bB, h⟩
            ·refine Ze (.yes2 rfl rfl bB) rfl (D_loadO (g := rC) Try.isAgg76 Try.sizeOf76 rfl b5160 fun k04 oY => ?_)
             refine Ze (.yes2 rfl rfl bB) rfl (D_loadO (g := rC) Try.isAgg76 Try.sizeOf76 rfl b5161 fun l04 pY => ?_)
             refine EL_y (.bool ((!(decide (j3 = u0))))) (P_sne seq_76 rfl eg_76 rfl rfl oY pY) rfl rfl bB rfl ?_
             refine EL_y (.bool ((!(decide (j3 = u0))))) (Zl (b := ((j3).Loom != ((⟨o8, (⟨m8, (w64 (i8 + k8))⟩ : Span)⟩ : LoomStop)).Loom)) rfl (pick_t bB rfl)) rfl rfl q8 rfl ?_
             refine EL_p (.bool ((!(decide (j3 = u0))))) (Zl (b := mC) rfl (pick_f q8 rfl)) rfl ?_
             refine Zb ?_
             obtain rfl := sinj h
             exact hQ _ _ ⟨rC, hfr, lB, o7, mB, m7, yA, i7, t9, l5, u9, qA, a7, y9, t5, rA, c7, sA, uA, x8, rfl, b5160, rfl, b5161, rfl⟩
            ·refine EL_s rfl rfl bB rfl rfl ?_
             refine EL_s rfl rfl bB rfl rfl ?_
             refine EL_s rfl rfl bB rfl rfl ?_
             refine EL_y (.bool false) (Zl (b := ((j3).Loom != ((⟨o8, (⟨m8, (w64 (i8 + k8))⟩ : Span)⟩ : LoomStop)).Loom)) rfl (pick_f bB rfl)) rfl rfl q8 rfl ?_
             refine EL_p (.bool false) (Zl (b := mC) rfl (pick_f q8 rfl)) rfl ?_
             refine Zb ?_
             obtain rfl := sinj h
             exact hQ _ _ ⟨rC, hfr, lB, o7, mB, m7, yA, i7, t9, l5, u9, qA, a7, y9, t5, rA, c7, sA, uA, x8, rfl, b5160, rfl, b5161, rfl⟩
      ·clear hx
       obtain ⟨qY, hfr, kS, lS, mS, nS, oS, pS, lK, mK, nK, oK, pK, qK, sK, tK, uK, vK, xK, yK, zK, aL, bL, cL, vF⟩ := hR
       rcases Zt h with ⟨tG, h⟩ | ⟨tG, h⟩
       ·refine E_cond_true (Eq.trans (show ev _ _ = .bool (eC) from vF) (congrArg Value.bool tG)) ?_
        refine Zf (Za (Zg (.bool false) rfl rfl ?_))
        refine Zb (Zd (E_ret (thn_r ?_)))
        refine blk_r ?_
        refine thn_r ?_
        refine thn_r ?_
        refine blk_r ?_
        refine thn_r ?_
        obtain rfl := sinj h
        exact end1 rfl rfl (show _ = .bool false from rfl) ⟨_, hfr, rfl⟩
       ·refine E_cond_false (Eq.trans (show ev _ _ = .bool (eC) from vF) (congrArg Value.bool tG)) ?_
        exact Zu (Zd (eW () _ _ ⟨qY, hfr, kS, lS, mS, nS, oS, pS, lK, mK, nK, oK, pK, qK, sK, tK, uK, vK, xK, yK, zK, aL, bL, cL⟩ h))
     ·rintro _ z02 m04 ⟨cR, hfr, pF, jA, qF, n9, rF, kA, xD, r8, tC, nB, u7, yD, y8, zD, a9, aE, oB, bE, iC, l8, cE, d9⟩ h
      refine Zq h (fun (s : Int) e w => ∃ (g : Gh) , Fr gI wI g w ∧ e 7 = p6 ∧ OB 2007 g w 24 (y5.1 : LoomMill) p6 ∧ e 8 = p7 ∧ PT g.m w (y5.2.1 : List LoomOrder) p7 ∧ e 9 = i5 ∧ RV g.m w (y5.2.2 : List LoomRun) i5 ∧ e 10 = z4 ∧ PT g.m w ((⟨o8, (⟨m8, (w64 (i8 + k8))⟩ : Span)⟩ : LoomStop) : LoomStop) z4 ∧ e 11 = (.func (.func 43) #[] #[z4, p7]) ∧ e 12 = o3 ∧ RV g.m w ((z3.1 : List Int) : List Int) o3 ∧ e 14 = z2 ∧ RV g.m w ((o0.1 : List LoomRun) : List LoomRun) z2 ∧ e 15 = d3 ∧ RV g.m w ((o0.2.1 : List Int) : List Int) d3 ∧ e 17 = .int .i64 (i3) ∧ e 18 = .int .i64 (s) ∧ e 19 = .int .i64 (j1) ∧ e 20 = y6 ∧ OB 2020 g w 76 (j3 : LoomRun) y6 ∧ e 21 = q5 ∧ OB 2021 g w 76 (u0 : LoomRun) q5) (fun X5558 tI mJ h => ?_) ?_
      ·refine Zf (Za (Zo tC rfl ?_))
       refine Ze .plain rfl (D_loadO (g := cR) Try.isAgg76 Try.sizeOf76 iC l8 fun uY vY => ?_)
       obtain ⟨qQ, iW, h⟩ := bsome h
       refine Ze .plain rfl (D_callv (g := cR) (vs := [uY]) (first := #[]) (caps := #[z4, p7]) rfl en43 (.cons rfl .nil) (wk43 vY r8 n9 iW) fun yI n04 o04 hs hr => ?_)
       have hfr := hfr.ext hs
       have jA := jA.ext hs
       have n9 := n9.ext hs
       have kA := kA.ext hs
       have r8 := r8.ext hs
       have u7 := u7.ext hs
       have y8 := y8.ext hs
       have a9 := a9.ext hs
       have l8 := l8.ext hs
       have d9 := d9.ext hs
       subst hr
       refine Zb (Zd ?_)
       rcases Zt h with ⟨uG, h⟩ | ⟨uG, h⟩
       ·refine E_ct uG rfl ?_
        refine Zq h (fun (s : Unit) e w => ∃ (g : Gh) , Fr gI wI g w ∧ e 7 = p6 ∧ OB 2007 g w 24 (y5.1 : LoomMill) p6 ∧ e 8 = p7 ∧ PT g.m w (y5.2.1 : List LoomOrder) p7 ∧ e 9 = i5 ∧ RV g.m w (y5.2.2 : List LoomRun) i5 ∧ e 10 = z4 ∧ PT g.m w ((⟨o8, (⟨m8, (w64 (i8 + k8))⟩ : Span)⟩ : LoomStop) : LoomStop) z4 ∧ e 11 = (.func (.func 43) #[] #[z4, p7]) ∧ e 12 = o3 ∧ RV g.m w ((z3.1 : List Int) : List Int) o3 ∧ e 14 = z2 ∧ RV g.m w ((o0.1 : List LoomRun) : List LoomRun) z2 ∧ e 15 = d3 ∧ RV g.m w ((o0.2.1 : List Int) : List Int) d3 ∧ e 17 = .int .i64 (i3) ∧ e 18 = .int .i64 (u3) ∧ e 19 = .int .i64 (j1) ∧ e 20 = y6 ∧ OB 2020 g w 76 (j3 : LoomRun) y6 ∧ e 21 = q5 ∧ OB 2021 g w 76 (u0 : LoomRun) q5) (fun X5697 rQ jW h => ?_) ?_
        ·obtain ⟨dC, hx, h⟩ := bsome h
         refine E_join (fun e w => ∃ (g : Gh) , Fr gI wI g w ∧ e 7 = p6 ∧ OB 2007 g w 24 (y5.1 : LoomMill) p6 ∧ e 8 = p7 ∧ PT g.m w (y5.2.1 : List LoomOrder) p7 ∧ e 9 = i5 ∧ RV g.m w (y5.2.2 : List LoomRun) i5 ∧ e 10 = z4 ∧ PT g.m w ((⟨o8, (⟨m8, (w64 (i8 + k8))⟩ : Span)⟩ : LoomStop) : LoomStop) z4 ∧ e 11 = (.func (.func 43) #[] #[z4, p7]) ∧ e 12 = o3 ∧ RV g.m w ((z3.1 : List Int) : List Int) o3 ∧ e 14 = z2 ∧ RV g.m w ((o0.1 : List LoomRun) : List LoomRun) z2 ∧ e 15 = d3 ∧ RV g.m w ((o0.2.1 : List Int) : List Int) d3 ∧ e 17 = .int .i64 (i3) ∧ e 18 = .int .i64 (u3) ∧ e 19 = .int .i64 (j1) ∧ e 20 = y6 ∧ OB 2020 g w 76 (j3 : LoomRun) y6 ∧ e 21 = q5 ∧ OB 2021 g w 76 (u0 : LoomRun) q5 ∧ e 159 = .bool (dC)) (fun Q' hQ => ?_) (fun a03 p04 hR => ?_)
         ·replace h := hx
          clear hx
          rcases Zt h with ⟨z9, h⟩ | ⟨z9, h⟩
          ·refine E_drawL (g := yI) (n := 13) [] [0, 1, 2, 3, 4, 5, 6, 7, 8, 9, 10, 11, 12] rfl mixed (by kernel_rfl) trivial ?_
           refine L_p (.int .i64 (u3)) rfl rfl (Zk oB) ?_
           refine L_p o3 rfl rfl (Zk nB) ?_
           refine L_p (.int .i64 (((z3.1 : List Int)).length : Int)) rfl rfl (P_len Try.underlying22 rfl u7) ?_
           refine L_p (.bool ((decide (u3 ≥ (((z3.1 : List Int)).length : Int))))) rfl rfl (P_int rfl rfl rfl) ?_
           refine L_p (.bool ((decide (u3 ≥ (((z3.1 : List Int)).length : Int))))) rfl rfl (Zk rfl) ?_
           iterate 7 refine L_s rfl rfl rfl z9 rfl ?_
           refine L_p (.bool true) rfl rfl (Zl (b := (decide (u3 ≥ (((z3.1 : List Int)).length : Int)))) rfl (pick_t z9 rfl)) ?_
           refine L_nl fun xY q04 hs => ?_
           have hfr := hfr.ext hs
           have jA := jA.ext hs
           have n9 := n9.ext hs
           have kA := kA.ext hs
           have r8 := r8.ext hs
           have u7 := u7.ext hs
           have y8 := y8.ext hs
           have a9 := a9.ext hs
           have l8 := l8.ext hs
           have d9 := d9.ext hs
           clear hs
           refine Zb ?_
           obtain rfl := sinj h
           exact hQ _ _ ⟨xY, hfr, pF, jA, qF, n9, rF, kA, xD, r8, tC, nB, u7, yD, y8, zD, a9, aE, oB, bE, iC, l8, cE, d9, rfl⟩
          ·obtain ⟨cF, nJ, h⟩ := bsome h
           have yY := PT_idx u7 nJ
           refine Zs (x := .tmp 154) Try.isAgg3 Try.sizeOf3 yY fun r04 zY kW => ?_
           obtain rfl := Zj.1 zY
           refine L_loadO (x := .tmp 156) part_LoomRun_0.1 Try.isAgg3 Try.sizeOf3 l8 fun s04 aZ lW => ?_
           obtain rfl := Zj.1 aZ
           refine E_drawL (g := yI) (n := 13) [] [0, 1, 2, 3, 4, 5, 6, 7, 8, 9, 10, 11, 12] rfl mixed (by kernel_rfl) trivial ?_
           refine L_p (.int .i64 (u3)) rfl rfl (Zk oB) ?_
           refine L_p o3 rfl rfl (Zk nB) ?_
           refine L_p (.int .i64 (((z3.1 : List Int)).length : Int)) rfl rfl (P_len Try.underlying22 rfl u7) ?_
           refine L_p (.bool ((decide (u3 ≥ (((z3.1 : List Int)).length : Int))))) rfl rfl (P_int rfl rfl rfl) ?_
           refine L_p (.bool ((decide (u3 ≥ (((z3.1 : List Int)).length : Int))))) rfl rfl (Zk rfl) ?_
           refine L_y o3 rfl rfl rfl rfl z9 (Zk nB) ?_
           refine L_y (.int .i64 (u3)) rfl rfl rfl rfl z9 (Zk oB) ?_
           refine L_y (ePtr o3 u3 1) rfl rfl rfl rfl z9 (Zh (α := Int) Try.underlying22 Try.sizeOf3 rfl u7 rfl nJ) ?_
           refine L_ld (c := .int .i64 (cF)) rfl rfl (.yes2 rfl rfl z9) (fun _ _ h => h.ch) kW rfl ?_
           refine L_y (fPtr y6 0) rfl rfl rfl rfl z9 (Zc at_76_0 iC (OB.ptr l8)) ?_
           refine L_ld (c := .int .i64 ((j3).Order)) rfl rfl (.yes2 rfl rfl z9) (fun _ _ h => ⟨h.ch, fun b hb _ => h.below.block b hb⟩) lW rfl ?_
           refine L_y (.bool ((cF != (j3).Order))) rfl rfl rfl rfl z9 (P_int rfl rfl rfl) ?_
           refine L_p (.bool ((cF != (j3).Order))) rfl rfl (Zl (b := (decide (u3 ≥ (((z3.1 : List Int)).length : Int)))) rfl (pick_f z9 rfl)) ?_
           refine L_nl fun bZ t04 hs => ?_
           have hfr := hfr.ext hs
           have jA := jA.ext hs
           have n9 := n9.ext hs
           have kA := kA.ext hs
           have r8 := r8.ext hs
           have u7 := u7.ext hs
           have y8 := y8.ext hs
           have a9 := a9.ext hs
           have l8 := l8.ext hs
           have d9 := d9.ext hs
           clear hs
           refine Zb ?_
           obtain rfl := sinj h
           exact hQ _ _ ⟨bZ, hfr, pF, jA, qF, n9, rF, kA, xD, r8, tC, nB, u7, yD, y8, zD, a9, aE, oB, bE, iC, l8, cE, d9, rfl⟩
         ·clear hx
          obtain ⟨cZ, hfr, qS, rS, sS, tS, uS, vS, dL, eL, gL, iL, jL, kL, lL, mL, nL, oL, pL, qL, rL, tL, uL, vL, xF⟩ := hR
          rcases Zt h with ⟨vG, h⟩ | ⟨vG, h⟩
          ·refine E_cond_true (Eq.trans (show ev _ _ = .bool (dC) from xF) (congrArg Value.bool vG)) ?_
           refine Zf (Za (Zg (.bool false) rfl rfl ?_))
           refine Zb (Zd (E_ret (thn_r ?_)))
           refine thn_r ?_
           refine blk_r ?_
           refine thn_r ?_
           refine thn_r ?_
           refine blk_r ?_
           refine thn_r ?_
           obtain rfl := sinj h
           exact end1 rfl rfl (show _ = .bool false from rfl) ⟨_, hfr, rfl⟩
          ·refine E_cond_false (Eq.trans (show ev _ _ = .bool (dC) from xF) (congrArg Value.bool vG)) ?_
           exact Zu (Zd (jW () _ _ ⟨cZ, hfr, qS, rS, sS, tS, uS, vS, dL, eL, gL, iL, jL, kL, lL, mL, nL, oL, pL, qL, rL, tL, uL, vL⟩ h))
        ·rintro _ b03 u04 ⟨dZ, hfr, xS, yS, zS, eT, lT, mT, xL, yL, zL, aM, bM, cM, dM, eM, gM, iM, jM, kM, mM, nM, oM, pM⟩ h
         refine Za (Zo jM rfl ?_)
         refine EL_in (.int .i64 ((w64 (u3 + (1 : Int))))) rfl rfl rfl rfl ?_
         refine Zg (.int .i64 ((w64 (u3 + (1 : Int))))) rfl rfl ?_
         exact Zb (Zd (mJ ((w64 (u3 + (1 : Int)))) _ _ ⟨dZ, hfr, xS, yS, zS, eT, lT, mT, xL, yL, zL, aM, bM, cM, dM, eM, gM, iM, rfl, kM, mM, nM, oM, pM⟩ h))
       ·refine E_cf uG rfl ?_
        exact Zu (Zd (mJ (u3) _ _ ⟨yI, hfr, pF, jA, qF, n9, rF, kA, xD, r8, tC, nB, u7, yD, y8, zD, a9, aE, oB, bE, iC, l8, cE, d9⟩ h))
      ·rintro v8 c03 v04 ⟨mZ, hfr, sF, lA, lC, t8, tF, mA, dE, e9, eE, gE, i9, iE, k9, tB, v7, vB, jE, kE, lE, l9, xA, x5⟩ h
       refine Zq h (fun (s : Int) e w => ∃ (g : Gh) , Fr gI wI g w ∧ e 7 = p6 ∧ OB 2007 g w 24 (y5.1 : LoomMill) p6 ∧ e 8 = p7 ∧ PT g.m w (y5.2.1 : List LoomOrder) p7 ∧ e 9 = i5 ∧ RV g.m w (y5.2.2 : List LoomRun) i5 ∧ e 10 = z4 ∧ PT g.m w ((⟨o8, (⟨m8, (w64 (i8 + k8))⟩ : Span)⟩ : LoomStop) : LoomStop) z4 ∧ e 11 = (.func (.func 43) #[] #[z4, p7]) ∧ e 12 = o3 ∧ RV g.m w ((z3.1 : List Int) : List Int) o3 ∧ e 14 = z2 ∧ RV g.m w ((o0.1 : List LoomRun) : List LoomRun) z2 ∧ e 15 = d3 ∧ RV g.m w ((o0.2.1 : List Int) : List Int) d3 ∧ e 17 = .int .i64 (s) ∧ e 18 = .int .i64 (v8) ∧ e 19 = .int .i64 (j1) ∧ e 20 = y6 ∧ OB 2020 g w 76 (j3 : LoomRun) y6 ∧ e 21 = q5 ∧ OB 2021 g w 76 (u0 : LoomRun) q5) (fun X6255 sI oJ h => ?_) ?_
       ·refine Zf (L_loadO (x := .tmp 162) part_LoomRun_2.1 Try.isAgg3 Try.sizeOf3 x5 fun x04 nZ mW => ?_)
        obtain rfl := Zj.1 nZ
        refine Zs (x := .tmp 8) Try.isAgg25 Try.sizeOf25 t8 fun zI dR nW => ?_
        refine L_loadO (x := .tmp 165) part_LoomRun_0.1 Try.isAgg3 Try.sizeOf3 x5 fun y04 oZ oW => ?_
        obtain rfl := Zj.1 oZ
        obtain ⟨yE, pJ, h⟩ := bsome h
        have eR := PT_idx dR pJ
        have pZ := Zm (part_LoomOrder_2).1 eR
        refine Zs (x := .tmp 168) Try.isAgg3 Try.sizeOf3 pZ fun z04 qZ pW => ?_
        obtain rfl := Zj.1 qZ
        refine Zs (x := .tmp 8) Try.isAgg25 Try.sizeOf25 t8 fun aJ gR qW => ?_
        refine L_loadO (x := .tmp 172) part_LoomRun_0.1 Try.isAgg3 Try.sizeOf3 x5 fun a05 rZ sW => ?_
        obtain rfl := Zj.1 rZ
        obtain ⟨dG, qJ, h⟩ := bsome h
        have iR := PT_idx gR qJ
        have sZ := Zm (part_LoomOrder_4).1 iR
        refine Zs (x := .tmp 175) Try.isAgg3 Try.sizeOf3 sZ fun b05 tZ tW => ?_
        obtain rfl := Zj.1 tZ
        refine E_drawL (g := mZ) (n := 16) [] [0, 1, 2, 3, 4, 5, 6, 7, 8, 9, 10, 11, 12, 13, 14, 15] rfl mixed (by kernel_rfl) trivial ?_
        refine L_p (fPtr q5 2) rfl rfl (Zc at_76_2 xA (OB.ptr x5)) ?_
        refine L_ld (c := .int .i64 ((u0).From)) rfl rfl .plain (fun _ _ h => ⟨h.ch, fun b hb _ => h.below.block b hb⟩) mW rfl ?_
        refine L_ld (c := zI) rfl rfl .plain (fun _ _ h => h.ch) nW lC ?_
        refine L_p (fPtr q5 0) rfl rfl (Zc at_76_0 xA (OB.ptr x5)) ?_
        refine L_ld (c := .int .i64 ((u0).Order)) rfl rfl .plain (fun _ _ h => ⟨h.ch, fun b hb _ => h.below.block b hb⟩) oW rfl ?_
        refine L_p (ePtr zI (u0).Order 5) rfl rfl (Zh (α := LoomOrder) Try.underlying25 Try.sizeOf82 rfl dR rfl pJ) ?_
        refine L_p (fPtr (ePtr zI (u0).Order 5) 2) rfl rfl (Zc at_82_2 rfl (PT.ptr eR)) ?_
        refine L_ld (c := .int .i64 ((yE).Woven)) rfl rfl .plain (fun _ _ h => h.ch) pW rfl ?_
        refine L_p (.int .i64 ((w64 ((u0).From + (yE).Woven)))) rfl rfl (P_int rfl rfl rfl) ?_
        refine L_ld (c := aJ) rfl rfl .plain (fun _ _ h => h.ch) qW lC ?_
        refine L_p (fPtr q5 0) rfl rfl (Zc at_76_0 xA (OB.ptr x5)) ?_
        refine L_ld (c := .int .i64 ((u0).Order)) rfl rfl .plain (fun _ _ h => ⟨h.ch, fun b hb _ => h.below.block b hb⟩) sW rfl ?_
        refine L_p (ePtr aJ (u0).Order 5) rfl rfl (Zh (α := LoomOrder) Try.underlying25 Try.sizeOf82 rfl gR rfl qJ) ?_
        refine L_p (fPtr (ePtr aJ (u0).Order 5) 4) rfl rfl (Zc at_82_4 rfl (PT.ptr iR)) ?_
        refine L_ld (c := .int .i64 ((dG).Late)) rfl rfl .plain (fun _ _ h => h.ch) tW rfl ?_
        refine L_p (.bool ((decide ((w64 ((u0).From + (yE).Woven)) > (dG).Late)))) rfl rfl (P_int rfl rfl rfl) ?_
        refine L_nl fun bJ c05 hs => ?_
        have hfr := hfr.ext hs
        have lA := lA.ext hs
        have t8 := t8.ext hs
        have mA := mA.ext hs
        have e9 := e9.ext hs
        have i9 := i9.ext hs
        have k9 := k9.ext hs
        have v7 := v7.ext hs
        have l9 := l9.ext hs
        have x5 := x5.ext hs
        clear hs
        refine Zb (Zd ?_)
        rcases Zt h with ⟨xG, h⟩ | ⟨xG, h⟩
        ·refine E_ct xG rfl ?_
         refine Zq h (fun (s : Unit) e w => ∃ (g : Gh) , Fr gI wI g w ∧ e 7 = p6 ∧ OB 2007 g w 24 (y5.1 : LoomMill) p6 ∧ e 8 = p7 ∧ PT g.m w (y5.2.1 : List LoomOrder) p7 ∧ e 9 = i5 ∧ RV g.m w (y5.2.2 : List LoomRun) i5 ∧ e 10 = z4 ∧ PT g.m w ((⟨o8, (⟨m8, (w64 (i8 + k8))⟩ : Span)⟩ : LoomStop) : LoomStop) z4 ∧ e 11 = (.func (.func 43) #[] #[z4, p7]) ∧ e 12 = o3 ∧ RV g.m w ((z3.1 : List Int) : List Int) o3 ∧ e 14 = z2 ∧ RV g.m w ((o0.1 : List LoomRun) : List LoomRun) z2 ∧ e 15 = d3 ∧ RV g.m w ((o0.2.1 : List Int) : List Int) d3 ∧ e 17 = .int .i64 (i3) ∧ e 18 = .int .i64 (v8) ∧ e 19 = .int .i64 (j1) ∧ e 20 = y6 ∧ OB 2020 g w 76 (j3 : LoomRun) y6 ∧ e 21 = q5 ∧ OB 2021 g w 76 (u0 : LoomRun) q5) (fun X6489 pQ uW h => ?_) ?_
         ·obtain ⟨cC, hx, h⟩ := bsome h
          refine E_join (fun e w => ∃ (g : Gh) , Fr gI wI g w ∧ e 7 = p6 ∧ OB 2007 g w 24 (y5.1 : LoomMill) p6 ∧ e 8 = p7 ∧ PT g.m w (y5.2.1 : List LoomOrder) p7 ∧ e 9 = i5 ∧ RV g.m w (y5.2.2 : List LoomRun) i5 ∧ e 10 = z4 ∧ PT g.m w ((⟨o8, (⟨m8, (w64 (i8 + k8))⟩ : Span)⟩ : LoomStop) : LoomStop) z4 ∧ e 11 = (.func (.func 43) #[] #[z4, p7]) ∧ e 12 = o3 ∧ RV g.m w ((z3.1 : List Int) : List Int) o3 ∧ e 14 = z2 ∧ RV g.m w ((o0.1 : List LoomRun) : List LoomRun) z2 ∧ e 15 = d3 ∧ RV g.m w ((o0.2.1 : List Int) : List Int) d3 ∧ e 17 = .int .i64 (i3) ∧ e 18 = .int .i64 (v8) ∧ e 19 = .int .i64 (j1) ∧ e 20 = y6 ∧ OB 2020 g w 76 (j3 : LoomRun) y6 ∧ e 21 = q5 ∧ OB 2021 g w 76 (u0 : LoomRun) q5 ∧ e 190 = .bool (cC)) (fun Q' hQ => ?_) (fun d03 d05 hR => ?_)
          ·replace h := hx
           clear hx
           rcases Zt h with ⟨bA, h⟩ | ⟨bA, h⟩
           ·refine E_drawL (g := bJ) (n := 13) [] [0, 1, 2, 3, 4, 5, 6, 7, 8, 9, 10, 11, 12] rfl mixed (by kernel_rfl) trivial ?_
            refine L_p (.int .i64 (i3)) rfl rfl (Zk vB) ?_
            refine L_p d3 rfl rfl (Zk tB) ?_
            refine L_p (.int .i64 (((o0.2.1 : List Int)).length : Int)) rfl rfl (P_len Try.underlying22 rfl v7) ?_
            refine L_p (.bool ((decide (i3 ≥ (((o0.2.1 : List Int)).length : Int))))) rfl rfl (P_int rfl rfl rfl) ?_
            refine L_p (.bool ((decide (i3 ≥ (((o0.2.1 : List Int)).length : Int))))) rfl rfl (Zk rfl) ?_
            iterate 7 refine L_s rfl rfl rfl bA rfl ?_
            refine L_p (.bool true) rfl rfl (Zl (b := (decide (i3 ≥ (((o0.2.1 : List Int)).length : Int)))) rfl (pick_t bA rfl)) ?_
            refine L_nl fun uZ e05 hs => ?_
            have hfr := hfr.ext hs
            have lA := lA.ext hs
            have t8 := t8.ext hs
            have mA := mA.ext hs
            have e9 := e9.ext hs
            have i9 := i9.ext hs
            have k9 := k9.ext hs
            have v7 := v7.ext hs
            have l9 := l9.ext hs
            have x5 := x5.ext hs
            clear hs
            refine Zb ?_
            obtain rfl := sinj h
            exact hQ _ _ ⟨uZ, hfr, sF, lA, lC, t8, tF, mA, dE, e9, eE, gE, i9, iE, k9, tB, v7, vB, jE, kE, lE, l9, xA, x5, rfl⟩
           ·obtain ⟨zE, rJ, h⟩ := bsome h
            have vZ := PT_idx v7 rJ
            refine Zs (x := .tmp 185) Try.isAgg3 Try.sizeOf3 vZ fun g05 xZ vW => ?_
            obtain rfl := Zj.1 xZ
            refine L_loadO (x := .tmp 187) part_LoomRun_0.1 Try.isAgg3 Try.sizeOf3 x5 fun h05 yZ xW => ?_
            obtain rfl := Zj.1 yZ
            refine E_drawL (g := bJ) (n := 13) [] [0, 1, 2, 3, 4, 5, 6, 7, 8, 9, 10, 11, 12] rfl mixed (by kernel_rfl) trivial ?_
            refine L_p (.int .i64 (i3)) rfl rfl (Zk vB) ?_
            refine L_p d3 rfl rfl (Zk tB) ?_
            refine L_p (.int .i64 (((o0.2.1 : List Int)).length : Int)) rfl rfl (P_len Try.underlying22 rfl v7) ?_
            refine L_p (.bool ((decide (i3 ≥ (((o0.2.1 : List Int)).length : Int))))) rfl rfl (P_int rfl rfl rfl) ?_
            refine L_p (.bool ((decide (i3 ≥ (((o0.2.1 : List Int)).length : Int))))) rfl rfl (Zk rfl) ?_
            refine L_y d3 rfl rfl rfl rfl bA (Zk tB) ?_
            refine L_y (.int .i64 (i3)) rfl rfl rfl rfl bA (Zk vB) ?_
            refine L_y (ePtr d3 i3 1) rfl rfl rfl rfl bA (Zh (α := Int) Try.underlying22 Try.sizeOf3 rfl v7 rfl rJ) ?_
            refine L_ld (c := .int .i64 (zE)) rfl rfl (.yes2 rfl rfl bA) (fun _ _ h => h.ch) vW rfl ?_
            refine L_y (fPtr q5 0) rfl rfl rfl rfl bA (Zc at_76_0 xA (OB.ptr x5)) ?_
            refine L_ld (c := .int .i64 ((u0).Order)) rfl rfl (.yes2 rfl rfl bA) (fun _ _ h => ⟨h.ch, fun b hb _ => h.below.block b hb⟩) xW rfl ?_
            refine L_y (.bool ((zE != (u0).Order))) rfl rfl rfl rfl bA (P_int rfl rfl rfl) ?_
            refine L_p (.bool ((zE != (u0).Order))) rfl rfl (Zl (b := (decide (i3 ≥ (((o0.2.1 : List Int)).length : Int)))) rfl (pick_f bA rfl)) ?_
            refine L_nl fun zZ i05 hs => ?_
            have hfr := hfr.ext hs
            have lA := lA.ext hs
            have t8 := t8.ext hs
            have mA := mA.ext hs
            have e9 := e9.ext hs
            have i9 := i9.ext hs
            have k9 := k9.ext hs
            have v7 := v7.ext hs
            have l9 := l9.ext hs
            have x5 := x5.ext hs
            clear hs
            refine Zb ?_
            obtain rfl := sinj h
            exact hQ _ _ ⟨zZ, hfr, sF, lA, lC, t8, tF, mA, dE, e9, eE, gE, i9, iE, k9, tB, v7, vB, jE, kE, lE, l9, xA, x5, rfl⟩
          ·clear hx
           obtain ⟨a00, hfr, nT, oT, pT, sT, tT, uT, qM, rM, sM, tM, uM, vM, xM, yM, zM, bN, cN, dN, eN, gN, iN, jN, yF⟩ := hR
           rcases Zt h with ⟨yG, h⟩ | ⟨yG, h⟩
           ·refine E_cond_true (Eq.trans (show ev _ _ = .bool (cC) from yF) (congrArg Value.bool yG)) ?_
            refine Zf (Za (Zg (.bool false) rfl rfl ?_))
            refine Zb (Zd (E_ret (thn_r ?_)))
            refine thn_r ?_
            refine blk_r ?_
            refine thn_r ?_
            refine thn_r ?_
            refine blk_r ?_
            refine thn_r ?_
            obtain rfl := sinj h
            exact end1 rfl rfl (show _ = .bool false from rfl) ⟨_, hfr, rfl⟩
           ·refine E_cond_false (Eq.trans (show ev _ _ = .bool (cC) from yF) (congrArg Value.bool yG)) ?_
            exact Zu (Zd (uW () _ _ ⟨a00, hfr, nT, oT, pT, sT, tT, uT, qM, rM, sM, tM, uM, vM, xM, yM, zM, bN, cN, dN, eN, gN, iN, jN⟩ h))
         ·rintro _ e03 j05 ⟨b00, hfr, vT, xT, yT, zT, aU, bU, kN, lN, mN, nN, oN, pN, qN, rN, sN, tN, uN, vN, xN, yN, zN, aO⟩ h
          refine Za (Zo tN rfl ?_)
          refine EL_in (.int .i64 ((w64 (i3 + (1 : Int))))) rfl rfl rfl rfl ?_
          refine Zg (.int .i64 ((w64 (i3 + (1 : Int))))) rfl rfl ?_
          exact Zb (Zd (oJ ((w64 (i3 + (1 : Int)))) _ _ ⟨b00, hfr, vT, xT, yT, zT, aU, bU, kN, lN, mN, nN, oN, pN, qN, rN, sN, rfl, uN, vN, xN, yN, zN, aO⟩ h))
        ·refine E_cf xG rfl ?_
         exact Zu (Zd (oJ (i3) _ _ ⟨bJ, hfr, sF, lA, lC, t8, tF, mA, dE, e9, eE, gE, i9, iE, k9, tB, v7, vB, jE, kE, lE, l9, xA, x5⟩ h))
       ·rintro kB g03 k05 ⟨eG, hfr, mD, n7, nD, j7, uF, c8, mE, i6, uC, nE, d7, vC, j6, oE, e7, rE, sE, jC, xC, v6, yC, x6⟩ h
        refine Zq h (fun (s : Unit) e w => ∃ (g : Gh) , Fr gI wI g w ∧ e 7 = p6 ∧ OB 2007 g w 24 (y5.1 : LoomMill) p6 ∧ e 8 = p7 ∧ PT g.m w (y5.2.1 : List LoomOrder) p7 ∧ e 9 = i5 ∧ RV g.m w (y5.2.2 : List LoomRun) i5 ∧ e 10 = z4 ∧ PT g.m w ((⟨o8, (⟨m8, (w64 (i8 + k8))⟩ : Span)⟩ : LoomStop) : LoomStop) z4 ∧ e 11 = (.func (.func 43) #[] #[z4, p7]) ∧ e 12 = o3 ∧ RV g.m w ((z3.1 : List Int) : List Int) o3 ∧ e 14 = z2 ∧ RV g.m w ((o0.1 : List LoomRun) : List LoomRun) z2 ∧ e 15 = d3 ∧ RV g.m w ((o0.2.1 : List Int) : List Int) d3 ∧ e 17 = .int .i64 (kB) ∧ e 18 = .int .i64 (v8) ∧ e 19 = .int .i64 (j1) ∧ e 20 = y6 ∧ OB 2020 g w 76 (j3 : LoomRun) y6 ∧ e 21 = q5 ∧ OB 2021 g w 76 (u0 : LoomRun) q5) (fun X6714 qI sJ h => ?_) ?_
        ·refine Zf (Za (Ze .plain rfl (D_loadO (g := eG) Try.isAgg76 Try.sizeOf76 xC v6 fun l05 c00 => ?_)))
         refine Ze .plain rfl (D_loadO (g := eG) Try.isAgg76 Try.sizeOf76 yC x6 fun m05 d00 => ?_)
         refine EL_p (.bool ((!(decide (j3 = u0))))) (P_sne seq_76 rfl eg_76 rfl rfl c00 d00) rfl ?_
         refine Zb (Zd ?_)
         rcases Zt h with ⟨zG, h⟩ | ⟨zG, h⟩
         ·refine E_ct zG rfl ?_
          refine Zf (Za (Zo vC rfl ?_))
          obtain ⟨kD, yW, h⟩ := bsome h
          refine Ze .plain rfl (D_callG (g := eG) (vs := [z2]) en32 (.cons rfl .nil) (v32_0 (iO := 9197) j6 yW) fun jR h03 pA hs hr => ?_)
          have hfr := hfr.ext hs
          have n7 := n7.ext hs
          have j7 := j7.ext hs
          have c8 := c8.ext hs
          have i6 := i6.ext hs
          have d7 := d7.ext hs
          have j6 := j6.ext hs
          have e7 := e7.ext hs
          have v6 := v6.ext hs
          have x6 := x6.ext hs
          have hm6718 := hr
          refine Zg pA rfl rfl ?_
          refine Zb (Zd (Zf (Za (Zn pA rfl rfl ?_))))
          refine Zo jC rfl ?_
          obtain ⟨xE, aH, h⟩ := bsome h
          refine EL_p (ePtr pA j1 3) (P_indexAddrM (α := LoomRun) Try.underlying31 Try.sizeOf76 rfl hm6718 rfl aH) rfl ?_
          obtain ⟨pb6722, po6722, pe6722⟩ := OM.ptrE (k := 3) hm6718 aH
          refine EL_p (fPtr (ePtr pA j1 3) 2) (Zc at_76_2 rfl ⟨_, _, pe6722⟩) rfl ?_
          refine Ze .plain rfl (D_loadMF (g := jR) part_LoomRun_2.1 Try.isAgg3 Try.sizeOf3 rfl hm6718 aH fun n05 g00 => ?_)
          obtain rfl := Zj.1 g00
          refine EL_in (.int .i64 ((w64 ((xE).From - (1 : Int))))) rfl rfl rfl rfl ?_
          obtain ⟨cG, bH, h⟩ := bsome h
          refine EL_p (ePtr pA j1 3) (P_indexAddrM (α := LoomRun) Try.underlying31 Try.sizeOf76 rfl hm6718 rfl bH) rfl ?_
          obtain ⟨pb6726, po6726, pe6726⟩ := OM.ptrE (k := 3) hm6718 bH
          refine EL_p (fPtr (ePtr pA j1 3) 2) (Zc at_76_2 rfl ⟨_, _, pe6726⟩) rfl ?_
          refine Ze .plain rfl (D_storeMF (g := jR) part_LoomRun_2 Try.sizeOf3 rfl hm6718 bH rfl (Zj.2 rfl) fun kR o05 hs b6727 => ?_)
          have hfr := hfr.stp hs
          have n7 := n7.stp hs rfl
          have j7 := j7.stp hs
          have c8 := c8.stp hs
          have i6 := i6.stp hs
          have d7 := d7.stp hs
          have j6 := j6.stp hs
          have e7 := e7.stp hs
          have v6 := v6.stp hs rfl
          have x6 := x6.stp hs rfl
          refine Zb (Zd ?_)
          obtain ⟨aC, hx, h⟩ := bsome h
          refine E_join (fun e w => ∃ (g : Gh) , Fr gI wI g w ∧ e 7 = p6 ∧ OB 2007 g w 24 (y5.1 : LoomMill) p6 ∧ e 8 = p7 ∧ PT g.m w (y5.2.1 : List LoomOrder) p7 ∧ e 9 = i5 ∧ RV g.m w (y5.2.2 : List LoomRun) i5 ∧ e 10 = z4 ∧ PT g.m w ((⟨o8, (⟨m8, (w64 (i8 + k8))⟩ : Span)⟩ : LoomStop) : LoomStop) z4 ∧ e 11 = (.func (.func 43) #[] #[z4, p7]) ∧ e 12 = o3 ∧ RV g.m w ((z3.1 : List Int) : List Int) o3 ∧ e 14 = z2 ∧ RV g.m w ((o0.1 : List LoomRun) : List LoomRun) z2 ∧ e 15 = d3 ∧ RV g.m w ((o0.2.1 : List Int) : List Int) d3 ∧ e 17 = .int .i64 (kB) ∧ e 18 = .int .i64 (v8) ∧ e 19 = .int .i64 (j1) ∧ e 20 = y6 ∧ OB 2020 g w 76 (j3 : LoomRun) y6 ∧ e 21 = q5 ∧ OB 2021 g w 76 (u0 : LoomRun) q5 ∧ e 22 = pA ∧ RV g.m w ((List.set kD (Int.toNat j1) ({ cG with From := (w64 ((xE).From - (1 : Int))) })) : List LoomRun) pA ∧ e 218 = .bool (aC)) (fun Q' hQ => ?_) (fun i03 p05 hR => ?_)
          ·replace h := hx
           clear hx
           refine Za (Zo uC rfl ?_)
           refine Zn pA rfl rfl ?_
           refine Zo jC rfl ?_
           obtain ⟨oQ, tJ, h⟩ := bsome h
           refine EL_p (ePtr pA j1 3) (P_indexAddrM (α := LoomRun) Try.underlying31 Try.sizeOf76 rfl b6727 rfl tJ) rfl ?_
           refine Ze .plain rfl (D_loadM (g := kR) Try.isAgg76 Try.sizeOf76 rfl b6727 tJ fun h00 i00 => ?_)
           obtain ⟨lD, zW, h⟩ := bsome h
           refine Ze .plain rfl (D_callv (g := kR) (vs := [h00]) (first := #[]) (caps := #[z4, p7]) rfl en43 (.cons rfl .nil) (wk43 i00 i6 j7 zW) fun lR q05 r05 hs hr => ?_)
           have hfr := hfr.ext hs
           have n7 := n7.ext hs
           have j7 := j7.ext hs
           have c8 := c8.ext hs
           have i6 := i6.ext hs
           have d7 := d7.ext hs
           have j6 := j6.ext hs
           have e7 := e7.ext hs
           have v6 := v6.ext hs
           have x6 := x6.ext hs
           have b6727 := b6727.ext hs
           subst hr
           refine EL_p (.bool (!lD)) (P_not rfl) rfl ?_
           refine Zn (.bool (!lD)) rfl rfl ?_
           rcases Zt h with ⟨cB, h⟩ | ⟨cB, h⟩
           ·refine Ze (.yes2 rfl rfl cB) rfl (D_loadO (g := lR) Try.isAgg24 Try.sizeOf24 mD n7 fun j00 cJ => ?_)
            refine Ze (.yes2 rfl rfl cB) rfl (D_load (g := lR) Try.isAgg25 Try.sizeOf25 nD j7 fun k00 dJ => ?_)
            refine EL_y pA (Zk rfl) rfl rfl cB rfl ?_
            obtain ⟨gp6745, hs, rp6745⟩ := OM.pub b6727
            have hfr := hfr.stp hs
            have n7 := n7.stp hs rfl
            have j7 := j7.stp hs
            have c8 := c8.stp hs
            have i6 := i6.stp hs
            have d7 := d7.stp hs
            have j6 := j6.stp hs
            have e7 := e7.stp hs
            have v6 := v6.stp hs rfl
            have x6 := x6.stp hs rfl
            have cJ := cJ.stp hs
            have dJ := dJ.stp hs
            obtain ⟨rI, aX, h⟩ := bsome h
            refine Ze (.yes2 rfl rfl cB) rfl (Zp (g := gp6745) (vs := [j00, k00, pA]) en44 (.cons rfl (.cons rfl (.cons rfl .nil))) (wk44 cJ dJ rp6745 aX) fun l00 j03 s05 hs hr => ?_)
            have hfr := hfr.ext hs
            have n7 := n7.ext hs
            have j7 := j7.ext hs
            have c8 := c8.ext hs
            have i6 := i6.ext hs
            have d7 := d7.ext hs
            have j6 := j6.ext hs
            have e7 := e7.ext hs
            have v6 := v6.ext hs
            have x6 := x6.ext hs
            have rp6745 := rp6745.ext hs
            subst hr
            refine EL_p (.bool (rI)) (Zl (b := (!lD)) rfl (pick_t cB rfl)) rfl ?_
            refine Zb ?_
            obtain rfl := sinj h
            exact hQ _ _ ⟨l00, hfr, mD, n7, nD, j7, uF, c8, mE, i6, uC, nE, d7, vC, j6, oE, e7, rE, sE, jC, xC, v6, yC, x6, rfl, rp6745, rfl⟩
           ·refine EL_s rfl rfl cB rfl rfl ?_
            iterate 3 refine EL_s rfl rfl cB rfl rfl ?_
            refine EL_p (.bool false) (Zl (b := (!lD)) rfl (pick_f cB rfl)) rfl ?_
            refine Zb ?_
            obtain ⟨gp6748, hs, rp6748⟩ := OM.pub b6727
            have hfr := hfr.stp hs
            have n7 := n7.stp hs rfl
            have j7 := j7.stp hs
            have c8 := c8.stp hs
            have i6 := i6.stp hs
            have d7 := d7.stp hs
            have j6 := j6.stp hs
            have e7 := e7.stp hs
            have v6 := v6.stp hs rfl
            have x6 := x6.stp hs rfl
            obtain rfl := sinj h
            exact hQ _ _ ⟨gp6748, hfr, mD, n7, nD, j7, uF, c8, mE, i6, uC, nE, d7, vC, j6, oE, e7, rE, sE, jC, xC, v6, yC, x6, rfl, rp6748, rfl⟩
          ·clear hx
           obtain ⟨m00, hfr, cU, dU, eU, gU, iU, jU, bO, cO, dO, eO, gO, jO, kO, lO, mO, nO, oO, pO, qO, rO, sO, tO, c02, d02, zF⟩ := hR
           rcases Zt h with ⟨cH, h⟩ | ⟨cH, h⟩
           ·refine E_cond_true (Eq.trans (show ev _ _ = .bool (aC) from zF) (congrArg Value.bool cH)) ?_
            refine Zf (Za (Zg (.bool false) rfl rfl ?_))
            refine Zb (Zd (E_ret (thn_r ?_)))
            refine blk_r ?_
            refine thn_r ?_
            refine thn_r ?_
            refine blk_r ?_
            refine thn_r ?_
            obtain rfl := sinj h
            exact end1 rfl rfl (show _ = .bool false from rfl) ⟨_, hfr, rfl⟩
           ·refine E_cond_false (Eq.trans (show ev _ _ = .bool (aC) from zF) (congrArg Value.bool cH)) ?_
            exact Zu (Zd (sJ () _ _ ⟨m00, hfr, cU, dU, eU, gU, iU, jU, bO, cO, dO, eO, gO, jO, kO, lO, mO, nO, oO, pO, qO, rO, sO, tO⟩ h))
         ·refine E_cf zG rfl ?_
          exact Zu (Zd (sJ () _ _ ⟨eG, hfr, mD, n7, nD, j7, uF, c8, mE, i6, uC, nE, d7, vC, j6, oE, e7, rE, sE, jC, xC, v6, yC, x6⟩ h))
        ·rintro _ k03 t05 ⟨gG, hfr, iI, jI, kI, lI, mI, nI, dH, gH, iH, tE, uE, jH, kH, lH, mH, nH, oH, pH, uO, vO, xO, yO⟩ h
         obtain ⟨zB, hx, h⟩ := bsome h
         refine E_join (fun e w => ∃ (g : Gh) , Fr gI wI g w ∧ e 7 = p6 ∧ OB 2007 g w 24 (y5.1 : LoomMill) p6 ∧ e 8 = p7 ∧ PT g.m w (y5.2.1 : List LoomOrder) p7 ∧ e 9 = i5 ∧ RV g.m w (y5.2.2 : List LoomRun) i5 ∧ e 10 = z4 ∧ PT g.m w ((⟨o8, (⟨m8, (w64 (i8 + k8))⟩ : Span)⟩ : LoomStop) : LoomStop) z4 ∧ e 11 = (.func (.func 43) #[] #[z4, p7]) ∧ e 12 = o3 ∧ RV g.m w ((z3.1 : List Int) : List Int) o3 ∧ e 14 = z2 ∧ RV g.m w ((o0.1 : List LoomRun) : List LoomRun) z2 ∧ e 15 = d3 ∧ RV g.m w ((o0.2.1 : List Int) : List Int) d3 ∧ e 17 = .int .i64 (kB) ∧ e 18 = .int .i64 (v8) ∧ e 19 = .int .i64 (j1) ∧ e 226 = .bool (zB)) (fun Q' hQ => ?_) (fun l03 u05 hR => ?_)
         ·replace h := hx
          clear hx
          refine Za (Zo tE rfl ?_)
          refine EL_p (.int .i64 (((z3.1 : List Int)).length : Int)) (P_len Try.underlying22 rfl uE) rfl ?_
          refine EL_in (.bool (((((z3.1 : List Int)).length : Int) == (0 : Int)))) rfl rfl rfl rfl ?_
          refine Zn (.bool (((((z3.1 : List Int)).length : Int) == (0 : Int)))) rfl rfl ?_
          rcases Zt h with ⟨dB, h⟩ | ⟨dB, h⟩
          ·refine Ze (.yes2 rfl rfl dB) rfl (D_loadO (g := gG) Try.isAgg76 Try.sizeOf76 uO vO fun v05 n00 => ?_)
           refine Ze (.yes2 rfl rfl dB) rfl (D_loadO (g := gG) Try.isAgg76 Try.sizeOf76 xO yO fun x05 o00 => ?_)
           refine EL_y (.bool ((!(decide (j3 = u0))))) (P_sne seq_76 rfl eg_76 rfl rfl n00 o00) rfl rfl dB rfl ?_
           refine EL_p (.bool ((!(decide (j3 = u0))))) (Zl (b := ((((z3.1 : List Int)).length : Int) == (0 : Int))) rfl (pick_t dB rfl)) rfl ?_
           refine Zb ?_
           obtain rfl := sinj h
           exact hQ _ _ ⟨gG, hfr, iI, jI, kI, lI, mI, nI, dH, gH, iH, tE, uE, jH, kH, lH, mH, nH, oH, pH, rfl⟩
          ·refine EL_s rfl rfl dB rfl rfl ?_
           refine EL_s rfl rfl dB rfl rfl ?_
           refine EL_s rfl rfl dB rfl rfl ?_
           refine EL_p (.bool false) (Zl (b := ((((z3.1 : List Int)).length : Int) == (0 : Int))) rfl (pick_f dB rfl)) rfl ?_
           refine Zb ?_
           obtain rfl := sinj h
           exact hQ _ _ ⟨gG, hfr, iI, jI, kI, lI, mI, nI, dH, gH, iH, tE, uE, jH, kH, lH, mH, nH, oH, pH, rfl⟩
         ·clear hx
          obtain ⟨p00, hfr, kU, lU, mU, nU, oU, pU, zO, aP, bP, cP, dP, eP, gP, iP, jP, kP, lP, mP, aG⟩ := hR
          rcases Zt h with ⟨qH, h⟩ | ⟨qH, h⟩
          ·refine E_cond_true (Eq.trans (show ev _ _ = .bool (zB) from aG) (congrArg Value.bool qH)) ?_
           refine Zf (Za (Zg (.bool false) rfl rfl ?_))
           refine Zb (Zd (E_ret (blk_r ?_)))
           refine thn_r ?_
           refine thn_r ?_
           refine blk_r ?_
           refine thn_r ?_
           obtain rfl := sinj h
           exact end1 rfl rfl (show _ = .bool false from rfl) ⟨_, hfr, rfl⟩
          ·refine E_cond_false (Eq.trans (show ev _ _ = .bool (zB) from aG) (congrArg Value.bool qH)) ?_
           exact Zu (blk_n (Zd (bW (kB, v8) _ _ ⟨p00, hfr, kU, lU, mU, nU, oU, pU, zO, aP, bP, cP, dP, eP, gP, iP, jP, kP, lP, mP⟩ h)))
    ·rintro ⟨tD, uD⟩ m03 y05 ⟨q00, hfr, qU, rU, sU, tU, uU, vU, nP, oP, pP, sP, tP, uP, vP, xP, yP, zP, bQ, cQ⟩ h
     refine Za (Zo cQ rfl ?_)
     refine EL_in (.int .i64 ((w64 (j1 + (1 : Int))))) rfl rfl rfl rfl ?_
     refine Zg (.int .i64 ((w64 (j1 + (1 : Int))))) rfl rfl ?_
     exact Zb (Zd (zV (tD, uD, (w64 (j1 + (1 : Int)))) _ _ ⟨q00, hfr, qU, rU, sU, tU, uU, vU, nP, oP, pP, sP, tP, uP, vP, xP, yP, zP, bQ, rfl⟩ h))
  ·rintro ⟨o9, jB⟩ n03 z05 ⟨r00, hfr, oI, oD, pI, sD, dQ, vE, sH, aD, tH, xB, eQ, gQ⟩ h
   refine Zf (L_loadO0 (x := .tmp 7) Try.isAgg24 Try.sizeOf24 oD fun mR s00 bX => ?_)
   obtain ⟨cD, cX, h⟩ := bsome h
   refine Zs (x := .tmp 8) Try.isAgg25 Try.sizeOf25 sD fun nR t00 dX => ?_
   obtain ⟨eD, eX, h⟩ := bsome h
   obtain ⟨gD, gX, h⟩ := bsome h
   obtain ⟨n8, iX, h⟩ := bsome h
   refine E_drawL (g := r00) (n := 12) [(1, (fun v g w => RV g.m w cD v)), (3, (fun v g w => RV g.m w eD v)), (5, (fun v g w => RV g.m w gD v)), (6, (fun v g w => ∃ y0 y1 : Value, v = .tuple #[y0, y1] ∧ y0 = .int .i64 (n8.1) ∧ y1 = .int .i64 (n8.2)))] [0, 1, 2, 3, 4, 5, 6, 7, 8, 9, 10, 11] rfl mixed (by kernel_rfl) (⟨fun _ => up_rv, fun _ => up_rv, fun _ => up_rv, fun _ => (up_ex fun _ => (up_ex fun _ => (up_and (up_eq _) (up_and (up_eq _) (up_eq _))))), trivial⟩) ?_
   refine L_ld (c := mR) rfl rfl .plain (fun _ _ h => ⟨h.ch, fun b hb _ => h.below.block b hb⟩) bX oI ?_
   refine L_do (φ := fun v g w => RV g.m w cD v) rfl rfl .plain (fun g w hd => Zp (g := g) (vs := [mR]) en15 (.cons rfl .nil) (wk15 (s00.ext hd.1) cX) fun g' w' v hs hr => ⟨g', hs, hr⟩) (fun eJ hv => ?_)
   obtain ⟨_, _, _, rq6763⟩ := hv
   refine L_ld (c := nR) rfl rfl .plain (fun _ _ h => h.ch) dX pI ?_
   refine L_do (φ := fun v g w => RV g.m w eD v) rfl rfl .plain (fun g w hd => Zp (g := g) (vs := [nR]) en16 (.cons rfl .nil) (wk16 (t00.ext hd.1) eX) fun g' w' v hs hr => ⟨g', hs, hr⟩) (fun gJ hv => ?_)
   obtain ⟨_, _, _, rq6766⟩ := hv
   refine L_p z2 rfl rfl (Zk sH) ?_
   refine L_do (φ := fun v g w => RV g.m w gD v) rfl rfl .plain (fun g w hd => Zp (g := g) (vs := [z2]) en32 (.cons rfl .nil) (wk32 (aD.ext hd.1) gX) fun g' w' v hs hr => ⟨g', hs, hr⟩) (fun iJ hv => ?_)
   obtain ⟨_, _, _, rq6768⟩ := hv
   refine L_do (φ := fun v g w => ∃ y0 y1 : Value, v = .tuple #[y0, y1] ∧ y0 = .int .i64 (n8.1) ∧ y1 = .int .i64 (n8.2)) rfl rfl .plain (fun g w hd => Zp (g := g) (vs := [eJ, gJ, iJ]) en40 (.cons rfl (.cons rfl (.cons rfl .nil))) (wk40 (word (A := fun g w => RV g.m w cD eJ) 1 rfl rfl (deps_of hd)) (word (A := fun g w => RV g.m w eD gJ) 3 rfl rfl (deps_of hd)) (word (A := fun g w => RV g.m w gD iJ) 5 rfl rfl (deps_of hd)) iX) fun g' w' v hs hr => ⟨g', hs, hr⟩) (fun a06 hv => ?_)
   obtain ⟨_, _, _, _, _, rfl, rfl, rfl⟩ := hv
   refine L_p (.tuple #[.int .i64 (n8.1), .int .i64 (n8.2)]) rfl rfl (Zk rfl) ?_
   refine L_p (.int .i64 (n8.1)) rfl rfl (Zi rfl rfl) ?_
   refine L_p (.int .i64 (n8.2)) rfl rfl (Zi rfl rfl) ?_
   refine L_p (.int .i64 (n8.1)) rfl rfl (P_assign rfl) ?_
   refine L_p (.int .i64 (n8.2)) rfl rfl (P_assign rfl) ?_
   refine L_nil fun eF b06 hall => ?_
   have hs := hall.1
   have hfr := hfr.ext hs
   have oD := oD.ext hs
   have sD := sD.ext hs
   have vE := vE.ext hs
   have aD := aD.ext hs
   have xB := xB.ext hs
   have c06 := (word_all (A := fun g w => RV g.m w cD eJ) 1 rfl hall)
   have d06 := (word_all (A := fun g w => RV g.m w eD gJ) 3 rfl hall)
   have e06 := (word_all (A := fun g w => RV g.m w gD iJ) 5 rfl hall)
   clear hs hall
   refine Zb (Zd ?_)
   obtain ⟨jD, hx, h⟩ := bsome h
   refine E_join (fun e w => ∃ (g : Gh) , Fr gI wI g w ∧ e 6 = .bool (jD)) (fun Q' hQ => ?_) (fun o03 g06 hR => ?_)
   ·replace h := hx
    clear hx
    refine Za (Zo gQ rfl ?_)
    refine Zo dQ rfl ?_
    refine EL_p (.int .i64 (((z3.1 : List Int)).length : Int)) (P_len Try.underlying22 rfl vE) rfl ?_
    refine EL_in (.bool ((jB == (((z3.1 : List Int)).length : Int)))) rfl rfl rfl rfl ?_
    refine Zn (.bool ((jB == (((z3.1 : List Int)).length : Int)))) rfl rfl ?_
    rcases Zt h with ⟨eB, h⟩ | ⟨eB, h⟩
    ·refine EL_y (.int .i64 (o9)) (Zk eQ) rfl rfl eB rfl ?_
     refine EL_y d3 (Zk tH) rfl rfl eB rfl ?_
     refine EL_y (.int .i64 (((o0.2.1 : List Int)).length : Int)) (P_len Try.underlying22 rfl xB) rfl rfl eB rfl ?_
     refine EL_y (.bool ((o9 == (((o0.2.1 : List Int)).length : Int)))) (P_int rfl rfl rfl) rfl rfl eB rfl ?_
     refine EL_p (.bool ((o9 == (((o0.2.1 : List Int)).length : Int)))) (Zl (b := (jB == (((z3.1 : List Int)).length : Int))) rfl (pick_t eB rfl)) rfl ?_
     refine Zn (.bool ((o9 == (((o0.2.1 : List Int)).length : Int)))) rfl rfl ?_
     rcases Zt h with ⟨iB, h⟩ | ⟨iB, h⟩
     ·refine Ze (.yes2 rfl rfl iB) rfl (D_loadO (g := eF) Try.isAgg24 Try.sizeOf24 oI oD fun u00 v00 => ?_)
      refine Ze (.yes2 rfl rfl iB) rfl (D_load (g := eF) Try.isAgg25 Try.sizeOf25 pI sD fun x00 y00 => ?_)
      refine EL_y z2 (Zk sH) rfl rfl iB rfl ?_
      obtain ⟨iD, jX, h⟩ := bsome h
      refine Ze (.yes2 rfl rfl iB) rfl (Zp (g := eF) (vs := [u00, x00, z2]) en44 (.cons rfl (.cons rfl (.cons rfl .nil))) (wk44 v00 y00 aD jX) fun jJ p03 h06 hs hr => ?_)
      have hfr := hfr.ext hs
      have xB := xB.ext hs
      subst hr
      refine EL_p (.bool (iD)) (Zl (b := (o9 == (((o0.2.1 : List Int)).length : Int))) rfl (pick_t iB rfl)) rfl ?_
      refine Zn (.bool (iD)) rfl rfl ?_
      rcases Zt h with ⟨gA, h⟩ | ⟨gA, h⟩
      ·refine EL_y (.int .i64 (n8.2)) (Zk rfl) rfl rfl gA rfl ?_
       refine EL_y (.bool ((n8.2 == (0 : Int)))) (P_int rfl rfl rfl) rfl rfl gA rfl ?_
       refine EL_y d3 (Zk tH) rfl rfl gA rfl ?_
       refine EL_y (.int .i64 (((o0.2.1 : List Int)).length : Int)) (P_len Try.underlying22 rfl xB) rfl rfl gA rfl ?_
       refine EL_y (.bool (((((o0.2.1 : List Int)).length : Int) == (0 : Int)))) (P_int rfl rfl rfl) rfl rfl gA rfl ?_
       refine EL_y (.bool (((n8.2 == (0 : Int)) == ((((o0.2.1 : List Int)).length : Int) == (0 : Int))))) (P_bool Try.underlying4 rfl rfl rfl) rfl rfl gA rfl ?_
       refine EL_p (.bool (((n8.2 == (0 : Int)) == ((((o0.2.1 : List Int)).length : Int) == (0 : Int))))) (Zl (b := iD) rfl (pick_t gA rfl)) rfl ?_
       refine EL_p (.bool (((n8.2 == (0 : Int)) == ((((o0.2.1 : List Int)).length : Int) == (0 : Int))))) (Zk rfl) rfl ?_
       rcases Zt h with ⟨bD, h⟩ | ⟨bD, h⟩
       ·obtain ⟨bG, kX, h⟩ := bsome h
        refine Ze (.yes2 rfl rfl bD) rfl (Zp (g := jJ) (vs := []) en14 .nil (wk14  kX) fun z00 q03 i06 hs hr => ?_)
        have hfr := hfr.ext hs
        subst hr
        refine EL_p (.bool (bG)) (Zl (b := ((n8.2 == (0 : Int)) == ((((o0.2.1 : List Int)).length : Int) == (0 : Int)))) rfl (pick_t bD rfl)) rfl ?_
        refine Zg (.bool (bG)) rfl rfl ?_
        refine Zb ?_
        obtain rfl := sinj h
        exact hQ _ _ ⟨z00, hfr, rfl⟩
       ·refine EL_s rfl rfl bD rfl rfl ?_
        refine EL_p (.bool false) (Zl (b := ((n8.2 == (0 : Int)) == ((((o0.2.1 : List Int)).length : Int) == (0 : Int)))) rfl (pick_f bD rfl)) rfl ?_
        refine Zg (.bool false) rfl rfl ?_
        refine Zb ?_
        obtain rfl := sinj h
        exact hQ _ _ ⟨jJ, hfr, rfl⟩
      ·refine EL_s rfl rfl gA rfl rfl ?_
       iterate 5 refine EL_s rfl rfl gA rfl rfl ?_
       refine EL_p (.bool false) (Zl (b := iD) rfl (pick_f gA rfl)) rfl ?_
       refine EL_dead 3 rfl ?_
       refine Zg (.bool false) rfl rfl ?_
       refine Zb ?_
       obtain rfl := sinj h
       exact hQ _ _ ⟨jJ, hfr, rfl⟩
     ·refine EL_s rfl rfl iB rfl rfl ?_
      iterate 3 refine EL_s rfl rfl iB rfl rfl ?_
      refine EL_p (.bool false) (Zl (b := (o9 == (((o0.2.1 : List Int)).length : Int))) rfl (pick_f iB rfl)) rfl ?_
      refine EL_dead 11 rfl ?_
      refine Zg (.bool false) rfl rfl ?_
      refine Zb ?_
      obtain rfl := sinj h
      exact hQ _ _ ⟨eF, hfr, rfl⟩
    ·refine EL_s rfl rfl eB rfl rfl ?_
     iterate 3 refine EL_s rfl rfl eB rfl rfl ?_
     refine EL_p (.bool false) (Zl (b := (jB == (((z3.1 : List Int)).length : Int))) rfl (pick_f eB rfl)) rfl ?_
     refine EL_dead 17 rfl ?_
     refine Zg (.bool false) rfl rfl ?_
     refine Zb ?_
     obtain rfl := sinj h
     exact hQ _ _ ⟨eF, hfr, rfl⟩
   ·clear hx
    obtain ⟨j06, hfr, xU⟩ := hR
    refine E_ret ?_
    obtain rfl := sinj h
    exact end1 rfl rfl (show _ = .bool (jD) from xU) ⟨_, hfr, rfl⟩
end Go.Proofs.Ytnfjhdagbknlbaa
