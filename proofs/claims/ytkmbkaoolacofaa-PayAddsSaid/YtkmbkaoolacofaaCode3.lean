import Derived.Test.YtkmbkaoolacofaaCode2
set_option maxRecDepth 8000
set_option maxHeartbeats 4000000
namespace Go.Proofs.Ytkmbkaoolacofaa
open Go.RowKit
def f19 (x0 : PayTable) : Option (PayEntry × Int) :=
 (f32 x0).bind fun y5 =>
 jn (σ := PayEntry) (fun m8 =>
  (f33 (y5.1)).bind fun o0 =>
  (f37 (o0.1)).bind fun j1 =>
  (f37 (o0.2.1)).bind fun u0 =>
  jn (σ := PayEntry × Bool) (fun (lC, zB) =>
   jn (σ := PayEntry) (fun vD =>
    some (vD, (0 : Int))
    ) fun cF =>
   bif (!zB) then
    some ((⟨0, 0, 0, 0⟩ : PayEntry), (9 : Int))
   else
    cF (lC)
   ) fun mC =>
  Option.bind (α := Bool) (
   bif (j1.2 == (0 : Int)) then
    bif (u0.2 == (0 : Int)) then
     bif (o0.2.2.1 == (0 : Int)) then
      some ((o0.2.2.2 == (0 : Int)))
     else
      some (false)
    else
     some (false)
   else
    some (false)
   ) fun mA =>
  bif mA then
   some (m8, (0 : Int))
  else
   Option.bind (α := Bool) (
    bif (j1.2 == (1 : Int)) then
     bif (u0.2 == (1 : Int)) then
      bif (o0.2.2.1 == (0 : Int)) then
       bif (o0.2.2.2 == (0 : Int)) then
        (idx (o0.1) j1.1).bind fun qC =>
        (idx (o0.2.1) u0.1).bind fun rC =>
        some ((qC == rC))
       else
        some (false)
      else
       some (false)
     else
      some (false)
    else
     some (false)
    ) fun k9 =>
   bif k9 then
    (idx (((y5.1).PayTable).Rows) j1.1).bind fun dF =>
    (idx dF u0.1).bind fun v6 =>
    (idx (o0.1) j1.1).bind fun x6 =>
    (f21 ((0 : Int)) ((1000000 : Int)) (([(w64 (v6 - x6))] : List Int))).bind fun cD =>
    mC ((⟨(1 : Int), j1.1, u0.1, (w64 (v6 - x6))⟩ : PayEntry), cD)
   else
    Option.bind (α := Bool) (
     bif (j1.2 == (1 : Int)) then
      bif (u0.2 == (0 : Int)) then
       bif (o0.2.2.2 == (0 : Int)) then
        (idx (o0.1) j1.1).bind fun dC =>
        some ((dC == (w64 (0 - o0.2.2.1))))
       else
        some (false)
      else
       some (false)
     else
      some (false)
     ) fun c8 =>
    bif c8 then
     (idx (((y5.1).PayTable).Across) j1.1).bind fun n8 =>
     (idx (o0.1) j1.1).bind fun o8 =>
     mC ((⟨(2 : Int), j1.1, 0, (w64 (n8 + o8))⟩ : PayEntry), true)
    else
     Option.bind (α := Bool) (
      bif (j1.2 == (0 : Int)) then
       bif (u0.2 == (1 : Int)) then
        bif (o0.2.2.1 == (0 : Int)) then
         (idx (o0.2.1) u0.1).bind fun eC =>
         some ((eC == (w64 (0 - o0.2.2.2))))
        else
         some (false)
       else
        some (false)
      else
       some (false)
      ) fun g8 =>
     bif g8 then
      (idx (((y5.1).PayTable).Down) u0.1).bind fun q8 =>
      (idx (o0.2.1) u0.1).bind fun r8 =>
      mC ((⟨(3 : Int), 0, u0.1, (w64 (q8 + r8))⟩ : PayEntry), true)
     else
      Option.bind (α := Bool) (
       bif (j1.2 == (0 : Int)) then
        bif (u0.2 == (0 : Int)) then
         some ((o0.2.2.1 == o0.2.2.2))
        else
         some (false)
       else
        some (false)
       ) fun i8 =>
      bif i8 then
       (f38 (([(w64 (((y5.1).PayTable).Total + o0.2.2.1))] : List Int))).bind fun eD =>
       mC ((⟨(4 : Int), 0, 0, (w64 (((y5.1).PayTable).Total + o0.2.2.1))⟩ : PayEntry), eD)
      else
       mC (m8, false)
  ) fun mJ =>
 bif (y5.2 != (0 : Int)) then
  some ((⟨0, 0, 0, 0⟩ : PayEntry), y5.2)
 else
  mJ ((⟨0, 0, 0, 0⟩ : PayEntry))
theorem u6 {iO : Nat} {gI : Gh} {wI : World} {x0 : List Int} {up0 : Value} (rp0 : RV gI.m wI x0 up0) {r : (List Int)} (h : f6 x0 = some r) : FnG Try.prog 6 #[up0] gI wI (fun g w v => OS iO g w 3 r v ∧ RV g.m w r v) := by
 unfold f6 at h
 refine fnG_of_E Try.func6 rfl (Nat.le_of_ble_eq_true rfl) fun g0 hm hfr => ?_
 have rp0 : RV g0.m wI x0 up0 := hm ▸ rp0
 show E _ 6 none _ _ _ _ _
 refine E_seq (E_region (EL_at (.slice none 0 0) rfl rfl ?_))
 refine EL_nil (thn_n (E_seq (E_region (EL_do .plain rfl (D_buildSlice (g := g0) 3003 (xs := ([] : List Int)) (vs := []) Try.underlying22 Try.sizeOf3 Try.zeroValue3 rfl rfl .nil RVs.nil rfl rfl fun g1 w1 v1 hs o1 r1 hxt hfl => ?_)))))
 have hfr := hfr.stp hs
 have rp0 := rp0.stp hs
 refine EL_mw up0 rfl rfl ?_
 obtain ⟨y3, hy3, h⟩ := bsome h
 refine EL_do .plain rfl (D_append (g := g1) (i := 3003) Try.underlying22 info_3 rfl rfl o1 r1 rfl rp0 hy3 fun g2 w2 v2 hs o2 r2 _ => ?_)
 have hfr := hfr.stp hs
 refine EL_at v2 rfl rfl ?_
 refine EL_nil (thn_n (E_ret ?_))
 obtain rfl := sinj h
 obtain ⟨gh, hxh, homh, hrvh⟩ := OS.handn (i := iO) hfr o2 r2
 exact end1 rfl rfl (show _ = v2 from rfl) ⟨gh, hxh, homh, hrvh⟩
def f4 (x0 : UInt32) (x1 : List UInt16) (x2 : UInt8) : Option (Bool) :=
 (rem64 ((x0).toNat : Int) (1000000001 : Int)).bind fun y1 =>
 Option.bind (α := (List Int) × Int) (
  lp (σ := (List Int) × Int × Int) (fun yZ (gD, iD, n8) =>
   jn (σ := Unit) (fun _ =>
    Option.bind (α := (List Int) × Int) (
     (idx x1 n8).bind fun zT =>
     (rem64 ((zT).toNat : Int) (101 : Int)).bind fun nJ =>
     (apnd 8 gD (([nJ] : List Int))).bind fun zZ =>
     (idx x1 n8).bind fun aU =>
     (rem64 ((aU).toNat : Int) (101 : Int)).bind fun oJ =>
     some (zZ, (w64 (iD + oJ)))
     ) fun (yE, cH) =>
    yZ (yE, cH, (w64 (n8 + (1 : Int))))
    ) fun k44 =>
   Option.bind (α := Bool) (
    bif (decide (n8 < ((x1).length : Int))) then
     some ((decide (n8 < (9 : Int))))
    else
     some (false)
    ) fun mD =>
   bif mD then
    k44 ()
   else
    some (gD, iD)
   ) big (([] : List Int), (0 : Int), (0 : Int))
  ) fun (y6, i3) =>
 (f6 y6).bind fun y76 =>
 (f7 y1 y76).bind fun b7 =>
 jn (σ := Unit) (fun _ =>
  jn (σ := Unit) (fun _ =>
   jn (σ := Int) (fun nD =>
    jn (σ := Unit) (fun _ =>
     Option.bind (α := (List Int)) (
      lp (σ := (List Int) × Int) (fun pJ (tB, e9) =>
       jn (σ := Unit) (fun _ =>
        Option.bind (α := (List Int)) (
         (idx y6 e9).bind fun oD =>
         (rem64 ((x2).toNat : Int) (9 : Int)).bind fun cC =>
         (apnd 8 tB (([(w64 (oD * (w64 ((1 : Int) + cC))))] : List Int))).bind fun qJ =>
         some (qJ)
         ) fun vB =>
        pJ (vB, (w64 (e9 + (1 : Int))))
        ) fun rJ =>
       bif (decide (e9 < ((y6).length : Int))) then
        rJ ()
       else
        some (tB)
       ) big (([] : List Int), (0 : Int))
      ) fun iC =>
     (f7 y1 iC).bind fun k8 =>
     (f6 y6).bind fun sJ =>
     (apnd 8 sJ (([(0 : Int)] : List Int))).bind fun tJ =>
     (f7 y1 tJ).bind fun c8 =>
     jn (σ := Unit) (fun _ =>
      jn (σ := Unit) (fun _ =>
       (f5).bind fun zE =>
       some (zE)
       ) fun uJ =>
      lp (σ := Int) (fun vJ e7 =>
       jn (σ := Unit) (fun _ =>
        jn (σ := Unit) (fun _ =>
         vJ ((w64 (e7 + (1 : Int))))
         ) fun xJ =>
        Option.bind (α := Bool) (
         (idx (k8.1) e7).bind fun nA =>
         (idx (b7.1) e7).bind fun oA =>
         bif (nA != oA) then
          some (true)
         else
          (idx (c8.1) e7).bind fun sD =>
          (idx (b7.1) e7).bind fun tD =>
          some ((sD != tD))
         ) fun xA =>
        bif xA then
         some (false)
        else
         xJ ()
        ) fun yJ =>
       bif (decide (e7 < ((b7.1).length : Int))) then
        yJ ()
       else
        uJ ()
       ) big ((0 : Int))
      ) fun zJ =>
     Option.bind (α := Bool) (
      bif (k8.2 != (0 : Int)) then
       some (true)
      else
       bif (c8.2 != (0 : Int)) then
        some (true)
       else
        bif (((k8.1).length : Int) != ((b7.1).length : Int)) then
         some (true)
        else
         bif (((c8.1).length : Int) != (w64 (((b7.1).length : Int) + (1 : Int)))) then
          some (true)
         else
          (idx (c8.1) ((b7.1).length : Int)).bind fun cF =>
          some ((cF != (0 : Int)))
      ) fun yA =>
     bif yA then
      some (false)
     else
      zJ ()
     ) fun aK =>
    bif (nD != y1) then
     some (false)
    else
     aK ()
    ) fun bK =>
   lp (σ := Int × Int) (fun cK (m8, u0) =>
    jn (σ := Unit) (fun _ =>
     jn (σ := Int) (fun uD =>
      cK (uD, (w64 (u0 + (1 : Int))))
      ) fun dK =>
     (idx y6 u0).bind fun q5 =>
     jn (σ := Unit) (fun _ =>
      (idx (b7.1) u0).bind fun zA =>
      lp (σ := Int) (fun eK o0 =>
       jn (σ := Unit) (fun _ =>
        jn (σ := Unit) (fun _ =>
         eK ((w64 (o0 + (1 : Int))))
         ) fun lK =>
        (idx (b7.1) u0).bind fun a7 =>
        (idx (b7.1) o0).bind fun c7 =>
        (idx y6 o0).bind fun d7 =>
        Option.bind (α := Bool) (
         bif (decide (u0 < o0)) then
          (idx y6 u0).bind fun j6 =>
          (idx y6 o0).bind fun v6 =>
          bif (j6 == v6) then
           (idx (b7.1) u0).bind fun g7 =>
           (idx (b7.1) o0).bind fun i7 =>
           bif (g7 != i7) then
            (idx (b7.1) u0).bind fun l8 =>
            (idx (b7.1) o0).bind fun g8 =>
            bif (l8 != (w64 (g8 + (1 : Int)))) then
             some (true)
            else
             bif (decide ((w64 (a7 * i3)) > (w64 (y1 * q5)))) then
              bif (decide ((w64 (c7 * i3)) ≤ (w64 (y1 * d7)))) then
               (rem64 (w64 (y1 * q5)) i3).bind fun mC =>
               (idx y6 o0).bind fun dF =>
               (rem64 (w64 (y1 * dF)) i3).bind fun qC =>
               some ((decide (mC < qC)))
              else
               some (false)
             else
              some (false)
           else
            bif (decide ((w64 (a7 * i3)) > (w64 (y1 * q5)))) then
             bif (decide ((w64 (c7 * i3)) ≤ (w64 (y1 * d7)))) then
              (rem64 (w64 (y1 * q5)) i3).bind fun rC =>
              (idx y6 o0).bind fun eF =>
              (rem64 (w64 (y1 * eF)) i3).bind fun tC =>
              some ((decide (rC < tC)))
             else
              some (false)
            else
             some (false)
          else
           bif (decide ((w64 (a7 * i3)) > (w64 (y1 * q5)))) then
            bif (decide ((w64 (c7 * i3)) ≤ (w64 (y1 * d7)))) then
             (rem64 (w64 (y1 * q5)) i3).bind fun uC =>
             (idx y6 o0).bind fun iF =>
             (rem64 (w64 (y1 * iF)) i3).bind fun vC =>
             some ((decide (uC < vC)))
            else
             some (false)
           else
            some (false)
         else
          bif (decide ((w64 (a7 * i3)) > (w64 (y1 * q5)))) then
           bif (decide ((w64 (c7 * i3)) ≤ (w64 (y1 * d7)))) then
            (rem64 (w64 (y1 * q5)) i3).bind fun xC =>
            (idx y6 o0).bind fun nF =>
            (rem64 (w64 (y1 * nF)) i3).bind fun yC =>
            some ((decide (xC < yC)))
           else
            some (false)
          else
           some (false)
         ) fun aB =>
        bif aB then
         some (false)
        else
         lK ()
        ) fun mK =>
       bif (decide (o0 < ((b7.1).length : Int))) then
        mK ()
       else
        dK ((w64 (m8 + zA)))
       ) big ((0 : Int))
      ) fun nK =>
     Option.bind (α := Bool) (
      (idx (b7.1) u0).bind fun dC =>
      bif (decide ((w64 (dC * i3)) ≤ (w64 ((w64 (y1 * q5)) - i3)))) then
       some (true)
      else
       (idx (b7.1) u0).bind fun vD =>
       some ((decide ((w64 (vD * i3)) ≥ (w64 ((w64 (y1 * q5)) + i3)))))
      ) fun bB =>
     bif bB then
      some (false)
     else
      nK ()
     ) fun oK =>
    bif (decide (u0 < ((b7.1).length : Int))) then
     oK ()
    else
     bK (m8)
    ) big ((0 : Int), (0 : Int))
   ) fun bU =>
  Option.bind (α := Bool) (
   bif (b7.2 != (0 : Int)) then
    some (true)
   else
    some ((((b7.1).length : Int) != ((y6).length : Int)))
   ) fun aD =>
  bif aD then
   some (false)
  else
   bU ()
  ) fun k89 =>
 bif (i3 == (0 : Int)) then
  Option.bind (α := Bool) (
   bif (b7.2 == (2 : Int)) then
    bif (((b7.1).length : Int) == (0 : Int)) then
     (f5).bind fun y98 =>
     some (y98)
    else
     some (false)
   else
    some (false)
   ) fun dH =>
  some (dH)
 else
  k89 ()
theorem wk4 {gI : Gh} {wI : World} {x0 : UInt32} {x1 : List UInt16} {x2 : UInt8} {up1 : Value} (rp1 : RV gI.m wI x1 up1) {r : Bool} (h : f4 x0 x1 x2 = some r) : Fn Try.prog 4 #[.int .u32 (UInt32.toNat (x0)), up1, .int .u8 (UInt8.toNat (x2))] gI wI (fun _ _ v => v = .bool (r)) := by
 unfold f4 at h
 refine fn_of_E Try.func4 rfl (Nat.le_of_ble_eq_true rfl) fun g0 hm hfr => ?_
 have rp1 : RV g0.m wI x1 up1 := hm ▸ rp1
 show E _ 302 none _ _ _ _ _
 refine E_seq (E_region (EL_at (.bool false) rfl rfl ?_))
 refine EL_nil (thn_n (E_seq (E_region (EL_mw (.int .u32 (UInt32.toNat (x0))) rfl rfl ?_))))
 refine EL_p (.int .i64 (((x0).toNat : Int))) (P_u32int Try.underlying32 Try.underlying3 rfl) rfl ?_
 obtain ⟨y1, hy1, h⟩ := bsome h
 refine EL_p (.int .i64 (y1)) (P_int rfl rfl (congrArg (Option.map (Value.int .i64)) hy1)) rfl ?_
 refine EL_do .plain rfl (D_buildSlice (g := g0) 3029 (xs := ([] : List Int)) (vs := []) Try.underlying22 Try.sizeOf3 Try.zeroValue3 rfl rfl .nil RVs.nil rfl rfl fun g2 w2 v2 hs o2 r2 hxt hfl => ?_)
 have hfr := hfr.stp hs
 have rp1 := rp1.stp hs
 refine EL_at (.int .i64 (y1)) rfl rfl ?_
 refine EL_at v2 rfl rfl ?_
 refine EL_at (.int .i64 (0)) rfl rfl ?_
 refine EL_nil (thn_n ?_)
 obtain ⟨⟨y6, i3⟩, hx, h⟩ := bsome h
 refine E_join (fun e w => ∃ (g : Gh) (v8 : Value), Fr gI wI g w ∧ e 2 = .int .u8 (UInt8.toNat (x2)) ∧ e 7 = .int .i64 (y1) ∧ e 8 = v8 ∧ RV g.m w (y6 : List Int) v8 ∧ OS 3029 g w 3 (y6 : List Int) v8 ∧ e 9 = .int .i64 (i3)) (fun Q' hQ => ?_) (fun u05 w74 hR => ?_)
 ·replace h := hx
  clear hx
  refine E_seq (E_region (EL_at (.int .i64 (0)) rfl rfl ?_))
  refine EL_nil (thn_n (E_block ?_))
  refine E_lp h (fun (s : (List Int) × Int × Int) e w => ∃ (g : Gh) (v8 : Value), Fr gI wI g w ∧ e 1 = up1 ∧ RV g.m w (x1 : List UInt16) up1 ∧ e 2 = .int .u8 (UInt8.toNat (x2)) ∧ e 7 = .int .i64 (y1) ∧ e 8 = v8 ∧ RV g.m w (s.1 : List Int) v8 ∧ OS 3029 g w 3 (s.1 : List Int) v8 ∧ e 9 = .int .i64 (s.2.1) ∧ e 10 = .int .i64 (s.2.2)) ⟨g2, (v2), hfr, rfl, rp1, rfl, rfl, rfl, r2, o2, rfl, rfl⟩ (fun X38 yZ l00 => ?_)
  rintro ⟨gD, iD, n8⟩ v05 w39 ⟨g39, jD, hfr, gJ, iJ, sQ, tQ, uQ, vQ, xQ, yQ, oF⟩ h
  refine E_joinC h (fun (s : Unit) e w => ∃ (g : Gh) , Fr gI wI g w ∧ e 1 = up1 ∧ RV g.m w (x1 : List UInt16) up1 ∧ e 2 = .int .u8 (UInt8.toNat (x2)) ∧ e 7 = .int .i64 (y1) ∧ e 8 = jD ∧ RV g.m w (gD : List Int) jD ∧ OS 3029 g w 3 (gD : List Int) jD ∧ e 9 = .int .i64 (iD) ∧ e 10 = .int .i64 (n8)) (fun X44 k44 m00 h => ?_) ?_
  ·obtain ⟨mD, hx, h⟩ := bsome h
   refine E_join (fun e w => ∃ (g : Gh) , Fr gI wI g w ∧ e 1 = up1 ∧ RV g.m w (x1 : List UInt16) up1 ∧ e 2 = .int .u8 (UInt8.toNat (x2)) ∧ e 7 = .int .i64 (y1) ∧ e 8 = jD ∧ RV g.m w (gD : List Int) jD ∧ OS 3029 g w 3 (gD : List Int) jD ∧ e 9 = .int .i64 (iD) ∧ e 10 = .int .i64 (n8) ∧ e 37 = .bool (mD)) (fun Q' hQ => ?_) (fun x05 w47 hR => ?_)
   ·replace h := hx
    clear hx
    refine E_region (EL_mv oF rfl ?_)
    refine EL_mv gJ rfl ?_
    refine EL_p (.int .i64 ((x1).length : Int)) (P_len Try.underlying33 rfl iJ) rfl ?_
    refine EL_in (.bool ((decide (n8 < ((x1).length : Int))))) rfl rfl rfl rfl ?_
    refine EL_mw (.bool ((decide (n8 < ((x1).length : Int))))) rfl rfl ?_
    rcases csome h with ⟨nE, h⟩ | ⟨nE, h⟩
    ·refine EL_y (.int .i64 (n8)) (P_move oF) rfl rfl nE rfl ?_
     refine EL_y (.bool ((decide (n8 < (9 : Int))))) (P_int rfl rfl rfl) rfl rfl nE rfl ?_
     refine EL_p (.bool ((decide (n8 < (9 : Int))))) (P_pick (b := (decide (n8 < ((x1).length : Int)))) rfl (pick_t nE rfl)) rfl ?_
     refine EL_nil ?_
     obtain rfl := sinj h
     exact hQ _ _ ⟨g39, hfr, gJ, iJ, sQ, tQ, uQ, vQ, xQ, yQ, oF, rfl⟩
    ·refine EL_s rfl rfl nE rfl rfl ?_
     refine EL_s rfl rfl nE rfl rfl ?_
     refine EL_p (.bool false) (P_pick (b := (decide (n8 < ((x1).length : Int)))) rfl (pick_f nE rfl)) rfl ?_
     refine EL_nil ?_
     obtain rfl := sinj h
     exact hQ _ _ ⟨g39, hfr, gJ, iJ, sQ, tQ, uQ, vQ, xQ, yQ, oF, rfl⟩
   ·clear hx
    obtain ⟨g47, hfr, xY, yY, zQ, aR, bR, cR, dR, eR, cU, pK⟩ := hR
    rcases csome h with ⟨nO, h⟩ | ⟨nO, h⟩
    ·refine E_cond_true (Eq.trans (show ev _ _ = .bool (mD) from pK) (congrArg Value.bool nO)) ?_
     exact E_skip (thn_n (m00 () _ _ ⟨g47, hfr, xY, yY, zQ, aR, bR, cR, dR, eR, cU⟩ h))
    ·refine E_cond_false (Eq.trans (show ev _ _ = .bool (mD) from pK) (congrArg Value.bool nO)) ?_
     refine E_exit ?_
     refine thn_e ?_
     refine thn_e ?_
     refine blk_hit ?_
     obtain ⟨rfl, rfl⟩ := pairs2 h
     exact hQ _ _ ⟨g47, (jD), hfr, zQ, aR, bR, cR, dR, eR⟩
  ·rintro _ y05 w49 ⟨g49, hfr, jJ, aC, zY, aZ, bZ, kJ, lJ, cZ, gH⟩ h
   obtain ⟨⟨yE, cH⟩, hx, h⟩ := bsome h
   refine E_join (fun e w => ∃ (g : Gh) (v8 : Value), Fr gI wI g w ∧ e 1 = up1 ∧ RV g.m w (x1 : List UInt16) up1 ∧ e 2 = .int .u8 (UInt8.toNat (x2)) ∧ e 7 = .int .i64 (y1) ∧ e 8 = v8 ∧ RV g.m w (yE : List Int) v8 ∧ OS 3029 g w 3 (yE : List Int) v8 ∧ e 9 = .int .i64 (cH) ∧ e 10 = .int .i64 (n8)) (fun Q' hQ => ?_) (fun z05 w73 hR => ?_)
   ·replace h := hx
    clear hx
    refine E_block ?_
    refine E_seq (E_region (EL_mv bZ rfl ?_))
    refine EL_mv jJ rfl ?_
    refine EL_mv gH rfl ?_
    obtain ⟨zT, dU, h⟩ := bsome h
    refine EL_p (ePtr up1 n8 1) (P_indexAddr (α := UInt16) Try.underlying33 Try.sizeOf34 rfl aC rfl dU) rfl ?_
    have q62 := PT_idx aC dU
    refine EL_do .plain rfl (D_load (g := g49) Try.isAgg34 Try.sizeOf34 rfl q62 fun v63 r63 => ?_)
    obtain rfl := RV_u16.1 r63
    refine EL_p (.int .i64 (((zT).toNat : Int))) (P_u16int Try.underlying34 Try.underlying3 rfl) rfl ?_
    obtain ⟨nJ, n00, h⟩ := bsome h
    refine EL_p (.int .i64 (nJ)) (P_int rfl rfl (congrArg (Option.map (Value.int .i64)) n00)) rfl ?_
    refine EL_do .plain rfl (D_buildSlice (g := g49) 3047 (xs := ([nJ] : List Int)) (vs := [.int .i64 (nJ)]) Try.underlying22 Try.sizeOf3 Try.zeroValue3 rfl rfl (.cons rfl .nil) (RVs.cons (RV_int.2 rfl) RVs.nil) rfl rfl fun g66 w66 v66 hs o66 r66 hxt hfl => ?_)
    have hfr := hfr.stp hs
    have aC := aC.stp hs
    have kJ := kJ.stp hs
    have lJ := lJ.stp hs rfl
    obtain ⟨zZ, o00, h⟩ := bsome h
    refine EL_do .plain rfl (D_append (g := g66) (i := 3029) Try.underlying22 info_3 rfl rfl lJ kJ rfl r66 o00 fun g67 w67 v67 hs o67 r67 _ => ?_)
    have hfr := hfr.stp hs
    have aC := aC.stp hs
    refine EL_at v67 rfl rfl ?_
    refine EL_nil (thn_n (E_region (EL_mv cZ rfl ?_)))
    refine EL_mv jJ rfl ?_
    refine EL_mv gH rfl ?_
    obtain ⟨aU, eU, h⟩ := bsome h
    refine EL_p (ePtr up1 n8 1) (P_indexAddr (α := UInt16) Try.underlying33 Try.sizeOf34 rfl aC rfl eU) rfl ?_
    have q70 := PT_idx aC eU
    refine EL_do .plain rfl (D_load (g := g67) Try.isAgg34 Try.sizeOf34 rfl q70 fun v71 r71 => ?_)
    obtain rfl := RV_u16.1 r71
    refine EL_p (.int .i64 (((aU).toNat : Int))) (P_u16int Try.underlying34 Try.underlying3 rfl) rfl ?_
    obtain ⟨oJ, p00, h⟩ := bsome h
    refine EL_p (.int .i64 (oJ)) (P_int rfl rfl (congrArg (Option.map (Value.int .i64)) p00)) rfl ?_
    refine EL_in (.int .i64 ((w64 (iD + oJ)))) rfl rfl rfl rfl ?_
    refine EL_at (.int .i64 ((w64 (iD + oJ)))) rfl rfl ?_
    refine EL_nil (blk_n ?_)
    obtain ⟨rfl, rfl⟩ := pairs2 h
    exact hQ _ _ ⟨g67, (v67), hfr, jJ, aC, zY, aZ, rfl, r67, o67, rfl, gH⟩
   ·clear hx
    obtain ⟨g73, dZ, hfr, mZ, nZ, oZ, pZ, qZ, rZ, sZ, tZ, gU⟩ := hR
    refine E_region (EL_mv gU rfl ?_)
    refine EL_in (.int .i64 ((w64 (n8 + (1 : Int))))) rfl rfl rfl rfl ?_
    refine EL_at (.int .i64 ((w64 (n8 + (1 : Int))))) rfl rfl ?_
    exact EL_nil (thn_n (l00 (yE, cH, (w64 (n8 + (1 : Int)))) _ _ ⟨g73, (dZ), hfr, mZ, nZ, oZ, pZ, qZ, rZ, sZ, tZ, rfl⟩ h))
 ·clear hx
  obtain ⟨g74, z3, hfr, uZ, gR, iR, kE, pF, jR⟩ := hR
  refine E_seq (E_region (EL_mv gR rfl ?_))
  refine EL_mv iR rfl ?_
  obtain ⟨y76, q00, h⟩ := bsome h
  refine EL_do .plain rfl (D_call (g := g74) (vs := [z3]) en6 (.cons rfl .nil) (wk6 kE q00) fun g75 a06 v75 hs hr => ?_)
  have hfr := hfr.ext hs
  have kE := kE.ext hs
  have pF := pF.ext hs
  have r75 := hr
  obtain ⟨b7, r00, h⟩ := bsome h
  refine EL_do .plain rfl (D_call (g := g75) (vs := [.int .i64 (y1), v75]) en7 (.cons rfl (.cons rfl .nil)) (wk7 r75 r00) fun lR b06 v77 hs hr => ?_)
  have hfr := hfr.ext hs
  have kE := kE.ext hs
  have pF := pF.ext hs
  obtain ⟨u3, q05, rfl, mR, rfl⟩ := hr
  refine EL_mw (.tuple #[u3, .int .i64 (b7.2)]) rfl rfl ?_
  refine EL_p u3 (P_extract rfl rfl) rfl ?_
  refine EL_p (.int .i64 (b7.2)) (P_extract rfl rfl) rfl ?_
  refine EL_at u3 rfl rfl ?_
  refine EL_at (.int .i64 (b7.2)) rfl rfl ?_
  refine EL_nil (thn_n (E_joinC h (fun (s : Unit) e w => ∃ (g : Gh) , Fr gI wI g w ∧ e 2 = .int .u8 (UInt8.toNat (x2)) ∧ e 7 = .int .i64 (y1) ∧ e 8 = z3 ∧ RV g.m w (y6 : List Int) z3 ∧ OS 3029 g w 3 (y6 : List Int) z3 ∧ e 9 = .int .i64 (i3) ∧ e 11 = u3 ∧ RV g.m w (b7.1 : List Int) u3 ∧ e 12 = .int .i64 (b7.2)) (fun X89 k89 s00 h => ?_) ?_))
  ·refine E_seq (E_region (EL_mv jR rfl ?_))
   refine EL_in (.bool ((i3 == (0 : Int)))) rfl rfl rfl rfl ?_
   refine EL_nil (thn_n ?_)
   rcases csome h with ⟨oO, h⟩ | ⟨oO, h⟩
   ·refine E_ct oO rfl ?_
    obtain ⟨dH, hx, h⟩ := bsome h
    refine E_join (fun e w => ∃ (g : Gh) , Fr gI wI g w ∧ e 6 = .bool (dH)) (fun Q' hQ => ?_) (fun c06 w99 hR => ?_)
    ·replace h := hx
     clear hx
     refine E_region (EL_mw (.int .i64 (b7.2)) rfl rfl ?_)
     refine EL_in (.bool ((b7.2 == (2 : Int)))) rfl rfl rfl rfl ?_
     refine EL_mw (.bool ((b7.2 == (2 : Int)))) rfl rfl ?_
     rcases csome h with ⟨kD, h⟩ | ⟨kD, h⟩
     ·refine EL_y u3 (P_move rfl) rfl rfl kD rfl ?_
      refine EL_y (.int .i64 ((b7.1).length : Int)) (P_len Try.underlying22 rfl mR) rfl rfl kD rfl ?_
      refine EL_y (.bool ((((b7.1).length : Int) == (0 : Int)))) (P_int rfl rfl rfl) rfl rfl kD rfl ?_
      refine EL_p (.bool ((((b7.1).length : Int) == (0 : Int)))) (P_pick (b := (b7.2 == (2 : Int))) rfl (pick_t kD rfl)) rfl ?_
      refine EL_mw (.bool ((((b7.1).length : Int) == (0 : Int)))) rfl rfl ?_
      rcases csome h with ⟨iH, h⟩ | ⟨iH, h⟩
      ·obtain ⟨y98, t00, h⟩ := bsome h
       refine EL_do (.yes2 rfl rfl iH) rfl (D_call (g := lR) (vs := []) en5 .nil (wk5  t00) fun g97 d06 v97 hs hr => ?_)
       have hfr := hfr.ext hs
       subst hr
       refine EL_p (.bool (y98)) (P_pick (b := (((b7.1).length : Int) == (0 : Int))) rfl (pick_t iH rfl)) rfl ?_
       refine EL_at (.bool (y98)) rfl rfl ?_
       refine EL_nil ?_
       obtain rfl := sinj h
       exact hQ _ _ ⟨g97, hfr, rfl⟩
      ·refine EL_s rfl rfl iH rfl rfl ?_
       refine EL_p (.bool false) (P_pick (b := (((b7.1).length : Int) == (0 : Int))) rfl (pick_f iH rfl)) rfl ?_
       refine EL_at (.bool false) rfl rfl ?_
       refine EL_nil ?_
       obtain rfl := sinj h
       exact hQ _ _ ⟨lR, hfr, rfl⟩
     ·refine EL_s rfl rfl kD rfl rfl ?_
      refine EL_s rfl rfl kD rfl rfl ?_
      refine EL_s rfl rfl kD rfl rfl ?_
      refine EL_p (.bool false) (P_pick (b := (b7.2 == (2 : Int))) rfl (pick_f kD rfl)) rfl ?_
      refine EL_dead 3 rfl ?_
      refine EL_at (.bool false) rfl rfl ?_
      refine EL_nil ?_
      obtain rfl := sinj h
      exact hQ _ _ ⟨lR, hfr, rfl⟩
    ·clear hx
     obtain ⟨g99, hfr, vZ⟩ := hR
     refine E_ret (thn_r ?_)
     obtain rfl := sinj h
     exact end1 rfl rfl (show _ = .bool (dH) from vZ) ⟨_, hfr, rfl⟩
   ·refine E_cf oO rfl ?_
    exact E_skip (thn_n (s00 () _ _ ⟨lR, hfr, uZ, gR, iR, kE, pF, jR, rfl, mR, rfl⟩ h))
  ·rintro _ r05 e06 ⟨iU, hfr, qK, sK, jH, kH, tK, uK, uF, vF, nR⟩ h
   refine E_joinC h (fun (s : Unit) e w => ∃ (g : Gh) , Fr gI wI g w ∧ e 2 = .int .u8 (UInt8.toNat (x2)) ∧ e 7 = .int .i64 (y1) ∧ e 8 = z3 ∧ RV g.m w (y6 : List Int) z3 ∧ OS 3029 g w 3 (y6 : List Int) z3 ∧ e 9 = .int .i64 (i3) ∧ e 11 = u3 ∧ RV g.m w (b7.1 : List Int) u3) (fun X105 bU xZ h => ?_) ?_
   ·obtain ⟨aD, hx, h⟩ := bsome h
    refine E_join (fun e w => ∃ (g : Gh) , Fr gI wI g w ∧ e 2 = .int .u8 (UInt8.toNat (x2)) ∧ e 7 = .int .i64 (y1) ∧ e 8 = z3 ∧ RV g.m w (y6 : List Int) z3 ∧ OS 3029 g w 3 (y6 : List Int) z3 ∧ e 9 = .int .i64 (i3) ∧ e 11 = u3 ∧ RV g.m w (b7.1 : List Int) u3 ∧ e 84 = .bool (aD)) (fun Q' hQ => ?_) (fun s05 g06 hR => ?_)
    ·replace h := hx
     clear hx
     refine E_region (EL_mv nR rfl ?_)
     refine EL_in (.bool ((b7.2 != (0 : Int)))) rfl rfl rfl rfl ?_
     refine EL_mw (.bool ((b7.2 != (0 : Int)))) rfl rfl ?_
     rcases csome h with ⟨oB, h⟩ | ⟨oB, h⟩
     ·refine EL_s rfl rfl oB rfl rfl ?_
      iterate 4 refine EL_s rfl rfl oB rfl rfl ?_
      refine EL_p (.bool true) (P_pick (b := (b7.2 != (0 : Int))) rfl (pick_t oB rfl)) rfl ?_
      refine EL_nil ?_
      obtain rfl := sinj h
      exact hQ _ _ ⟨iU, hfr, qK, sK, jH, kH, tK, uK, uF, vF, rfl⟩
     ·refine EL_y u3 (P_move uF) rfl rfl oB rfl ?_
      refine EL_y (.int .i64 ((b7.1).length : Int)) (P_len Try.underlying22 rfl vF) rfl rfl oB rfl ?_
      refine EL_y z3 (P_move jH) rfl rfl oB rfl ?_
      refine EL_y (.int .i64 ((y6).length : Int)) (P_len Try.underlying22 rfl kH) rfl rfl oB rfl ?_
      refine EL_y (.bool ((((b7.1).length : Int) != ((y6).length : Int)))) (P_int rfl rfl rfl) rfl rfl oB rfl ?_
      refine EL_p (.bool ((((b7.1).length : Int) != ((y6).length : Int)))) (P_pick (b := (b7.2 != (0 : Int))) rfl (pick_f oB rfl)) rfl ?_
      refine EL_nil ?_
      obtain rfl := sinj h
      exact hQ _ _ ⟨iU, hfr, qK, sK, jH, kH, tK, uK, uF, vF, rfl⟩
    ·clear hx
     obtain ⟨u00, hfr, jU, kU, lU, mU, nU, oU, oR, pR, lI⟩ := hR
     rcases csome h with ⟨mJ, h⟩ | ⟨mJ, h⟩
     ·refine E_cond_true (Eq.trans (show ev _ _ = .bool (aD) from lI) (congrArg Value.bool mJ)) ?_
      refine E_seq (E_region (EL_at (.bool false) rfl rfl ?_))
      refine EL_nil (thn_n (E_ret (thn_r ?_)))
      obtain rfl := sinj h
      exact end1 rfl rfl (show _ = .bool false from rfl) ⟨_, hfr, rfl⟩
     ·refine E_cond_false (Eq.trans (show ev _ _ = .bool (aD) from lI) (congrArg Value.bool mJ)) ?_
      exact E_skip (thn_n (xZ () _ _ ⟨u00, hfr, jU, kU, lU, mU, nU, oU, oR, pR⟩ h))
   ·rintro _ t05 h06 ⟨v00, hfr, pU, qU, rU, sU, tU, uU, qR, rR⟩ h
    refine E_seq (E_region (EL_at (.int .i64 (0)) rfl rfl ?_))
    refine EL_nil (thn_n (E_joinC h (fun (s : Int) e w => ∃ (g : Gh) , Fr gI wI g w ∧ e 2 = .int .u8 (UInt8.toNat (x2)) ∧ e 7 = .int .i64 (y1) ∧ e 8 = z3 ∧ RV g.m w (y6 : List Int) z3 ∧ OS 3029 g w 3 (y6 : List Int) z3 ∧ e 11 = u3 ∧ RV g.m w (b7.1 : List Int) u3 ∧ e 13 = .int .i64 (s)) (fun X10151 bK tR h => ?_) ?_))
    ·refine E_seq (E_region (EL_at (.int .i64 (0)) rfl rfl ?_))
     refine EL_nil (thn_n (E_block ?_))
     refine E_lp h (fun (s : Int × Int) e w => ∃ (g : Gh) , Fr gI wI g w ∧ e 2 = .int .u8 (UInt8.toNat (x2)) ∧ e 7 = .int .i64 (y1) ∧ e 8 = z3 ∧ RV g.m w (y6 : List Int) z3 ∧ OS 3029 g w 3 (y6 : List Int) z3 ∧ e 9 = .int .i64 (i3) ∧ e 11 = u3 ∧ RV g.m w (b7.1 : List Int) u3 ∧ e 13 = .int .i64 (s.1) ∧ e 14 = .int .i64 (s.2)) ⟨v00, hfr, pU, qU, rU, sU, tU, uU, qR, rR, rfl, rfl⟩ (fun X10152 cK uR => ?_)
     rintro ⟨m8, u0⟩ a01 o02 ⟨vK, hfr, lH, mH, nH, oH, pH, pO, xD, yD, jG, kG⟩ h
     refine E_joinC h (fun (s : Unit) e w => ∃ (g : Gh) , Fr gI wI g w ∧ e 2 = .int .u8 (UInt8.toNat (x2)) ∧ e 7 = .int .i64 (y1) ∧ e 8 = z3 ∧ RV g.m w (y6 : List Int) z3 ∧ OS 3029 g w 3 (y6 : List Int) z3 ∧ e 9 = .int .i64 (i3) ∧ e 11 = u3 ∧ RV g.m w (b7.1 : List Int) u3 ∧ e 13 = .int .i64 (m8) ∧ e 14 = .int .i64 (u0)) (fun X10155 oK vR h => ?_) ?_
     ·refine E_seq (E_region (EL_mv kG rfl ?_))
      refine EL_mv xD rfl ?_
      refine EL_p (.int .i64 ((b7.1).length : Int)) (P_len Try.underlying22 rfl yD) rfl ?_
      refine EL_in (.bool ((decide (u0 < ((b7.1).length : Int))))) rfl rfl rfl rfl ?_
      refine EL_nil (thn_n ?_)
      rcases csome h with ⟨xF, h⟩ | ⟨xF, h⟩
      ·refine E_ct xF rfl ?_
       exact E_skip (thn_n (vR () _ _ ⟨vK, hfr, lH, mH, nH, oH, pH, pO, xD, yD, jG, kG⟩ h))
      ·refine E_cf xF rfl ?_
       refine E_exit ?_
       refine thn_e ?_
       refine thn_e ?_
       refine blk_hit ?_
       exact thn_n (tR (m8) _ _ ⟨vK, hfr, lH, mH, nH, oH, pH, xD, yD, jG⟩ h)
     ·rintro _ b01 p02 ⟨zD, hfr, qH, oE, rE, lD, sH, cB, jC, qA, lG, xB⟩ h
      refine E_joinC h (fun (s : Int) e w => ∃ (g : Gh) , Fr gI wI g w ∧ e 2 = .int .u8 (UInt8.toNat (x2)) ∧ e 7 = .int .i64 (y1) ∧ e 8 = z3 ∧ RV g.m w (y6 : List Int) z3 ∧ OS 3029 g w 3 (y6 : List Int) z3 ∧ e 9 = .int .i64 (i3) ∧ e 11 = u3 ∧ RV g.m w (b7.1 : List Int) u3 ∧ e 13 = .int .i64 (s) ∧ e 14 = .int .i64 (u0)) (fun X15174 dK xR h => ?_) ?_
      ·refine E_block ?_
       refine E_seq (E_region (EL_mv oE rfl ?_))
       refine EL_mv rE rfl ?_
       refine EL_mv xB rfl ?_
       obtain ⟨q5, mI, h⟩ := bsome h
       refine EL_p (ePtr z3 u0 1) (P_indexAddr (α := Int) Try.underlying22 Try.sizeOf3 rfl lD rfl mI) rfl ?_
       have vU := PT_idx lD mI
       refine EL_do .plain rfl (D_load (g := zD) Try.isAgg3 Try.sizeOf3 rfl vU fun q02 xU => ?_)
       obtain rfl := RV_int.1 xU
       refine EL_in (.int .i64 ((w64 (y1 * q5)))) rfl rfl rfl rfl ?_
       refine EL_at (.int .i64 ((w64 (y1 * q5)))) rfl rfl ?_
       refine EL_nil (thn_n (E_joinC h (fun (s : Unit) e w => ∃ (g : Gh) , Fr gI wI g w ∧ e 2 = .int .u8 (UInt8.toNat (x2)) ∧ e 7 = .int .i64 (y1) ∧ e 8 = z3 ∧ RV g.m w (y6 : List Int) z3 ∧ OS 3029 g w 3 (y6 : List Int) z3 ∧ e 9 = .int .i64 (i3) ∧ e 11 = u3 ∧ RV g.m w (b7.1 : List Int) u3 ∧ e 13 = .int .i64 (m8) ∧ e 14 = .int .i64 (u0) ∧ e 15 = .int .i64 ((w64 (y1 * q5)))) (fun X15194 nK yR h => ?_) ?_))
       ·obtain ⟨bB, hx, h⟩ := bsome h
        refine E_join (fun e w => ∃ (g : Gh) , Fr gI wI g w ∧ e 2 = .int .u8 (UInt8.toNat (x2)) ∧ e 7 = .int .i64 (y1) ∧ e 8 = z3 ∧ RV g.m w (y6 : List Int) z3 ∧ OS 3029 g w 3 (y6 : List Int) z3 ∧ e 9 = .int .i64 (i3) ∧ e 11 = u3 ∧ RV g.m w (b7.1 : List Int) u3 ∧ e 13 = .int .i64 (m8) ∧ e 14 = .int .i64 (u0) ∧ e 15 = .int .i64 ((w64 (y1 * q5))) ∧ e 118 = .bool (bB)) (fun Q' hQ => ?_) (fun c01 r02 hR => ?_)
        ·replace h := hx
         clear hx
         refine E_region (EL_mv jC rfl ?_)
         refine EL_mv xB rfl ?_
         obtain ⟨dC, nI, h⟩ := bsome h
         refine EL_p (ePtr u3 u0 1) (P_indexAddr (α := Int) Try.underlying22 Try.sizeOf3 rfl qA rfl nI) rfl ?_
         have yU := PT_idx qA nI
         refine EL_do .plain rfl (D_load (g := zD) Try.isAgg3 Try.sizeOf3 rfl yU fun s02 zU => ?_)
         obtain rfl := RV_int.1 zU
         refine EL_mv cB rfl ?_
         refine EL_in (.int .i64 ((w64 (dC * i3)))) rfl rfl rfl rfl ?_
         refine EL_mw (.int .i64 ((w64 (y1 * q5)))) rfl rfl ?_
         refine EL_mv cB rfl ?_
         refine EL_in (.int .i64 ((w64 ((w64 (y1 * q5)) - i3)))) rfl rfl rfl rfl ?_
         refine EL_p (.bool ((decide ((w64 (dC * i3)) ≤ (w64 ((w64 (y1 * q5)) - i3)))))) (P_int rfl rfl rfl) rfl ?_
         refine EL_p (.bool ((decide ((w64 (dC * i3)) ≤ (w64 ((w64 (y1 * q5)) - i3)))))) (P_move rfl) rfl ?_
         rcases csome h with ⟨a9, h⟩ | ⟨a9, h⟩
         ·refine EL_s rfl rfl a9 rfl rfl ?_
          iterate 9 refine EL_s rfl rfl a9 rfl rfl ?_
          refine EL_p (.bool true) (P_pick (b := (decide ((w64 (dC * i3)) ≤ (w64 ((w64 (y1 * q5)) - i3))))) rfl (pick_t a9 rfl)) rfl ?_
          refine EL_nil ?_
          obtain rfl := sinj h
          exact hQ _ _ ⟨zD, hfr, qH, oE, rE, lD, sH, cB, jC, qA, lG, xB, rfl, rfl⟩
         ·refine EL_y u3 (P_move jC) rfl rfl a9 rfl ?_
          refine EL_y (.int .i64 (u0)) (P_move xB) rfl rfl a9 rfl ?_
          obtain ⟨vD, pI, h⟩ := bsome h
          refine EL_y (ePtr u3 u0 1) (P_indexAddr (α := Int) Try.underlying22 Try.sizeOf3 rfl qA rfl pI) rfl rfl a9 rfl ?_
          have aV := PT_idx qA pI
          refine EL_do (.yes2 rfl rfl a9) rfl (D_load (g := zD) Try.isAgg3 Try.sizeOf3 rfl aV fun t02 bV => ?_)
          obtain rfl := RV_int.1 bV
          refine EL_y (.int .i64 (i3)) (P_move cB) rfl rfl a9 rfl ?_
          refine EL_y (.int .i64 ((w64 (vD * i3)))) (P_int rfl rfl rfl) rfl rfl a9 rfl ?_
          refine EL_y (.int .i64 ((w64 (y1 * q5)))) (P_move rfl) rfl rfl a9 rfl ?_
          refine EL_y (.int .i64 (i3)) (P_move cB) rfl rfl a9 rfl ?_
          refine EL_y (.int .i64 ((w64 ((w64 (y1 * q5)) + i3)))) (P_int rfl rfl rfl) rfl rfl a9 rfl ?_
          refine EL_y (.bool ((decide ((w64 (vD * i3)) ≥ (w64 ((w64 (y1 * q5)) + i3)))))) (P_int rfl rfl rfl) rfl rfl a9 rfl ?_
          refine EL_p (.bool ((decide ((w64 (vD * i3)) ≥ (w64 ((w64 (y1 * q5)) + i3)))))) (P_pick (b := (decide ((w64 (dC * i3)) ≤ (w64 ((w64 (y1 * q5)) - i3))))) rfl (pick_f a9 rfl)) rfl ?_
          refine EL_nil ?_
          obtain rfl := sinj h
          exact hQ _ _ ⟨zD, hfr, qH, oE, rE, lD, sH, cB, jC, qA, lG, xB, rfl, rfl⟩
        ·clear hx
         obtain ⟨cV, hfr, qO, rO, sO, tO, uO, vO, xK, yK, zK, aL, bL, qF⟩ := hR
         rcases csome h with ⟨yF, h⟩ | ⟨yF, h⟩
         ·refine E_cond_true (Eq.trans (show ev _ _ = .bool (bB) from qF) (congrArg Value.bool yF)) ?_
          refine E_seq (E_region (EL_at (.bool false) rfl rfl ?_))
          refine EL_nil (thn_n (E_ret (thn_r ?_)))
          refine blk_r ?_
          refine thn_r ?_
          refine thn_r ?_
          refine blk_r ?_
          refine thn_r ?_
          obtain rfl := sinj h
          exact end1 rfl rfl (show _ = .bool false from rfl) ⟨_, hfr, rfl⟩
         ·refine E_cond_false (Eq.trans (show ev _ _ = .bool (bB) from qF) (congrArg Value.bool yF)) ?_
          exact E_skip (thn_n (yR () _ _ ⟨cV, hfr, qO, rO, sO, tO, uO, vO, xK, yK, zK, aL, bL⟩ h))
       ·rintro _ d01 u02 ⟨cL, hfr, xO, yO, zO, aP, bP, cP, mG, aE, dL, nG, eL⟩ h
        refine E_seq (E_region (EL_mv dL rfl ?_))
        refine EL_mv mG rfl ?_
        refine EL_mv nG rfl ?_
        obtain ⟨zA, qI, h⟩ := bsome h
        refine EL_p (ePtr u3 u0 1) (P_indexAddr (α := Int) Try.underlying22 Try.sizeOf3 rfl aE rfl qI) rfl ?_
        have dV := PT_idx aE qI
        refine EL_do .plain rfl (D_load (g := cL) Try.isAgg3 Try.sizeOf3 rfl dV fun v02 eV => ?_)
        obtain rfl := RV_int.1 eV
        refine EL_in (.int .i64 ((w64 (m8 + zA)))) rfl rfl rfl rfl ?_
        refine EL_at (.int .i64 ((w64 (m8 + zA)))) rfl rfl ?_
        refine EL_nil (thn_n (E_seq (E_region (EL_at (.int .i64 (0)) rfl rfl ?_))))
        refine EL_nil (thn_n (E_block ?_))
        refine E_lp h (fun (s : Int) e w => ∃ (g : Gh) , Fr gI wI g w ∧ e 2 = .int .u8 (UInt8.toNat (x2)) ∧ e 7 = .int .i64 (y1) ∧ e 8 = z3 ∧ RV g.m w (y6 : List Int) z3 ∧ OS 3029 g w 3 (y6 : List Int) z3 ∧ e 9 = .int .i64 (i3) ∧ e 11 = u3 ∧ RV g.m w (b7.1 : List Int) u3 ∧ e 13 = .int .i64 ((w64 (m8 + zA))) ∧ e 14 = .int .i64 (u0) ∧ e 15 = .int .i64 ((w64 (y1 * q5))) ∧ e 16 = .int .i64 (s)) ⟨cL, hfr, xO, yO, zO, aP, bP, cP, mG, aE, rfl, nG, eL, rfl⟩ (fun X15215 eK zR => ?_)
        rintro o0 e01 x02 ⟨gL, hfr, tH, uH, vH, xH, yH, zH, bE, cE, oG, pG, iL, qG⟩ h
        refine E_joinC h (fun (s : Unit) e w => ∃ (g : Gh) , Fr gI wI g w ∧ e 2 = .int .u8 (UInt8.toNat (x2)) ∧ e 7 = .int .i64 (y1) ∧ e 8 = z3 ∧ RV g.m w (y6 : List Int) z3 ∧ OS 3029 g w 3 (y6 : List Int) z3 ∧ e 9 = .int .i64 (i3) ∧ e 11 = u3 ∧ RV g.m w (b7.1 : List Int) u3 ∧ e 13 = .int .i64 ((w64 (m8 + zA))) ∧ e 14 = .int .i64 (u0) ∧ e 15 = .int .i64 ((w64 (y1 * q5))) ∧ e 16 = .int .i64 (o0)) (fun X15218 mK aS h => ?_) ?_
        ·refine E_seq (E_region (EL_mv qG rfl ?_))
         refine EL_mv bE rfl ?_
         refine EL_p (.int .i64 ((b7.1).length : Int)) (P_len Try.underlying22 rfl cE) rfl ?_
         refine EL_in (.bool ((decide (o0 < ((b7.1).length : Int))))) rfl rfl rfl rfl ?_
         refine EL_nil (thn_n ?_)
         rcases csome h with ⟨zF, h⟩ | ⟨zF, h⟩
         ·refine E_ct zF rfl ?_
          exact E_skip (thn_n (aS () _ _ ⟨gL, hfr, tH, uH, vH, xH, yH, zH, bE, cE, oG, pG, iL, qG⟩ h))
         ·refine E_cf zF rfl ?_
          refine E_exit ?_
          refine thn_e ?_
          refine thn_e ?_
          refine blk_hit ?_
          exact blk_n (thn_n (xR ((w64 (m8 + zA))) _ _ ⟨gL, hfr, tH, uH, vH, xH, yH, zH, bE, cE, oG, pG⟩ h))
        ·rintro _ g01 y02 ⟨gV, hfr, d9, i8, x6, o3, i6, j7, x5, j3, o8, l5, n7, i5⟩ h
         refine E_joinC h (fun (s : Unit) e w => ∃ (g : Gh) , Fr gI wI g w ∧ e 2 = .int .u8 (UInt8.toNat (x2)) ∧ e 7 = .int .i64 (y1) ∧ e 8 = z3 ∧ RV g.m w (y6 : List Int) z3 ∧ OS 3029 g w 3 (y6 : List Int) z3 ∧ e 9 = .int .i64 (i3) ∧ e 11 = u3 ∧ RV g.m w (b7.1 : List Int) u3 ∧ e 13 = .int .i64 ((w64 (m8 + zA))) ∧ e 14 = .int .i64 (u0) ∧ e 15 = .int .i64 ((w64 (y1 * q5))) ∧ e 16 = .int .i64 (o0)) (fun X17705 lK bS h => ?_) ?_
         ·refine E_block ?_
          refine E_seq ?_
          obtain ⟨a7, rI, h⟩ := bsome h
          have iV := PT_idx j3 rI
          refine L_load (x := .tmp 133) Try.isAgg3 Try.sizeOf3 iV fun z02 jV cS => ?_
          obtain rfl := RV_int.1 jV
          obtain ⟨c7, sI, h⟩ := bsome h
          have kV := PT_idx j3 sI
          refine L_load (x := .tmp 141) Try.isAgg3 Try.sizeOf3 kV fun a03 lV dS => ?_
          obtain rfl := RV_int.1 lV
          obtain ⟨d7, tI, h⟩ := bsome h
          have mV := PT_idx o3 tI
          refine L_load (x := .tmp 148) Try.isAgg3 Try.sizeOf3 mV fun b03 nV eS => ?_
          obtain rfl := RV_int.1 nV
          refine E_drawL (g := gV) (n := 23) [] [0, 1, 2, 3, 4, 5, 6, 7, 8, 9, 10, 11, 12, 13, 14, 15, 16, 17, 18, 19, 20, 21, 22] rfl mixed (by kernel_rfl) trivial ?_
          refine L_p u3 rfl rfl (P_move x5) ?_
          refine L_p (.int .i64 (u0)) rfl rfl (P_move l5) ?_
          refine L_p (ePtr u3 u0 1) rfl rfl (P_indexAddr (α := Int) Try.underlying22 Try.sizeOf3 rfl j3 rfl rI) ?_
          refine L_ld (c := .int .i64 (a7)) rfl rfl .plain (fun _ _ h => h.ch) cS rfl ?_
          refine L_p (.int .i64 (i3)) rfl rfl (P_move j7) ?_
          refine L_p (.int .i64 ((w64 (a7 * i3)))) rfl rfl (P_int rfl rfl rfl) ?_
          refine L_p (.int .i64 ((w64 (y1 * q5)))) rfl rfl (P_move n7) ?_
          refine L_p (.bool ((decide ((w64 (a7 * i3)) > (w64 (y1 * q5)))))) rfl rfl (P_int rfl rfl rfl) ?_
          refine L_p u3 rfl rfl (P_move x5) ?_
          refine L_p (.int .i64 (o0)) rfl rfl (P_move i5) ?_
          refine L_p (ePtr u3 o0 1) rfl rfl (P_indexAddr (α := Int) Try.underlying22 Try.sizeOf3 rfl j3 rfl sI) ?_
          refine L_ld (c := .int .i64 (c7)) rfl rfl .plain (fun _ _ h => h.ch) dS rfl ?_
          refine L_p (.int .i64 (i3)) rfl rfl (P_move j7) ?_
          refine L_p (.int .i64 ((w64 (c7 * i3)))) rfl rfl (P_int rfl rfl rfl) ?_
          refine L_p (.int .i64 (y1)) rfl rfl (P_move i8) ?_
          refine L_p z3 rfl rfl (P_move x6) ?_
          refine L_p (.int .i64 (o0)) rfl rfl (P_move i5) ?_
          refine L_p (ePtr z3 o0 1) rfl rfl (P_indexAddr (α := Int) Try.underlying22 Try.sizeOf3 rfl o3 rfl tI) ?_
          refine L_ld (c := .int .i64 (d7)) rfl rfl .plain (fun _ _ h => h.ch) eS rfl ?_
          refine L_p (.int .i64 ((w64 (y1 * d7)))) rfl rfl (P_int rfl rfl rfl) ?_
          refine L_p (.bool ((decide ((w64 (c7 * i3)) ≤ (w64 (y1 * d7)))))) rfl rfl (P_int rfl rfl rfl) ?_
          refine L_p (.bool ((decide ((w64 (a7 * i3)) > (w64 (y1 * q5)))))) rfl rfl (P_assign rfl) ?_
          refine L_p (.bool ((decide ((w64 (c7 * i3)) ≤ (w64 (y1 * d7)))))) rfl rfl (P_assign rfl) ?_
          refine L_nl fun n9 c03 hs => ?_
          have hfr := hfr.ext hs
          have o3 := o3.ext hs
          have i6 := i6.ext hs
          have j3 := j3.ext hs
          clear hs
          refine EL_nil (thn_n ?_)
          obtain ⟨aB, hx, h⟩ := bsome h
          refine E_join (fun e w => ∃ (g : Gh) , Fr gI wI g w ∧ e 2 = .int .u8 (UInt8.toNat (x2)) ∧ e 7 = .int .i64 (y1) ∧ e 8 = z3 ∧ RV g.m w (y6 : List Int) z3 ∧ OS 3029 g w 3 (y6 : List Int) z3 ∧ e 9 = .int .i64 (i3) ∧ e 11 = u3 ∧ RV g.m w (b7.1 : List Int) u3 ∧ e 13 = .int .i64 ((w64 (m8 + zA))) ∧ e 14 = .int .i64 (u0) ∧ e 15 = .int .i64 ((w64 (y1 * q5))) ∧ e 16 = .int .i64 (o0) ∧ e 208 = .bool (aB)) (fun Q' hQ => ?_) (fun h01 d03 hR => ?_)
          ·replace h := hx
           clear hx
           rcases csome h with ⟨j1, h⟩ | ⟨j1, h⟩
           ·obtain ⟨j6, o9, h⟩ := bsome h
            have oV := PT_idx o3 o9
            refine L_load (x := .tmp 158) Try.isAgg3 Try.sizeOf3 oV fun e03 pV iA => ?_
            obtain rfl := RV_int.1 pV
            obtain ⟨v6, t9, h⟩ := bsome h
            have qV := PT_idx o3 t9
            refine L_load (x := .tmp 162) Try.isAgg3 Try.sizeOf3 qV fun g03 rV jA => ?_
            obtain rfl := RV_int.1 rV
            rcases csome h with ⟨z4, h⟩ | ⟨z4, h⟩
            ·obtain ⟨g7, rA, h⟩ := bsome h
             have sV := PT_idx j3 rA
             refine L_load (x := .tmp 169) Try.isAgg3 Try.sizeOf3 sV fun h03 tV dB => ?_
             obtain rfl := RV_int.1 tV
             obtain ⟨i7, uA, h⟩ := bsome h
             have uV := PT_idx j3 uA
             refine L_load (x := .tmp 173) Try.isAgg3 Try.sizeOf3 uV fun i03 vV eB => ?_
             obtain rfl := RV_int.1 vV
             rcases csome h with ⟨t5, h⟩ | ⟨t5, h⟩
             ·obtain ⟨l8, bD, h⟩ := bsome h
              have xV := PT_idx j3 bD
              refine L_load (x := .tmp 180) Try.isAgg3 Try.sizeOf3 xV fun j03 yV lE => ?_
              obtain rfl := RV_int.1 yV
              obtain ⟨g8, cD, h⟩ := bsome h
              have zV := PT_idx j3 cD
              refine L_load (x := .tmp 184) Try.isAgg3 Try.sizeOf3 zV fun k03 aW mE => ?_
              obtain rfl := RV_int.1 aW
              rcases csome h with ⟨m7, h⟩ | ⟨m7, h⟩
              ·refine E_drawL (g := n9) (n := 57) [] [0, 1, 2, 3, 4, 5, 6, 7, 8, 9, 10, 11, 12, 13, 14, 15, 16, 17, 18, 19, 20, 21, 22, 23, 24, 25, 26, 27, 28, 29, 30, 31, 32, 33, 34, 35, 36, 37, 38, 39, 40, 41, 42, 43, 44, 45, 46, 47, 48, 49, 50, 51, 52, 53, 54, 55, 56] rfl mixed (by kernel_rfl) trivial ?_
               refine L_p (.int .i64 (u0)) rfl rfl (P_move l5) ?_
               refine L_p (.int .i64 (o0)) rfl rfl (P_move i5) ?_
               refine L_p (.bool ((decide (u0 < o0)))) rfl rfl (P_int rfl rfl rfl) ?_
               refine L_p (.bool ((decide (u0 < o0)))) rfl rfl (P_move rfl) ?_
               refine L_y z3 rfl rfl rfl rfl j1 (P_move x6) ?_
               refine L_y (.int .i64 (u0)) rfl rfl rfl rfl j1 (P_move l5) ?_
               refine L_y (ePtr z3 u0 1) rfl rfl rfl rfl j1 (P_indexAddr (α := Int) Try.underlying22 Try.sizeOf3 rfl o3 rfl o9) ?_
               refine L_ld (c := .int .i64 (j6)) rfl rfl (.yes2 rfl rfl j1) (fun _ _ h => h.ch) iA rfl ?_
               refine L_y z3 rfl rfl rfl rfl j1 (P_move x6) ?_
               refine L_y (.int .i64 (o0)) rfl rfl rfl rfl j1 (P_move i5) ?_
               refine L_y (ePtr z3 o0 1) rfl rfl rfl rfl j1 (P_indexAddr (α := Int) Try.underlying22 Try.sizeOf3 rfl o3 rfl t9) ?_
               refine L_ld (c := .int .i64 (v6)) rfl rfl (.yes2 rfl rfl j1) (fun _ _ h => h.ch) jA rfl ?_
               refine L_y (.bool ((j6 == v6))) rfl rfl rfl rfl j1 (P_int rfl rfl rfl) ?_
               refine L_p (.bool ((j6 == v6))) rfl rfl (P_pick (b := (decide (u0 < o0))) rfl (pick_t j1 rfl)) ?_
               refine L_p (.bool ((j6 == v6))) rfl rfl (P_move rfl) ?_
               refine L_y u3 rfl rfl rfl rfl z4 (P_move x5) ?_
               refine L_y (.int .i64 (u0)) rfl rfl rfl rfl z4 (P_move l5) ?_
               refine L_y (ePtr u3 u0 1) rfl rfl rfl rfl z4 (P_indexAddr (α := Int) Try.underlying22 Try.sizeOf3 rfl j3 rfl rA) ?_
               refine L_ld (c := .int .i64 (g7)) rfl rfl (.yes2 rfl rfl z4) (fun _ _ h => h.ch) dB rfl ?_
               refine L_y u3 rfl rfl rfl rfl z4 (P_move x5) ?_
               refine L_y (.int .i64 (o0)) rfl rfl rfl rfl z4 (P_move i5) ?_
               refine L_y (ePtr u3 o0 1) rfl rfl rfl rfl z4 (P_indexAddr (α := Int) Try.underlying22 Try.sizeOf3 rfl j3 rfl uA) ?_
               refine L_ld (c := .int .i64 (i7)) rfl rfl (.yes2 rfl rfl z4) (fun _ _ h => h.ch) eB rfl ?_
               refine L_y (.bool ((g7 != i7))) rfl rfl rfl rfl z4 (P_int rfl rfl rfl) ?_
               refine L_p (.bool ((g7 != i7))) rfl rfl (P_pick (b := (j6 == v6)) rfl (pick_t z4 rfl)) ?_
               refine L_p (.bool ((g7 != i7))) rfl rfl (P_move rfl) ?_
               refine L_y u3 rfl rfl rfl rfl t5 (P_move x5) ?_
               refine L_y (.int .i64 (u0)) rfl rfl rfl rfl t5 (P_move l5) ?_
               refine L_y (ePtr u3 u0 1) rfl rfl rfl rfl t5 (P_indexAddr (α := Int) Try.underlying22 Try.sizeOf3 rfl j3 rfl bD) ?_
               refine L_ld (c := .int .i64 (l8)) rfl rfl (.yes2 rfl rfl t5) (fun _ _ h => h.ch) lE rfl ?_
               refine L_y u3 rfl rfl rfl rfl t5 (P_move x5) ?_
               refine L_y (.int .i64 (o0)) rfl rfl rfl rfl t5 (P_move i5) ?_
               refine L_y (ePtr u3 o0 1) rfl rfl rfl rfl t5 (P_indexAddr (α := Int) Try.underlying22 Try.sizeOf3 rfl j3 rfl cD) ?_
               refine L_ld (c := .int .i64 (g8)) rfl rfl (.yes2 rfl rfl t5) (fun _ _ h => h.ch) mE rfl ?_
               refine L_y (.int .i64 ((w64 (g8 + (1 : Int))))) rfl rfl rfl rfl t5 (P_int rfl rfl rfl) ?_
               refine L_y (.bool ((l8 != (w64 (g8 + (1 : Int)))))) rfl rfl rfl rfl t5 (P_int rfl rfl rfl) ?_
               refine L_p (.bool ((l8 != (w64 (g8 + (1 : Int)))))) rfl rfl (P_pick (b := (g7 != i7)) rfl (pick_t t5 rfl)) ?_
               refine L_p (.bool ((l8 != (w64 (g8 + (1 : Int)))))) rfl rfl (P_move rfl) ?_
               refine L_s rfl rfl rfl m7 rfl ?_
               refine L_s rfl rfl rfl m7 rfl ?_
               refine L_skip rfl (.off rfl rfl) ?_
               refine L_s rfl rfl rfl m7 rfl ?_
               refine L_s rfl rfl rfl m7 rfl ?_
               refine L_dead (fun _ => rfl) 12 rfl ?_
               refine L_s rfl rfl rfl m7 rfl ?_
               refine L_p (.bool true) rfl rfl (P_pick (b := (l8 != (w64 (g8 + (1 : Int))))) rfl (pick_t m7 rfl)) ?_
               refine L_nl fun bW l03 hs => ?_
               have hfr := hfr.ext hs
               have o3 := o3.ext hs
               have i6 := i6.ext hs
               have j3 := j3.ext hs
               clear hs
               refine EL_nil ?_
               obtain rfl := sinj h
               exact hQ _ _ ⟨bW, hfr, d9, i8, x6, o3, i6, j7, x5, j3, o8, l5, n7, i5, rfl⟩
              ·rcases csome h with ⟨iB, h⟩ | ⟨iB, h⟩
               ·rcases csome h with ⟨r8, h⟩ | ⟨r8, h⟩
                ·obtain ⟨mC, gS, h⟩ := bsome h
                 obtain ⟨dF, uI, h⟩ := bsome h
                 have cW := PT_idx o3 uI
                 refine L_load (x := .tmp 201) Try.isAgg3 Try.sizeOf3 cW fun m03 dW iS => ?_
                 obtain rfl := RV_int.1 dW
                 obtain ⟨qC, jS, h⟩ := bsome h
                 refine E_drawL (g := n9) (n := 57) [] [0, 1, 2, 3, 4, 5, 6, 7, 8, 9, 10, 11, 12, 13, 14, 15, 16, 17, 18, 19, 20, 21, 22, 23, 24, 25, 26, 27, 28, 29, 30, 31, 32, 33, 34, 35, 36, 37, 38, 39, 40, 41, 42, 43, 44, 45, 46, 47, 48, 49, 50, 51, 52, 53, 54, 55, 56] rfl mixed (by kernel_rfl) trivial ?_
                 refine L_p (.int .i64 (u0)) rfl rfl (P_move l5) ?_
                 refine L_p (.int .i64 (o0)) rfl rfl (P_move i5) ?_
                 refine L_p (.bool ((decide (u0 < o0)))) rfl rfl (P_int rfl rfl rfl) ?_
                 refine L_p (.bool ((decide (u0 < o0)))) rfl rfl (P_move rfl) ?_
                 refine L_y z3 rfl rfl rfl rfl j1 (P_move x6) ?_
                 refine L_y (.int .i64 (u0)) rfl rfl rfl rfl j1 (P_move l5) ?_
                 refine L_y (ePtr z3 u0 1) rfl rfl rfl rfl j1 (P_indexAddr (α := Int) Try.underlying22 Try.sizeOf3 rfl o3 rfl o9) ?_
                 refine L_ld (c := .int .i64 (j6)) rfl rfl (.yes2 rfl rfl j1) (fun _ _ h => h.ch) iA rfl ?_
                 refine L_y z3 rfl rfl rfl rfl j1 (P_move x6) ?_
                 refine L_y (.int .i64 (o0)) rfl rfl rfl rfl j1 (P_move i5) ?_
                 refine L_y (ePtr z3 o0 1) rfl rfl rfl rfl j1 (P_indexAddr (α := Int) Try.underlying22 Try.sizeOf3 rfl o3 rfl t9) ?_
                 refine L_ld (c := .int .i64 (v6)) rfl rfl (.yes2 rfl rfl j1) (fun _ _ h => h.ch) jA rfl ?_
                 refine L_y (.bool ((j6 == v6))) rfl rfl rfl rfl j1 (P_int rfl rfl rfl) ?_
                 refine L_p (.bool ((j6 == v6))) rfl rfl (P_pick (b := (decide (u0 < o0))) rfl (pick_t j1 rfl)) ?_
                 refine L_p (.bool ((j6 == v6))) rfl rfl (P_move rfl) ?_
                 refine L_y u3 rfl rfl rfl rfl z4 (P_move x5) ?_
                 refine L_y (.int .i64 (u0)) rfl rfl rfl rfl z4 (P_move l5) ?_
                 refine L_y (ePtr u3 u0 1) rfl rfl rfl rfl z4 (P_indexAddr (α := Int) Try.underlying22 Try.sizeOf3 rfl j3 rfl rA) ?_
                 refine L_ld (c := .int .i64 (g7)) rfl rfl (.yes2 rfl rfl z4) (fun _ _ h => h.ch) dB rfl ?_
                 refine L_y u3 rfl rfl rfl rfl z4 (P_move x5) ?_
                 refine L_y (.int .i64 (o0)) rfl rfl rfl rfl z4 (P_move i5) ?_
                 refine L_y (ePtr u3 o0 1) rfl rfl rfl rfl z4 (P_indexAddr (α := Int) Try.underlying22 Try.sizeOf3 rfl j3 rfl uA) ?_
                 refine L_ld (c := .int .i64 (i7)) rfl rfl (.yes2 rfl rfl z4) (fun _ _ h => h.ch) eB rfl ?_
                 refine L_y (.bool ((g7 != i7))) rfl rfl rfl rfl z4 (P_int rfl rfl rfl) ?_
                 refine L_p (.bool ((g7 != i7))) rfl rfl (P_pick (b := (j6 == v6)) rfl (pick_t z4 rfl)) ?_
                 refine L_p (.bool ((g7 != i7))) rfl rfl (P_move rfl) ?_
                 refine L_y u3 rfl rfl rfl rfl t5 (P_move x5) ?_
                 refine L_y (.int .i64 (u0)) rfl rfl rfl rfl t5 (P_move l5) ?_
                 refine L_y (ePtr u3 u0 1) rfl rfl rfl rfl t5 (P_indexAddr (α := Int) Try.underlying22 Try.sizeOf3 rfl j3 rfl bD) ?_
                 refine L_ld (c := .int .i64 (l8)) rfl rfl (.yes2 rfl rfl t5) (fun _ _ h => h.ch) lE rfl ?_
                 refine L_y u3 rfl rfl rfl rfl t5 (P_move x5) ?_
                 refine L_y (.int .i64 (o0)) rfl rfl rfl rfl t5 (P_move i5) ?_
                 refine L_y (ePtr u3 o0 1) rfl rfl rfl rfl t5 (P_indexAddr (α := Int) Try.underlying22 Try.sizeOf3 rfl j3 rfl cD) ?_
                 refine L_ld (c := .int .i64 (g8)) rfl rfl (.yes2 rfl rfl t5) (fun _ _ h => h.ch) mE rfl ?_
                 refine L_y (.int .i64 ((w64 (g8 + (1 : Int))))) rfl rfl rfl rfl t5 (P_int rfl rfl rfl) ?_
                 refine L_y (.bool ((l8 != (w64 (g8 + (1 : Int)))))) rfl rfl rfl rfl t5 (P_int rfl rfl rfl) ?_
                 refine L_p (.bool ((l8 != (w64 (g8 + (1 : Int)))))) rfl rfl (P_pick (b := (g7 != i7)) rfl (pick_t t5 rfl)) ?_
                 refine L_p (.bool ((l8 != (w64 (g8 + (1 : Int)))))) rfl rfl (P_move rfl) ?_
                 refine L_y (.bool ((decide ((w64 (a7 * i3)) > (w64 (y1 * q5)))))) rfl rfl rfl rfl m7 (P_move rfl) ?_
                 refine L_y (.bool ((decide ((w64 (a7 * i3)) > (w64 (y1 * q5)))))) rfl rfl rfl rfl m7 (P_move rfl) ?_
                 refine L_y (.bool ((decide ((w64 (c7 * i3)) ≤ (w64 (y1 * d7)))))) rfl rfl rfl rfl iB (P_move rfl) ?_
                 refine L_y (.bool ((decide ((w64 (c7 * i3)) ≤ (w64 (y1 * d7)))))) rfl rfl rfl rfl m7 (P_pick (b := (decide ((w64 (a7 * i3)) > (w64 (y1 * q5))))) rfl (pick_t iB rfl)) ?_
                 refine L_y (.bool ((decide ((w64 (c7 * i3)) ≤ (w64 (y1 * d7)))))) rfl rfl rfl rfl m7 (P_move rfl) ?_
                 refine L_y (.int .i64 ((w64 (y1 * q5)))) rfl rfl rfl rfl r8 (P_move n7) ?_
                 refine L_y (.int .i64 (i3)) rfl rfl rfl rfl r8 (P_move j7) ?_
                 refine L_y (.int .i64 (mC)) rfl rfl rfl rfl r8 (P_int rfl rfl (congrArg (Option.map (Value.int .i64)) gS)) ?_
                 refine L_y (.int .i64 (y1)) rfl rfl rfl rfl r8 (P_move i8) ?_
                 refine L_y z3 rfl rfl rfl rfl r8 (P_move x6) ?_
                 refine L_y (.int .i64 (o0)) rfl rfl rfl rfl r8 (P_move i5) ?_
                 refine L_y (ePtr z3 o0 1) rfl rfl rfl rfl r8 (P_indexAddr (α := Int) Try.underlying22 Try.sizeOf3 rfl o3 rfl uI) ?_
                 refine L_ld (c := .int .i64 (dF)) rfl rfl (.yes2 rfl rfl r8) (fun _ _ h => h.ch) iS rfl ?_
                 refine L_y (.int .i64 ((w64 (y1 * dF)))) rfl rfl rfl rfl r8 (P_int rfl rfl rfl) ?_
                 refine L_y (.int .i64 (i3)) rfl rfl rfl rfl r8 (P_move j7) ?_
                 refine L_y (.int .i64 (qC)) rfl rfl rfl rfl r8 (P_int rfl rfl (congrArg (Option.map (Value.int .i64)) jS)) ?_
                 refine L_y (.bool ((decide (mC < qC)))) rfl rfl rfl rfl r8 (P_int rfl rfl rfl) ?_
                 refine L_y (.bool ((decide (mC < qC)))) rfl rfl rfl rfl m7 (P_pick (b := (decide ((w64 (c7 * i3)) ≤ (w64 (y1 * d7))))) rfl (pick_t r8 rfl)) ?_
                 refine L_p (.bool ((decide (mC < qC)))) rfl rfl (P_pick (b := (l8 != (w64 (g8 + (1 : Int))))) rfl (pick_f m7 rfl)) ?_
                 refine L_nl fun eW n03 hs => ?_
                 have hfr := hfr.ext hs
                 have o3 := o3.ext hs
                 have i6 := i6.ext hs
                 have j3 := j3.ext hs
                 clear hs
                 refine EL_nil ?_
                 obtain rfl := sinj h
                 exact hQ _ _ ⟨eW, hfr, d9, i8, x6, o3, i6, j7, x5, j3, o8, l5, n7, i5, rfl⟩
                ·refine E_drawL (g := n9) (n := 57) [] [0, 1, 2, 3, 4, 5, 6, 7, 8, 9, 10, 11, 12, 13, 14, 15, 16, 17, 18, 19, 20, 21, 22, 23, 24, 25, 26, 27, 28, 29, 30, 31, 32, 33, 34, 35, 36, 37, 38, 39, 40, 41, 42, 43, 44, 45, 46, 47, 48, 49, 50, 51, 52, 53, 54, 55, 56] rfl mixed (by kernel_rfl) trivial ?_
                 refine L_p (.int .i64 (u0)) rfl rfl (P_move l5) ?_
                 refine L_p (.int .i64 (o0)) rfl rfl (P_move i5) ?_
                 refine L_p (.bool ((decide (u0 < o0)))) rfl rfl (P_int rfl rfl rfl) ?_
                 refine L_p (.bool ((decide (u0 < o0)))) rfl rfl (P_move rfl) ?_
                 refine L_y z3 rfl rfl rfl rfl j1 (P_move x6) ?_
                 refine L_y (.int .i64 (u0)) rfl rfl rfl rfl j1 (P_move l5) ?_
                 refine L_y (ePtr z3 u0 1) rfl rfl rfl rfl j1 (P_indexAddr (α := Int) Try.underlying22 Try.sizeOf3 rfl o3 rfl o9) ?_
                 refine L_ld (c := .int .i64 (j6)) rfl rfl (.yes2 rfl rfl j1) (fun _ _ h => h.ch) iA rfl ?_
                 refine L_y z3 rfl rfl rfl rfl j1 (P_move x6) ?_
                 refine L_y (.int .i64 (o0)) rfl rfl rfl rfl j1 (P_move i5) ?_
                 refine L_y (ePtr z3 o0 1) rfl rfl rfl rfl j1 (P_indexAddr (α := Int) Try.underlying22 Try.sizeOf3 rfl o3 rfl t9) ?_
                 refine L_ld (c := .int .i64 (v6)) rfl rfl (.yes2 rfl rfl j1) (fun _ _ h => h.ch) jA rfl ?_
                 refine L_y (.bool ((j6 == v6))) rfl rfl rfl rfl j1 (P_int rfl rfl rfl) ?_
                 refine L_p (.bool ((j6 == v6))) rfl rfl (P_pick (b := (decide (u0 < o0))) rfl (pick_t j1 rfl)) ?_
                 refine L_p (.bool ((j6 == v6))) rfl rfl (P_move rfl) ?_
                 refine L_y u3 rfl rfl rfl rfl z4 (P_move x5) ?_
                 refine L_y (.int .i64 (u0)) rfl rfl rfl rfl z4 (P_move l5) ?_
                 refine L_y (ePtr u3 u0 1) rfl rfl rfl rfl z4 (P_indexAddr (α := Int) Try.underlying22 Try.sizeOf3 rfl j3 rfl rA) ?_
                 refine L_ld (c := .int .i64 (g7)) rfl rfl (.yes2 rfl rfl z4) (fun _ _ h => h.ch) dB rfl ?_
                 refine L_y u3 rfl rfl rfl rfl z4 (P_move x5) ?_
                 refine L_y (.int .i64 (o0)) rfl rfl rfl rfl z4 (P_move i5) ?_
                 refine L_y (ePtr u3 o0 1) rfl rfl rfl rfl z4 (P_indexAddr (α := Int) Try.underlying22 Try.sizeOf3 rfl j3 rfl uA) ?_
                 refine L_ld (c := .int .i64 (i7)) rfl rfl (.yes2 rfl rfl z4) (fun _ _ h => h.ch) eB rfl ?_
                 refine L_y (.bool ((g7 != i7))) rfl rfl rfl rfl z4 (P_int rfl rfl rfl) ?_
                 refine L_p (.bool ((g7 != i7))) rfl rfl (P_pick (b := (j6 == v6)) rfl (pick_t z4 rfl)) ?_
                 refine L_p (.bool ((g7 != i7))) rfl rfl (P_move rfl) ?_
                 refine L_y u3 rfl rfl rfl rfl t5 (P_move x5) ?_
                 refine L_y (.int .i64 (u0)) rfl rfl rfl rfl t5 (P_move l5) ?_
                 refine L_y (ePtr u3 u0 1) rfl rfl rfl rfl t5 (P_indexAddr (α := Int) Try.underlying22 Try.sizeOf3 rfl j3 rfl bD) ?_
                 refine L_ld (c := .int .i64 (l8)) rfl rfl (.yes2 rfl rfl t5) (fun _ _ h => h.ch) lE rfl ?_
                 refine L_y u3 rfl rfl rfl rfl t5 (P_move x5) ?_
                 refine L_y (.int .i64 (o0)) rfl rfl rfl rfl t5 (P_move i5) ?_
                 refine L_y (ePtr u3 o0 1) rfl rfl rfl rfl t5 (P_indexAddr (α := Int) Try.underlying22 Try.sizeOf3 rfl j3 rfl cD) ?_
                 refine L_ld (c := .int .i64 (g8)) rfl rfl (.yes2 rfl rfl t5) (fun _ _ h => h.ch) mE rfl ?_
                 refine L_y (.int .i64 ((w64 (g8 + (1 : Int))))) rfl rfl rfl rfl t5 (P_int rfl rfl rfl) ?_
                 refine L_y (.bool ((l8 != (w64 (g8 + (1 : Int)))))) rfl rfl rfl rfl t5 (P_int rfl rfl rfl) ?_
                 refine L_p (.bool ((l8 != (w64 (g8 + (1 : Int)))))) rfl rfl (P_pick (b := (g7 != i7)) rfl (pick_t t5 rfl)) ?_
                 refine L_p (.bool ((l8 != (w64 (g8 + (1 : Int)))))) rfl rfl (P_move rfl) ?_
                 refine L_y (.bool ((decide ((w64 (a7 * i3)) > (w64 (y1 * q5)))))) rfl rfl rfl rfl m7 (P_move rfl) ?_
                 refine L_y (.bool ((decide ((w64 (a7 * i3)) > (w64 (y1 * q5)))))) rfl rfl rfl rfl m7 (P_move rfl) ?_
                 refine L_y (.bool ((decide ((w64 (c7 * i3)) ≤ (w64 (y1 * d7)))))) rfl rfl rfl rfl iB (P_move rfl) ?_
                 refine L_y (.bool ((decide ((w64 (c7 * i3)) ≤ (w64 (y1 * d7)))))) rfl rfl rfl rfl m7 (P_pick (b := (decide ((w64 (a7 * i3)) > (w64 (y1 * q5))))) rfl (pick_t iB rfl)) ?_
                 refine L_y (.bool ((decide ((w64 (c7 * i3)) ≤ (w64 (y1 * d7)))))) rfl rfl rfl rfl m7 (P_move rfl) ?_
                 iterate 12 refine L_s rfl rfl rfl r8 rfl ?_
                 refine L_y (.bool false) rfl rfl rfl rfl m7 (P_pick (b := (decide ((w64 (c7 * i3)) ≤ (w64 (y1 * d7))))) rfl (pick_f r8 rfl)) ?_
                 refine L_p (.bool false) rfl rfl (P_pick (b := (l8 != (w64 (g8 + (1 : Int))))) rfl (pick_f m7 rfl)) ?_
                 refine L_nl fun gW o03 hs => ?_
                 have hfr := hfr.ext hs
                 have o3 := o3.ext hs
                 have i6 := i6.ext hs
                 have j3 := j3.ext hs
                 clear hs
                 refine EL_nil ?_
                 obtain rfl := sinj h
                 exact hQ _ _ ⟨gW, hfr, d9, i8, x6, o3, i6, j7, x5, j3, o8, l5, n7, i5, rfl⟩
               ·refine E_drawL (g := n9) (n := 57) [] [0, 1, 2, 3, 4, 5, 6, 7, 8, 9, 10, 11, 12, 13, 14, 15, 16, 17, 18, 19, 20, 21, 22, 23, 24, 25, 26, 27, 28, 29, 30, 31, 32, 33, 34, 35, 36, 37, 38, 39, 40, 41, 42, 43, 44, 45, 46, 47, 48, 49, 50, 51, 52, 53, 54, 55, 56] rfl mixed (by kernel_rfl) trivial ?_
                refine L_p (.int .i64 (u0)) rfl rfl (P_move l5) ?_
                refine L_p (.int .i64 (o0)) rfl rfl (P_move i5) ?_
                refine L_p (.bool ((decide (u0 < o0)))) rfl rfl (P_int rfl rfl rfl) ?_
                refine L_p (.bool ((decide (u0 < o0)))) rfl rfl (P_move rfl) ?_
                refine L_y z3 rfl rfl rfl rfl j1 (P_move x6) ?_
                refine L_y (.int .i64 (u0)) rfl rfl rfl rfl j1 (P_move l5) ?_
                refine L_y (ePtr z3 u0 1) rfl rfl rfl rfl j1 (P_indexAddr (α := Int) Try.underlying22 Try.sizeOf3 rfl o3 rfl o9) ?_
                refine L_ld (c := .int .i64 (j6)) rfl rfl (.yes2 rfl rfl j1) (fun _ _ h => h.ch) iA rfl ?_
                refine L_y z3 rfl rfl rfl rfl j1 (P_move x6) ?_
                refine L_y (.int .i64 (o0)) rfl rfl rfl rfl j1 (P_move i5) ?_
                refine L_y (ePtr z3 o0 1) rfl rfl rfl rfl j1 (P_indexAddr (α := Int) Try.underlying22 Try.sizeOf3 rfl o3 rfl t9) ?_
                refine L_ld (c := .int .i64 (v6)) rfl rfl (.yes2 rfl rfl j1) (fun _ _ h => h.ch) jA rfl ?_
                refine L_y (.bool ((j6 == v6))) rfl rfl rfl rfl j1 (P_int rfl rfl rfl) ?_
                refine L_p (.bool ((j6 == v6))) rfl rfl (P_pick (b := (decide (u0 < o0))) rfl (pick_t j1 rfl)) ?_
                refine L_p (.bool ((j6 == v6))) rfl rfl (P_move rfl) ?_
                refine L_y u3 rfl rfl rfl rfl z4 (P_move x5) ?_
                refine L_y (.int .i64 (u0)) rfl rfl rfl rfl z4 (P_move l5) ?_
                refine L_y (ePtr u3 u0 1) rfl rfl rfl rfl z4 (P_indexAddr (α := Int) Try.underlying22 Try.sizeOf3 rfl j3 rfl rA) ?_
                refine L_ld (c := .int .i64 (g7)) rfl rfl (.yes2 rfl rfl z4) (fun _ _ h => h.ch) dB rfl ?_
                refine L_y u3 rfl rfl rfl rfl z4 (P_move x5) ?_
                refine L_y (.int .i64 (o0)) rfl rfl rfl rfl z4 (P_move i5) ?_
                refine L_y (ePtr u3 o0 1) rfl rfl rfl rfl z4 (P_indexAddr (α := Int) Try.underlying22 Try.sizeOf3 rfl j3 rfl uA) ?_
                refine L_ld (c := .int .i64 (i7)) rfl rfl (.yes2 rfl rfl z4) (fun _ _ h => h.ch) eB rfl ?_
                refine L_y (.bool ((g7 != i7))) rfl rfl rfl rfl z4 (P_int rfl rfl rfl) ?_
                refine L_p (.bool ((g7 != i7))) rfl rfl (P_pick (b := (j6 == v6)) rfl (pick_t z4 rfl)) ?_
                refine L_p (.bool ((g7 != i7))) rfl rfl (P_move rfl) ?_
                refine L_y u3 rfl rfl rfl rfl t5 (P_move x5) ?_
                refine L_y (.int .i64 (u0)) rfl rfl rfl rfl t5 (P_move l5) ?_
                refine L_y (ePtr u3 u0 1) rfl rfl rfl rfl t5 (P_indexAddr (α := Int) Try.underlying22 Try.sizeOf3 rfl j3 rfl bD) ?_
                refine L_ld (c := .int .i64 (l8)) rfl rfl (.yes2 rfl rfl t5) (fun _ _ h => h.ch) lE rfl ?_
                refine L_y u3 rfl rfl rfl rfl t5 (P_move x5) ?_
                refine L_y (.int .i64 (o0)) rfl rfl rfl rfl t5 (P_move i5) ?_
                refine L_y (ePtr u3 o0 1) rfl rfl rfl rfl t5 (P_indexAddr (α := Int) Try.underlying22 Try.sizeOf3 rfl j3 rfl cD) ?_
                refine L_ld (c := .int .i64 (g8)) rfl rfl (.yes2 rfl rfl t5) (fun _ _ h => h.ch) mE rfl ?_
                refine L_y (.int .i64 ((w64 (g8 + (1 : Int))))) rfl rfl rfl rfl t5 (P_int rfl rfl rfl) ?_
                refine L_y (.bool ((l8 != (w64 (g8 + (1 : Int)))))) rfl rfl rfl rfl t5 (P_int rfl rfl rfl) ?_
                refine L_p (.bool ((l8 != (w64 (g8 + (1 : Int)))))) rfl rfl (P_pick (b := (g7 != i7)) rfl (pick_t t5 rfl)) ?_
                refine L_p (.bool ((l8 != (w64 (g8 + (1 : Int)))))) rfl rfl (P_move rfl) ?_
                refine L_y (.bool ((decide ((w64 (a7 * i3)) > (w64 (y1 * q5)))))) rfl rfl rfl rfl m7 (P_move rfl) ?_
                refine L_y (.bool ((decide ((w64 (a7 * i3)) > (w64 (y1 * q5)))))) rfl rfl rfl rfl m7 (P_move rfl) ?_
                refine L_s rfl rfl rfl iB rfl ?_
                refine L_y (.bool false) rfl rfl rfl rfl m7 (P_pick (b := (decide ((w64 (a7 * i3)) > (w64 (y1 * q5))))) rfl (pick_f iB rfl)) ?_
                refine L_y (.bool false) rfl rfl rfl rfl m7 (P_move rfl) ?_
                refine L_dead (fun _ => rfl) 12 rfl ?_
                refine L_y (.bool false) rfl rfl rfl rfl m7 (P_pick (b := false) rfl (pick_f rfl rfl)) ?_
                refine L_p (.bool false) rfl rfl (P_pick (b := (l8 != (w64 (g8 + (1 : Int))))) rfl (pick_f m7 rfl)) ?_
                refine L_nl fun iW p03 hs => ?_
                have hfr := hfr.ext hs
                have o3 := o3.ext hs
                have i6 := i6.ext hs
                have j3 := j3.ext hs
                clear hs
                refine EL_nil ?_
                obtain rfl := sinj h
                exact hQ _ _ ⟨iW, hfr, d9, i8, x6, o3, i6, j7, x5, j3, o8, l5, n7, i5, rfl⟩
             ·rcases csome h with ⟨jB, h⟩ | ⟨jB, h⟩
              ·rcases csome h with ⟨t8, h⟩ | ⟨t8, h⟩
               ·obtain ⟨rC, lS, h⟩ := bsome h
                obtain ⟨eF, vI, h⟩ := bsome h
                have jW := PT_idx o3 vI
                refine L_load (x := .tmp 201) Try.isAgg3 Try.sizeOf3 jW fun q03 kW mS => ?_
                obtain rfl := RV_int.1 kW
                obtain ⟨tC, nS, h⟩ := bsome h
                refine E_drawL (g := n9) (n := 57) [] [0, 1, 2, 3, 4, 5, 6, 7, 8, 9, 10, 11, 12, 13, 14, 15, 16, 17, 18, 19, 20, 21, 22, 23, 24, 25, 26, 27, 28, 29, 30, 31, 32, 33, 34, 35, 36, 37, 38, 39, 40, 41, 42, 43, 44, 45, 46, 47, 48, 49, 50, 51, 52, 53, 54, 55, 56] rfl mixed (by kernel_rfl) trivial ?_
                refine L_p (.int .i64 (u0)) rfl rfl (P_move l5) ?_
                refine L_p (.int .i64 (o0)) rfl rfl (P_move i5) ?_
                refine L_p (.bool ((decide (u0 < o0)))) rfl rfl (P_int rfl rfl rfl) ?_
                refine L_p (.bool ((decide (u0 < o0)))) rfl rfl (P_move rfl) ?_
                refine L_y z3 rfl rfl rfl rfl j1 (P_move x6) ?_
                refine L_y (.int .i64 (u0)) rfl rfl rfl rfl j1 (P_move l5) ?_
                refine L_y (ePtr z3 u0 1) rfl rfl rfl rfl j1 (P_indexAddr (α := Int) Try.underlying22 Try.sizeOf3 rfl o3 rfl o9) ?_
                refine L_ld (c := .int .i64 (j6)) rfl rfl (.yes2 rfl rfl j1) (fun _ _ h => h.ch) iA rfl ?_
                refine L_y z3 rfl rfl rfl rfl j1 (P_move x6) ?_
                refine L_y (.int .i64 (o0)) rfl rfl rfl rfl j1 (P_move i5) ?_
                refine L_y (ePtr z3 o0 1) rfl rfl rfl rfl j1 (P_indexAddr (α := Int) Try.underlying22 Try.sizeOf3 rfl o3 rfl t9) ?_
                refine L_ld (c := .int .i64 (v6)) rfl rfl (.yes2 rfl rfl j1) (fun _ _ h => h.ch) jA rfl ?_
                refine L_y (.bool ((j6 == v6))) rfl rfl rfl rfl j1 (P_int rfl rfl rfl) ?_
                refine L_p (.bool ((j6 == v6))) rfl rfl (P_pick (b := (decide (u0 < o0))) rfl (pick_t j1 rfl)) ?_
                refine L_p (.bool ((j6 == v6))) rfl rfl (P_move rfl) ?_
                refine L_y u3 rfl rfl rfl rfl z4 (P_move x5) ?_
                refine L_y (.int .i64 (u0)) rfl rfl rfl rfl z4 (P_move l5) ?_
                refine L_y (ePtr u3 u0 1) rfl rfl rfl rfl z4 (P_indexAddr (α := Int) Try.underlying22 Try.sizeOf3 rfl j3 rfl rA) ?_
                refine L_ld (c := .int .i64 (g7)) rfl rfl (.yes2 rfl rfl z4) (fun _ _ h => h.ch) dB rfl ?_
                refine L_y u3 rfl rfl rfl rfl z4 (P_move x5) ?_
                refine L_y (.int .i64 (o0)) rfl rfl rfl rfl z4 (P_move i5) ?_
                refine L_y (ePtr u3 o0 1) rfl rfl rfl rfl z4 (P_indexAddr (α := Int) Try.underlying22 Try.sizeOf3 rfl j3 rfl uA) ?_
                refine L_ld (c := .int .i64 (i7)) rfl rfl (.yes2 rfl rfl z4) (fun _ _ h => h.ch) eB rfl ?_
                refine L_y (.bool ((g7 != i7))) rfl rfl rfl rfl z4 (P_int rfl rfl rfl) ?_
                refine L_p (.bool ((g7 != i7))) rfl rfl (P_pick (b := (j6 == v6)) rfl (pick_t z4 rfl)) ?_
                refine L_p (.bool ((g7 != i7))) rfl rfl (P_move rfl) ?_
                iterate 10 refine L_s rfl rfl rfl t5 rfl ?_
                refine L_p (.bool false) rfl rfl (P_pick (b := (g7 != i7)) rfl (pick_f t5 rfl)) ?_
                refine L_p (.bool false) rfl rfl (P_move rfl) ?_
                refine L_y (.bool ((decide ((w64 (a7 * i3)) > (w64 (y1 * q5)))))) rfl rfl rfl rfl rfl (P_move rfl) ?_
                refine L_y (.bool ((decide ((w64 (a7 * i3)) > (w64 (y1 * q5)))))) rfl rfl rfl rfl rfl (P_move rfl) ?_
                refine L_y (.bool ((decide ((w64 (c7 * i3)) ≤ (w64 (y1 * d7)))))) rfl rfl rfl rfl jB (P_move rfl) ?_
                refine L_y (.bool ((decide ((w64 (c7 * i3)) ≤ (w64 (y1 * d7)))))) rfl rfl rfl rfl rfl (P_pick (b := (decide ((w64 (a7 * i3)) > (w64 (y1 * q5))))) rfl (pick_t jB rfl)) ?_
                refine L_y (.bool ((decide ((w64 (c7 * i3)) ≤ (w64 (y1 * d7)))))) rfl rfl rfl rfl rfl (P_move rfl) ?_
                refine L_y (.int .i64 ((w64 (y1 * q5)))) rfl rfl rfl rfl t8 (P_move n7) ?_
                refine L_y (.int .i64 (i3)) rfl rfl rfl rfl t8 (P_move j7) ?_
                refine L_y (.int .i64 (rC)) rfl rfl rfl rfl t8 (P_int rfl rfl (congrArg (Option.map (Value.int .i64)) lS)) ?_
                refine L_y (.int .i64 (y1)) rfl rfl rfl rfl t8 (P_move i8) ?_
                refine L_y z3 rfl rfl rfl rfl t8 (P_move x6) ?_
                refine L_y (.int .i64 (o0)) rfl rfl rfl rfl t8 (P_move i5) ?_
                refine L_y (ePtr z3 o0 1) rfl rfl rfl rfl t8 (P_indexAddr (α := Int) Try.underlying22 Try.sizeOf3 rfl o3 rfl vI) ?_
                refine L_ld (c := .int .i64 (eF)) rfl rfl (.yes2 rfl rfl t8) (fun _ _ h => h.ch) mS rfl ?_
                refine L_y (.int .i64 ((w64 (y1 * eF)))) rfl rfl rfl rfl t8 (P_int rfl rfl rfl) ?_
                refine L_y (.int .i64 (i3)) rfl rfl rfl rfl t8 (P_move j7) ?_
                refine L_y (.int .i64 (tC)) rfl rfl rfl rfl t8 (P_int rfl rfl (congrArg (Option.map (Value.int .i64)) nS)) ?_
                refine L_y (.bool ((decide (rC < tC)))) rfl rfl rfl rfl t8 (P_int rfl rfl rfl) ?_
                refine L_y (.bool ((decide (rC < tC)))) rfl rfl rfl rfl rfl (P_pick (b := (decide ((w64 (c7 * i3)) ≤ (w64 (y1 * d7))))) rfl (pick_t t8 rfl)) ?_
                refine L_p (.bool ((decide (rC < tC)))) rfl rfl (P_pick (b := false) rfl (pick_f rfl rfl)) ?_
                refine L_nl fun lW r03 hs => ?_
                have hfr := hfr.ext hs
                have o3 := o3.ext hs
                have i6 := i6.ext hs
                have j3 := j3.ext hs
                clear hs
                refine EL_nil ?_
                obtain rfl := sinj h
                exact hQ _ _ ⟨lW, hfr, d9, i8, x6, o3, i6, j7, x5, j3, o8, l5, n7, i5, rfl⟩
               ·refine E_drawL (g := n9) (n := 57) [] [0, 1, 2, 3, 4, 5, 6, 7, 8, 9, 10, 11, 12, 13, 14, 15, 16, 17, 18, 19, 20, 21, 22, 23, 24, 25, 26, 27, 28, 29, 30, 31, 32, 33, 34, 35, 36, 37, 38, 39, 40, 41, 42, 43, 44, 45, 46, 47, 48, 49, 50, 51, 52, 53, 54, 55, 56] rfl mixed (by kernel_rfl) trivial ?_
                refine L_p (.int .i64 (u0)) rfl rfl (P_move l5) ?_
                refine L_p (.int .i64 (o0)) rfl rfl (P_move i5) ?_
                refine L_p (.bool ((decide (u0 < o0)))) rfl rfl (P_int rfl rfl rfl) ?_
                refine L_p (.bool ((decide (u0 < o0)))) rfl rfl (P_move rfl) ?_
                refine L_y z3 rfl rfl rfl rfl j1 (P_move x6) ?_
                refine L_y (.int .i64 (u0)) rfl rfl rfl rfl j1 (P_move l5) ?_
                refine L_y (ePtr z3 u0 1) rfl rfl rfl rfl j1 (P_indexAddr (α := Int) Try.underlying22 Try.sizeOf3 rfl o3 rfl o9) ?_
                refine L_ld (c := .int .i64 (j6)) rfl rfl (.yes2 rfl rfl j1) (fun _ _ h => h.ch) iA rfl ?_
                refine L_y z3 rfl rfl rfl rfl j1 (P_move x6) ?_
                refine L_y (.int .i64 (o0)) rfl rfl rfl rfl j1 (P_move i5) ?_
                refine L_y (ePtr z3 o0 1) rfl rfl rfl rfl j1 (P_indexAddr (α := Int) Try.underlying22 Try.sizeOf3 rfl o3 rfl t9) ?_
                refine L_ld (c := .int .i64 (v6)) rfl rfl (.yes2 rfl rfl j1) (fun _ _ h => h.ch) jA rfl ?_
                refine L_y (.bool ((j6 == v6))) rfl rfl rfl rfl j1 (P_int rfl rfl rfl) ?_
                refine L_p (.bool ((j6 == v6))) rfl rfl (P_pick (b := (decide (u0 < o0))) rfl (pick_t j1 rfl)) ?_
                refine L_p (.bool ((j6 == v6))) rfl rfl (P_move rfl) ?_
                refine L_y u3 rfl rfl rfl rfl z4 (P_move x5) ?_
                refine L_y (.int .i64 (u0)) rfl rfl rfl rfl z4 (P_move l5) ?_
                refine L_y (ePtr u3 u0 1) rfl rfl rfl rfl z4 (P_indexAddr (α := Int) Try.underlying22 Try.sizeOf3 rfl j3 rfl rA) ?_
                refine L_ld (c := .int .i64 (g7)) rfl rfl (.yes2 rfl rfl z4) (fun _ _ h => h.ch) dB rfl ?_
                refine L_y u3 rfl rfl rfl rfl z4 (P_move x5) ?_
                refine L_y (.int .i64 (o0)) rfl rfl rfl rfl z4 (P_move i5) ?_
                refine L_y (ePtr u3 o0 1) rfl rfl rfl rfl z4 (P_indexAddr (α := Int) Try.underlying22 Try.sizeOf3 rfl j3 rfl uA) ?_
                refine L_ld (c := .int .i64 (i7)) rfl rfl (.yes2 rfl rfl z4) (fun _ _ h => h.ch) eB rfl ?_
                refine L_y (.bool ((g7 != i7))) rfl rfl rfl rfl z4 (P_int rfl rfl rfl) ?_
                refine L_p (.bool ((g7 != i7))) rfl rfl (P_pick (b := (j6 == v6)) rfl (pick_t z4 rfl)) ?_
                refine L_p (.bool ((g7 != i7))) rfl rfl (P_move rfl) ?_
                iterate 10 refine L_s rfl rfl rfl t5 rfl ?_
                refine L_p (.bool false) rfl rfl (P_pick (b := (g7 != i7)) rfl (pick_f t5 rfl)) ?_
                refine L_p (.bool false) rfl rfl (P_move rfl) ?_
                refine L_y (.bool ((decide ((w64 (a7 * i3)) > (w64 (y1 * q5)))))) rfl rfl rfl rfl rfl (P_move rfl) ?_
                refine L_y (.bool ((decide ((w64 (a7 * i3)) > (w64 (y1 * q5)))))) rfl rfl rfl rfl rfl (P_move rfl) ?_
                refine L_y (.bool ((decide ((w64 (c7 * i3)) ≤ (w64 (y1 * d7)))))) rfl rfl rfl rfl jB (P_move rfl) ?_
                refine L_y (.bool ((decide ((w64 (c7 * i3)) ≤ (w64 (y1 * d7)))))) rfl rfl rfl rfl rfl (P_pick (b := (decide ((w64 (a7 * i3)) > (w64 (y1 * q5))))) rfl (pick_t jB rfl)) ?_
                refine L_y (.bool ((decide ((w64 (c7 * i3)) ≤ (w64 (y1 * d7)))))) rfl rfl rfl rfl rfl (P_move rfl) ?_
                iterate 12 refine L_s rfl rfl rfl t8 rfl ?_
                refine L_y (.bool false) rfl rfl rfl rfl rfl (P_pick (b := (decide ((w64 (c7 * i3)) ≤ (w64 (y1 * d7))))) rfl (pick_f t8 rfl)) ?_
                refine L_p (.bool false) rfl rfl (P_pick (b := false) rfl (pick_f rfl rfl)) ?_
                refine L_nl fun mW s03 hs => ?_
                have hfr := hfr.ext hs
                have o3 := o3.ext hs
                have i6 := i6.ext hs
                have j3 := j3.ext hs
                clear hs
                refine EL_nil ?_
                obtain rfl := sinj h
                exact hQ _ _ ⟨mW, hfr, d9, i8, x6, o3, i6, j7, x5, j3, o8, l5, n7, i5, rfl⟩
              ·refine E_drawL (g := n9) (n := 57) [] [0, 1, 2, 3, 4, 5, 6, 7, 8, 9, 10, 11, 12, 13, 14, 15, 16, 17, 18, 19, 20, 21, 22, 23, 24, 25, 26, 27, 28, 29, 30, 31, 32, 33, 34, 35, 36, 37, 38, 39, 40, 41, 42, 43, 44, 45, 46, 47, 48, 49, 50, 51, 52, 53, 54, 55, 56] rfl mixed (by kernel_rfl) trivial ?_
               refine L_p (.int .i64 (u0)) rfl rfl (P_move l5) ?_
               refine L_p (.int .i64 (o0)) rfl rfl (P_move i5) ?_
               refine L_p (.bool ((decide (u0 < o0)))) rfl rfl (P_int rfl rfl rfl) ?_
               refine L_p (.bool ((decide (u0 < o0)))) rfl rfl (P_move rfl) ?_
               refine L_y z3 rfl rfl rfl rfl j1 (P_move x6) ?_
               refine L_y (.int .i64 (u0)) rfl rfl rfl rfl j1 (P_move l5) ?_
               refine L_y (ePtr z3 u0 1) rfl rfl rfl rfl j1 (P_indexAddr (α := Int) Try.underlying22 Try.sizeOf3 rfl o3 rfl o9) ?_
               refine L_ld (c := .int .i64 (j6)) rfl rfl (.yes2 rfl rfl j1) (fun _ _ h => h.ch) iA rfl ?_
               refine L_y z3 rfl rfl rfl rfl j1 (P_move x6) ?_
               refine L_y (.int .i64 (o0)) rfl rfl rfl rfl j1 (P_move i5) ?_
               refine L_y (ePtr z3 o0 1) rfl rfl rfl rfl j1 (P_indexAddr (α := Int) Try.underlying22 Try.sizeOf3 rfl o3 rfl t9) ?_
               refine L_ld (c := .int .i64 (v6)) rfl rfl (.yes2 rfl rfl j1) (fun _ _ h => h.ch) jA rfl ?_
               refine L_y (.bool ((j6 == v6))) rfl rfl rfl rfl j1 (P_int rfl rfl rfl) ?_
               refine L_p (.bool ((j6 == v6))) rfl rfl (P_pick (b := (decide (u0 < o0))) rfl (pick_t j1 rfl)) ?_
               refine L_p (.bool ((j6 == v6))) rfl rfl (P_move rfl) ?_
               refine L_y u3 rfl rfl rfl rfl z4 (P_move x5) ?_
               refine L_y (.int .i64 (u0)) rfl rfl rfl rfl z4 (P_move l5) ?_
               refine L_y (ePtr u3 u0 1) rfl rfl rfl rfl z4 (P_indexAddr (α := Int) Try.underlying22 Try.sizeOf3 rfl j3 rfl rA) ?_
               refine L_ld (c := .int .i64 (g7)) rfl rfl (.yes2 rfl rfl z4) (fun _ _ h => h.ch) dB rfl ?_
               refine L_y u3 rfl rfl rfl rfl z4 (P_move x5) ?_
               refine L_y (.int .i64 (o0)) rfl rfl rfl rfl z4 (P_move i5) ?_
               refine L_y (ePtr u3 o0 1) rfl rfl rfl rfl z4 (P_indexAddr (α := Int) Try.underlying22 Try.sizeOf3 rfl j3 rfl uA) ?_
               refine L_ld (c := .int .i64 (i7)) rfl rfl (.yes2 rfl rfl z4) (fun _ _ h => h.ch) eB rfl ?_
               refine L_y (.bool ((g7 != i7))) rfl rfl rfl rfl z4 (P_int rfl rfl rfl) ?_
               refine L_p (.bool ((g7 != i7))) rfl rfl (P_pick (b := (j6 == v6)) rfl (pick_t z4 rfl)) ?_
               refine L_p (.bool ((g7 != i7))) rfl rfl (P_move rfl) ?_
               iterate 10 refine L_s rfl rfl rfl t5 rfl ?_
               refine L_p (.bool false) rfl rfl (P_pick (b := (g7 != i7)) rfl (pick_f t5 rfl)) ?_
               refine L_p (.bool false) rfl rfl (P_move rfl) ?_
               refine L_y (.bool ((decide ((w64 (a7 * i3)) > (w64 (y1 * q5)))))) rfl rfl rfl rfl rfl (P_move rfl) ?_
               refine L_y (.bool ((decide ((w64 (a7 * i3)) > (w64 (y1 * q5)))))) rfl rfl rfl rfl rfl (P_move rfl) ?_
               refine L_s rfl rfl rfl jB rfl ?_
               refine L_y (.bool false) rfl rfl rfl rfl rfl (P_pick (b := (decide ((w64 (a7 * i3)) > (w64 (y1 * q5))))) rfl (pick_f jB rfl)) ?_
               refine L_y (.bool false) rfl rfl rfl rfl rfl (P_move rfl) ?_
               refine L_dead (fun _ => rfl) 12 rfl ?_
               refine L_y (.bool false) rfl rfl rfl rfl rfl (P_pick (b := false) rfl (pick_f rfl rfl)) ?_
               refine L_p (.bool false) rfl rfl (P_pick (b := false) rfl (pick_f rfl rfl)) ?_
               refine L_nl fun nW t03 hs => ?_
               have hfr := hfr.ext hs
               have o3 := o3.ext hs
               have i6 := i6.ext hs
               have j3 := j3.ext hs
               clear hs
               refine EL_nil ?_
               obtain rfl := sinj h
               exact hQ _ _ ⟨nW, hfr, d9, i8, x6, o3, i6, j7, x5, j3, o8, l5, n7, i5, rfl⟩
            ·rcases csome h with ⟨lB, h⟩ | ⟨lB, h⟩
             ·rcases csome h with ⟨x8, h⟩ | ⟨x8, h⟩
              ·obtain ⟨uC, oS, h⟩ := bsome h
               obtain ⟨iF, xI, h⟩ := bsome h
               have oW := PT_idx o3 xI
               refine L_load (x := .tmp 201) Try.isAgg3 Try.sizeOf3 oW fun u03 pW pS => ?_
               obtain rfl := RV_int.1 pW
               obtain ⟨vC, qS, h⟩ := bsome h
               refine E_drawL (g := n9) (n := 57) [] [0, 1, 2, 3, 4, 5, 6, 7, 8, 9, 10, 11, 12, 13, 14, 15, 16, 17, 18, 19, 20, 21, 22, 23, 24, 25, 26, 27, 28, 29, 30, 31, 32, 33, 34, 35, 36, 37, 38, 39, 40, 41, 42, 43, 44, 45, 46, 47, 48, 49, 50, 51, 52, 53, 54, 55, 56] rfl mixed (by kernel_rfl) trivial ?_
               refine L_p (.int .i64 (u0)) rfl rfl (P_move l5) ?_
               refine L_p (.int .i64 (o0)) rfl rfl (P_move i5) ?_
               refine L_p (.bool ((decide (u0 < o0)))) rfl rfl (P_int rfl rfl rfl) ?_
               refine L_p (.bool ((decide (u0 < o0)))) rfl rfl (P_move rfl) ?_
               refine L_y z3 rfl rfl rfl rfl j1 (P_move x6) ?_
               refine L_y (.int .i64 (u0)) rfl rfl rfl rfl j1 (P_move l5) ?_
               refine L_y (ePtr z3 u0 1) rfl rfl rfl rfl j1 (P_indexAddr (α := Int) Try.underlying22 Try.sizeOf3 rfl o3 rfl o9) ?_
               refine L_ld (c := .int .i64 (j6)) rfl rfl (.yes2 rfl rfl j1) (fun _ _ h => h.ch) iA rfl ?_
               refine L_y z3 rfl rfl rfl rfl j1 (P_move x6) ?_
               refine L_y (.int .i64 (o0)) rfl rfl rfl rfl j1 (P_move i5) ?_
               refine L_y (ePtr z3 o0 1) rfl rfl rfl rfl j1 (P_indexAddr (α := Int) Try.underlying22 Try.sizeOf3 rfl o3 rfl t9) ?_
               refine L_ld (c := .int .i64 (v6)) rfl rfl (.yes2 rfl rfl j1) (fun _ _ h => h.ch) jA rfl ?_
               refine L_y (.bool ((j6 == v6))) rfl rfl rfl rfl j1 (P_int rfl rfl rfl) ?_
               refine L_p (.bool ((j6 == v6))) rfl rfl (P_pick (b := (decide (u0 < o0))) rfl (pick_t j1 rfl)) ?_
               refine L_p (.bool ((j6 == v6))) rfl rfl (P_move rfl) ?_
               iterate 9 refine L_s rfl rfl rfl z4 rfl ?_
               refine L_p (.bool false) rfl rfl (P_pick (b := (j6 == v6)) rfl (pick_f z4 rfl)) ?_
               refine L_dead (fun _ => rfl) 13 rfl ?_
               refine L_y (.bool ((decide ((w64 (a7 * i3)) > (w64 (y1 * q5)))))) rfl rfl rfl rfl rfl (P_move rfl) ?_
               refine L_y (.bool ((decide ((w64 (a7 * i3)) > (w64 (y1 * q5)))))) rfl rfl rfl rfl rfl (P_move rfl) ?_
               refine L_y (.bool ((decide ((w64 (c7 * i3)) ≤ (w64 (y1 * d7)))))) rfl rfl rfl rfl lB (P_move rfl) ?_
               refine L_y (.bool ((decide ((w64 (c7 * i3)) ≤ (w64 (y1 * d7)))))) rfl rfl rfl rfl rfl (P_pick (b := (decide ((w64 (a7 * i3)) > (w64 (y1 * q5))))) rfl (pick_t lB rfl)) ?_
               refine L_y (.bool ((decide ((w64 (c7 * i3)) ≤ (w64 (y1 * d7)))))) rfl rfl rfl rfl rfl (P_move rfl) ?_
               refine L_y (.int .i64 ((w64 (y1 * q5)))) rfl rfl rfl rfl x8 (P_move n7) ?_
               refine L_y (.int .i64 (i3)) rfl rfl rfl rfl x8 (P_move j7) ?_
               refine L_y (.int .i64 (uC)) rfl rfl rfl rfl x8 (P_int rfl rfl (congrArg (Option.map (Value.int .i64)) oS)) ?_
               refine L_y (.int .i64 (y1)) rfl rfl rfl rfl x8 (P_move i8) ?_
               refine L_y z3 rfl rfl rfl rfl x8 (P_move x6) ?_
               refine L_y (.int .i64 (o0)) rfl rfl rfl rfl x8 (P_move i5) ?_
               refine L_y (ePtr z3 o0 1) rfl rfl rfl rfl x8 (P_indexAddr (α := Int) Try.underlying22 Try.sizeOf3 rfl o3 rfl xI) ?_
               refine L_ld (c := .int .i64 (iF)) rfl rfl (.yes2 rfl rfl x8) (fun _ _ h => h.ch) pS rfl ?_
               refine L_y (.int .i64 ((w64 (y1 * iF)))) rfl rfl rfl rfl x8 (P_int rfl rfl rfl) ?_
               refine L_y (.int .i64 (i3)) rfl rfl rfl rfl x8 (P_move j7) ?_
               refine L_y (.int .i64 (vC)) rfl rfl rfl rfl x8 (P_int rfl rfl (congrArg (Option.map (Value.int .i64)) qS)) ?_
               refine L_y (.bool ((decide (uC < vC)))) rfl rfl rfl rfl x8 (P_int rfl rfl rfl) ?_
               refine L_y (.bool ((decide (uC < vC)))) rfl rfl rfl rfl rfl (P_pick (b := (decide ((w64 (c7 * i3)) ≤ (w64 (y1 * d7))))) rfl (pick_t x8 rfl)) ?_
               refine L_p (.bool ((decide (uC < vC)))) rfl rfl (P_pick (b := false) rfl (pick_f rfl rfl)) ?_
               refine L_nl fun qW v03 hs => ?_
               have hfr := hfr.ext hs
               have o3 := o3.ext hs
               have i6 := i6.ext hs
               have j3 := j3.ext hs
               clear hs
               refine EL_nil ?_
               obtain rfl := sinj h
               exact hQ _ _ ⟨qW, hfr, d9, i8, x6, o3, i6, j7, x5, j3, o8, l5, n7, i5, rfl⟩
              ·refine E_drawL (g := n9) (n := 57) [] [0, 1, 2, 3, 4, 5, 6, 7, 8, 9, 10, 11, 12, 13, 14, 15, 16, 17, 18, 19, 20, 21, 22, 23, 24, 25, 26, 27, 28, 29, 30, 31, 32, 33, 34, 35, 36, 37, 38, 39, 40, 41, 42, 43, 44, 45, 46, 47, 48, 49, 50, 51, 52, 53, 54, 55, 56] rfl mixed (by kernel_rfl) trivial ?_
               refine L_p (.int .i64 (u0)) rfl rfl (P_move l5) ?_
               refine L_p (.int .i64 (o0)) rfl rfl (P_move i5) ?_
               refine L_p (.bool ((decide (u0 < o0)))) rfl rfl (P_int rfl rfl rfl) ?_
               refine L_p (.bool ((decide (u0 < o0)))) rfl rfl (P_move rfl) ?_
               refine L_y z3 rfl rfl rfl rfl j1 (P_move x6) ?_
               refine L_y (.int .i64 (u0)) rfl rfl rfl rfl j1 (P_move l5) ?_
               refine L_y (ePtr z3 u0 1) rfl rfl rfl rfl j1 (P_indexAddr (α := Int) Try.underlying22 Try.sizeOf3 rfl o3 rfl o9) ?_
               refine L_ld (c := .int .i64 (j6)) rfl rfl (.yes2 rfl rfl j1) (fun _ _ h => h.ch) iA rfl ?_
               refine L_y z3 rfl rfl rfl rfl j1 (P_move x6) ?_
               refine L_y (.int .i64 (o0)) rfl rfl rfl rfl j1 (P_move i5) ?_
               refine L_y (ePtr z3 o0 1) rfl rfl rfl rfl j1 (P_indexAddr (α := Int) Try.underlying22 Try.sizeOf3 rfl o3 rfl t9) ?_
               refine L_ld (c := .int .i64 (v6)) rfl rfl (.yes2 rfl rfl j1) (fun _ _ h => h.ch) jA rfl ?_
               refine L_y (.bool ((j6 == v6))) rfl rfl rfl rfl j1 (P_int rfl rfl rfl) ?_
               refine L_p (.bool ((j6 == v6))) rfl rfl (P_pick (b := (decide (u0 < o0))) rfl (pick_t j1 rfl)) ?_
               refine L_p (.bool ((j6 == v6))) rfl rfl (P_move rfl) ?_
               iterate 9 refine L_s rfl rfl rfl z4 rfl ?_
               refine L_p (.bool false) rfl rfl (P_pick (b := (j6 == v6)) rfl (pick_f z4 rfl)) ?_
               refine L_dead (fun _ => rfl) 13 rfl ?_
               refine L_y (.bool ((decide ((w64 (a7 * i3)) > (w64 (y1 * q5)))))) rfl rfl rfl rfl rfl (P_move rfl) ?_
               refine L_y (.bool ((decide ((w64 (a7 * i3)) > (w64 (y1 * q5)))))) rfl rfl rfl rfl rfl (P_move rfl) ?_
               refine L_y (.bool ((decide ((w64 (c7 * i3)) ≤ (w64 (y1 * d7)))))) rfl rfl rfl rfl lB (P_move rfl) ?_
               refine L_y (.bool ((decide ((w64 (c7 * i3)) ≤ (w64 (y1 * d7)))))) rfl rfl rfl rfl rfl (P_pick (b := (decide ((w64 (a7 * i3)) > (w64 (y1 * q5))))) rfl (pick_t lB rfl)) ?_
               refine L_y (.bool ((decide ((w64 (c7 * i3)) ≤ (w64 (y1 * d7)))))) rfl rfl rfl rfl rfl (P_move rfl) ?_
               iterate 12 refine L_s rfl rfl rfl x8 rfl ?_
               refine L_y (.bool false) rfl rfl rfl rfl rfl (P_pick (b := (decide ((w64 (c7 * i3)) ≤ (w64 (y1 * d7))))) rfl (pick_f x8 rfl)) ?_
               refine L_p (.bool false) rfl rfl (P_pick (b := false) rfl (pick_f rfl rfl)) ?_
               refine L_nl fun sW x03 hs => ?_
               have hfr := hfr.ext hs
               have o3 := o3.ext hs
               have i6 := i6.ext hs
               have j3 := j3.ext hs
               clear hs
               refine EL_nil ?_
               obtain rfl := sinj h
               exact hQ _ _ ⟨sW, hfr, d9, i8, x6, o3, i6, j7, x5, j3, o8, l5, n7, i5, rfl⟩
             ·refine E_drawL (g := n9) (n := 57) [] [0, 1, 2, 3, 4, 5, 6, 7, 8, 9, 10, 11, 12, 13, 14, 15, 16, 17, 18, 19, 20, 21, 22, 23, 24, 25, 26, 27, 28, 29, 30, 31, 32, 33, 34, 35, 36, 37, 38, 39, 40, 41, 42, 43, 44, 45, 46, 47, 48, 49, 50, 51, 52, 53, 54, 55, 56] rfl mixed (by kernel_rfl) trivial ?_
              refine L_p (.int .i64 (u0)) rfl rfl (P_move l5) ?_
              refine L_p (.int .i64 (o0)) rfl rfl (P_move i5) ?_
              refine L_p (.bool ((decide (u0 < o0)))) rfl rfl (P_int rfl rfl rfl) ?_
              refine L_p (.bool ((decide (u0 < o0)))) rfl rfl (P_move rfl) ?_
              refine L_y z3 rfl rfl rfl rfl j1 (P_move x6) ?_
              refine L_y (.int .i64 (u0)) rfl rfl rfl rfl j1 (P_move l5) ?_
              refine L_y (ePtr z3 u0 1) rfl rfl rfl rfl j1 (P_indexAddr (α := Int) Try.underlying22 Try.sizeOf3 rfl o3 rfl o9) ?_
              refine L_ld (c := .int .i64 (j6)) rfl rfl (.yes2 rfl rfl j1) (fun _ _ h => h.ch) iA rfl ?_
              refine L_y z3 rfl rfl rfl rfl j1 (P_move x6) ?_
              refine L_y (.int .i64 (o0)) rfl rfl rfl rfl j1 (P_move i5) ?_
              refine L_y (ePtr z3 o0 1) rfl rfl rfl rfl j1 (P_indexAddr (α := Int) Try.underlying22 Try.sizeOf3 rfl o3 rfl t9) ?_
              refine L_ld (c := .int .i64 (v6)) rfl rfl (.yes2 rfl rfl j1) (fun _ _ h => h.ch) jA rfl ?_
              refine L_y (.bool ((j6 == v6))) rfl rfl rfl rfl j1 (P_int rfl rfl rfl) ?_
              refine L_p (.bool ((j6 == v6))) rfl rfl (P_pick (b := (decide (u0 < o0))) rfl (pick_t j1 rfl)) ?_
              refine L_p (.bool ((j6 == v6))) rfl rfl (P_move rfl) ?_
              iterate 9 refine L_s rfl rfl rfl z4 rfl ?_
              refine L_p (.bool false) rfl rfl (P_pick (b := (j6 == v6)) rfl (pick_f z4 rfl)) ?_
              refine L_dead (fun _ => rfl) 13 rfl ?_
              refine L_y (.bool ((decide ((w64 (a7 * i3)) > (w64 (y1 * q5)))))) rfl rfl rfl rfl rfl (P_move rfl) ?_
              refine L_y (.bool ((decide ((w64 (a7 * i3)) > (w64 (y1 * q5)))))) rfl rfl rfl rfl rfl (P_move rfl) ?_
              refine L_s rfl rfl rfl lB rfl ?_
              refine L_y (.bool false) rfl rfl rfl rfl rfl (P_pick (b := (decide ((w64 (a7 * i3)) > (w64 (y1 * q5))))) rfl (pick_f lB rfl)) ?_
              refine L_y (.bool false) rfl rfl rfl rfl rfl (P_move rfl) ?_
              refine L_dead (fun _ => rfl) 12 rfl ?_
              refine L_y (.bool false) rfl rfl rfl rfl rfl (P_pick (b := false) rfl (pick_f rfl rfl)) ?_
              refine L_p (.bool false) rfl rfl (P_pick (b := false) rfl (pick_f rfl rfl)) ?_
              refine L_nl fun tW y03 hs => ?_
              have hfr := hfr.ext hs
              have o3 := o3.ext hs
              have i6 := i6.ext hs
              have j3 := j3.ext hs
              clear hs
              refine EL_nil ?_
              obtain rfl := sinj h
              exact hQ _ _ ⟨tW, hfr, d9, i8, x6, o3, i6, j7, x5, j3, o8, l5, n7, i5, rfl⟩
           ·rcases csome h with ⟨mB, h⟩ | ⟨mB, h⟩
            ·rcases csome h with ⟨y8, h⟩ | ⟨y8, h⟩
             ·obtain ⟨xC, rS, h⟩ := bsome h
              obtain ⟨nF, yI, h⟩ := bsome h
              have uW := PT_idx o3 yI
              refine L_load (x := .tmp 201) Try.isAgg3 Try.sizeOf3 uW fun z03 vW sS => ?_
              obtain rfl := RV_int.1 vW
              obtain ⟨yC, tS, h⟩ := bsome h
              refine E_drawL (g := n9) (n := 57) [] [0, 1, 2, 3, 4, 5, 6, 7, 8, 9, 10, 11, 12, 13, 14, 15, 16, 17, 18, 19, 20, 21, 22, 23, 24, 25, 26, 27, 28, 29, 30, 31, 32, 33, 34, 35, 36, 37, 38, 39, 40, 41, 42, 43, 44, 45, 46, 47, 48, 49, 50, 51, 52, 53, 54, 55, 56] rfl mixed (by kernel_rfl) trivial ?_
              refine L_p (.int .i64 (u0)) rfl rfl (P_move l5) ?_
              refine L_p (.int .i64 (o0)) rfl rfl (P_move i5) ?_
              refine L_p (.bool ((decide (u0 < o0)))) rfl rfl (P_int rfl rfl rfl) ?_
              refine L_p (.bool ((decide (u0 < o0)))) rfl rfl (P_move rfl) ?_
              iterate 9 refine L_s rfl rfl rfl j1 rfl ?_
              refine L_p (.bool false) rfl rfl (P_pick (b := (decide (u0 < o0))) rfl (pick_f j1 rfl)) ?_
              refine L_dead (fun _ => rfl) 24 rfl ?_
              refine L_y (.bool ((decide ((w64 (a7 * i3)) > (w64 (y1 * q5)))))) rfl rfl rfl rfl rfl (P_move rfl) ?_
              refine L_y (.bool ((decide ((w64 (a7 * i3)) > (w64 (y1 * q5)))))) rfl rfl rfl rfl rfl (P_move rfl) ?_
              refine L_y (.bool ((decide ((w64 (c7 * i3)) ≤ (w64 (y1 * d7)))))) rfl rfl rfl rfl mB (P_move rfl) ?_
              refine L_y (.bool ((decide ((w64 (c7 * i3)) ≤ (w64 (y1 * d7)))))) rfl rfl rfl rfl rfl (P_pick (b := (decide ((w64 (a7 * i3)) > (w64 (y1 * q5))))) rfl (pick_t mB rfl)) ?_
              refine L_y (.bool ((decide ((w64 (c7 * i3)) ≤ (w64 (y1 * d7)))))) rfl rfl rfl rfl rfl (P_move rfl) ?_
              refine L_y (.int .i64 ((w64 (y1 * q5)))) rfl rfl rfl rfl y8 (P_move n7) ?_
              refine L_y (.int .i64 (i3)) rfl rfl rfl rfl y8 (P_move j7) ?_
              refine L_y (.int .i64 (xC)) rfl rfl rfl rfl y8 (P_int rfl rfl (congrArg (Option.map (Value.int .i64)) rS)) ?_
              refine L_y (.int .i64 (y1)) rfl rfl rfl rfl y8 (P_move i8) ?_
              refine L_y z3 rfl rfl rfl rfl y8 (P_move x6) ?_
              refine L_y (.int .i64 (o0)) rfl rfl rfl rfl y8 (P_move i5) ?_
              refine L_y (ePtr z3 o0 1) rfl rfl rfl rfl y8 (P_indexAddr (α := Int) Try.underlying22 Try.sizeOf3 rfl o3 rfl yI) ?_
              refine L_ld (c := .int .i64 (nF)) rfl rfl (.yes2 rfl rfl y8) (fun _ _ h => h.ch) sS rfl ?_
              refine L_y (.int .i64 ((w64 (y1 * nF)))) rfl rfl rfl rfl y8 (P_int rfl rfl rfl) ?_
              refine L_y (.int .i64 (i3)) rfl rfl rfl rfl y8 (P_move j7) ?_
              refine L_y (.int .i64 (yC)) rfl rfl rfl rfl y8 (P_int rfl rfl (congrArg (Option.map (Value.int .i64)) tS)) ?_
              refine L_y (.bool ((decide (xC < yC)))) rfl rfl rfl rfl y8 (P_int rfl rfl rfl) ?_
              refine L_y (.bool ((decide (xC < yC)))) rfl rfl rfl rfl rfl (P_pick (b := (decide ((w64 (c7 * i3)) ≤ (w64 (y1 * d7))))) rfl (pick_t y8 rfl)) ?_
              refine L_p (.bool ((decide (xC < yC)))) rfl rfl (P_pick (b := false) rfl (pick_f rfl rfl)) ?_
              refine L_nl fun xW a04 hs => ?_
              have hfr := hfr.ext hs
              have o3 := o3.ext hs
              have i6 := i6.ext hs
              have j3 := j3.ext hs
              clear hs
              refine EL_nil ?_
              obtain rfl := sinj h
              exact hQ _ _ ⟨xW, hfr, d9, i8, x6, o3, i6, j7, x5, j3, o8, l5, n7, i5, rfl⟩
             ·refine E_drawL (g := n9) (n := 57) [] [0, 1, 2, 3, 4, 5, 6, 7, 8, 9, 10, 11, 12, 13, 14, 15, 16, 17, 18, 19, 20, 21, 22, 23, 24, 25, 26, 27, 28, 29, 30, 31, 32, 33, 34, 35, 36, 37, 38, 39, 40, 41, 42, 43, 44, 45, 46, 47, 48, 49, 50, 51, 52, 53, 54, 55, 56] rfl mixed (by kernel_rfl) trivial ?_
              refine L_p (.int .i64 (u0)) rfl rfl (P_move l5) ?_
              refine L_p (.int .i64 (o0)) rfl rfl (P_move i5) ?_
              refine L_p (.bool ((decide (u0 < o0)))) rfl rfl (P_int rfl rfl rfl) ?_
              refine L_p (.bool ((decide (u0 < o0)))) rfl rfl (P_move rfl) ?_
              iterate 9 refine L_s rfl rfl rfl j1 rfl ?_
              refine L_p (.bool false) rfl rfl (P_pick (b := (decide (u0 < o0))) rfl (pick_f j1 rfl)) ?_
              refine L_dead (fun _ => rfl) 24 rfl ?_
              refine L_y (.bool ((decide ((w64 (a7 * i3)) > (w64 (y1 * q5)))))) rfl rfl rfl rfl rfl (P_move rfl) ?_
              refine L_y (.bool ((decide ((w64 (a7 * i3)) > (w64 (y1 * q5)))))) rfl rfl rfl rfl rfl (P_move rfl) ?_
              refine L_y (.bool ((decide ((w64 (c7 * i3)) ≤ (w64 (y1 * d7)))))) rfl rfl rfl rfl mB (P_move rfl) ?_
              refine L_y (.bool ((decide ((w64 (c7 * i3)) ≤ (w64 (y1 * d7)))))) rfl rfl rfl rfl rfl (P_pick (b := (decide ((w64 (a7 * i3)) > (w64 (y1 * q5))))) rfl (pick_t mB rfl)) ?_
              refine L_y (.bool ((decide ((w64 (c7 * i3)) ≤ (w64 (y1 * d7)))))) rfl rfl rfl rfl rfl (P_move rfl) ?_
              iterate 12 refine L_s rfl rfl rfl y8 rfl ?_
              refine L_y (.bool false) rfl rfl rfl rfl rfl (P_pick (b := (decide ((w64 (c7 * i3)) ≤ (w64 (y1 * d7))))) rfl (pick_f y8 rfl)) ?_
              refine L_p (.bool false) rfl rfl (P_pick (b := false) rfl (pick_f rfl rfl)) ?_
              refine L_nl fun yW b04 hs => ?_
              have hfr := hfr.ext hs
              have o3 := o3.ext hs
              have i6 := i6.ext hs
              have j3 := j3.ext hs
              clear hs
              refine EL_nil ?_
              obtain rfl := sinj h
              exact hQ _ _ ⟨yW, hfr, d9, i8, x6, o3, i6, j7, x5, j3, o8, l5, n7, i5, rfl⟩
            ·refine E_drawL (g := n9) (n := 57) [] [0, 1, 2, 3, 4, 5, 6, 7, 8, 9, 10, 11, 12, 13, 14, 15, 16, 17, 18, 19, 20, 21, 22, 23, 24, 25, 26, 27, 28, 29, 30, 31, 32, 33, 34, 35, 36, 37, 38, 39, 40, 41, 42, 43, 44, 45, 46, 47, 48, 49, 50, 51, 52, 53, 54, 55, 56] rfl mixed (by kernel_rfl) trivial ?_
             refine L_p (.int .i64 (u0)) rfl rfl (P_move l5) ?_
             refine L_p (.int .i64 (o0)) rfl rfl (P_move i5) ?_
             refine L_p (.bool ((decide (u0 < o0)))) rfl rfl (P_int rfl rfl rfl) ?_
             refine L_p (.bool ((decide (u0 < o0)))) rfl rfl (P_move rfl) ?_
             iterate 9 refine L_s rfl rfl rfl j1 rfl ?_
             refine L_p (.bool false) rfl rfl (P_pick (b := (decide (u0 < o0))) rfl (pick_f j1 rfl)) ?_
             refine L_dead (fun _ => rfl) 24 rfl ?_
             refine L_y (.bool ((decide ((w64 (a7 * i3)) > (w64 (y1 * q5)))))) rfl rfl rfl rfl rfl (P_move rfl) ?_
             refine L_y (.bool ((decide ((w64 (a7 * i3)) > (w64 (y1 * q5)))))) rfl rfl rfl rfl rfl (P_move rfl) ?_
             refine L_s rfl rfl rfl mB rfl ?_
             refine L_y (.bool false) rfl rfl rfl rfl rfl (P_pick (b := (decide ((w64 (a7 * i3)) > (w64 (y1 * q5))))) rfl (pick_f mB rfl)) ?_
             refine L_y (.bool false) rfl rfl rfl rfl rfl (P_move rfl) ?_
             refine L_dead (fun _ => rfl) 12 rfl ?_
             refine L_y (.bool false) rfl rfl rfl rfl rfl (P_pick (b := false) rfl (pick_f rfl rfl)) ?_
             refine L_p (.bool false) rfl rfl (P_pick (b := false) rfl (pick_f rfl rfl)) ?_
             refine L_nl fun zW c04 hs => ?_
             have hfr := hfr.ext hs
             have o3 := o3.ext hs
             have i6 := i6.ext hs
             have j3 := j3.ext hs
             clear hs
             refine EL_nil ?_
             obtain rfl := sinj h
             exact hQ _ _ ⟨zW, hfr, d9, i8, x6, o3, i6, j7, x5, j3, o8, l5, n7, i5, rfl⟩
          ·clear hx
           obtain ⟨aX, hfr, dP, eP, gP, iP, jP, kP, jL, lL, mL, nL, oL, pL, rF⟩ := hR
           rcases csome h with ⟨aG, h⟩ | ⟨aG, h⟩
           ·refine E_cond_true (Eq.trans (show ev _ _ = .bool (aB) from rF) (congrArg Value.bool aG)) ?_
            refine E_seq (E_region (EL_at (.bool false) rfl rfl ?_))
            refine EL_nil (thn_n (E_ret (blk_r ?_)))
            refine thn_r ?_
            refine thn_r ?_
            refine blk_r ?_
            refine blk_r ?_
            refine thn_r ?_
            refine thn_r ?_
            refine blk_r ?_
            refine thn_r ?_
            obtain rfl := sinj h
            exact end1 rfl rfl (show _ = .bool false from rfl) ⟨_, hfr, rfl⟩
           ·refine E_cond_false (Eq.trans (show ev _ _ = .bool (aB) from rF) (congrArg Value.bool aG)) ?_
            exact E_skip (blk_n (thn_n (bS () _ _ ⟨aX, hfr, dP, eP, gP, iP, jP, kP, jL, lL, mL, nL, oL, pL⟩ h)))
         ·rintro _ i01 d04 ⟨bX, hfr, lP, mP, nP, oP, pP, sP, qL, rL, tL, uL, vL, xL⟩ h
          refine E_region (EL_mv xL rfl ?_)
          refine EL_in (.int .i64 ((w64 (o0 + (1 : Int))))) rfl rfl rfl rfl ?_
          refine EL_at (.int .i64 ((w64 (o0 + (1 : Int))))) rfl rfl ?_
          exact EL_nil (thn_n (zR ((w64 (o0 + (1 : Int)))) _ _ ⟨bX, hfr, lP, mP, nP, oP, pP, sP, qL, rL, tL, uL, vL, rfl⟩ h))
      ·rintro uD j01 e04 ⟨cX, hfr, tP, uP, vP, xP, yP, zP, yL, zL, aM, bM⟩ h
       refine E_region (EL_mv bM rfl ?_)
       refine EL_in (.int .i64 ((w64 (u0 + (1 : Int))))) rfl rfl rfl rfl ?_
       refine EL_at (.int .i64 ((w64 (u0 + (1 : Int))))) rfl rfl ?_
       exact EL_nil (thn_n (uR (uD, (w64 (u0 + (1 : Int)))) _ _ ⟨cX, hfr, tP, uP, vP, xP, yP, zP, yL, zL, aM, rfl⟩ h))
    ·rintro nD k01 g04 ⟨dX, hfr, bQ, aI, cQ, dQ, eQ, cM, dM, eM⟩ h
     refine E_joinC h (fun (s : Unit) e w => ∃ (g : Gh) , Fr gI wI g w ∧ e 2 = .int .u8 (UInt8.toNat (x2)) ∧ e 7 = .int .i64 (y1) ∧ e 8 = z3 ∧ RV g.m w (y6 : List Int) z3 ∧ OS 3029 g w 3 (y6 : List Int) z3 ∧ e 11 = u3 ∧ RV g.m w (b7.1 : List Int) u3) (fun X20194 aK uS h => ?_) ?_
     ·refine E_seq (E_region (EL_mv eM rfl ?_))
      refine EL_mv aI rfl ?_
      refine EL_in (.bool ((nD != y1))) rfl rfl rfl rfl ?_
      refine EL_nil (thn_n ?_)
      rcases csome h with ⟨bG, h⟩ | ⟨bG, h⟩
      ·refine E_ct bG rfl ?_
       refine E_seq (E_region (EL_at (.bool false) rfl rfl ?_))
       refine EL_nil (thn_n (E_ret (thn_r ?_)))
       obtain rfl := sinj h
       exact end1 rfl rfl (show _ = .bool false from rfl) ⟨_, hfr, rfl⟩
      ·refine E_cf bG rfl ?_
       exact E_skip (thn_n (uS () _ _ ⟨dX, hfr, bQ, aI, cQ, dQ, eQ, cM, dM⟩ h))
     ·rintro _ l01 h04 ⟨eX, hfr, gQ, iQ, jQ, sE, tE, gM, dE⟩ h
      refine E_seq (E_region (EL_do .plain rfl (D_buildSlice (g := eX) 3212 (xs := ([] : List Int)) (vs := []) Try.underlying22 Try.sizeOf3 Try.zeroValue3 rfl rfl .nil RVs.nil rfl rfl fun gX i04 iM hs o20197 iX hxt hfl => ?_)))
      have hfr := hfr.stp hs
      have sE := sE.stp hs
      have tE := tE.stp hs rfl
      have dE := dE.stp hs
      refine EL_at iM rfl rfl ?_
      refine EL_nil (thn_n ?_)
      obtain ⟨iC, hx, h⟩ := bsome h
      refine E_join (fun e w => ∃ (g : Gh) (eE : Value), Fr gI wI g w ∧ e 7 = .int .i64 (y1) ∧ e 8 = z3 ∧ RV g.m w (y6 : List Int) z3 ∧ OS 3029 g w 3 (y6 : List Int) z3 ∧ e 11 = u3 ∧ RV g.m w (b7.1 : List Int) u3 ∧ e 19 = eE ∧ RV g.m w (iC : List Int) eE ∧ OS 3212 g w 3 (iC : List Int) eE) (fun Q' hQ => ?_) (fun m01 j04 hR => ?_)
      ·replace h := hx
       clear hx
       refine E_seq (E_region (EL_at (.int .i64 (0)) rfl rfl ?_))
       refine EL_nil (thn_n (E_block ?_))
       refine E_lp h (fun (s : (List Int) × Int) e w => ∃ (g : Gh) (eE : Value), Fr gI wI g w ∧ e 2 = .int .u8 (UInt8.toNat (x2)) ∧ e 7 = .int .i64 (y1) ∧ e 8 = z3 ∧ RV g.m w (y6 : List Int) z3 ∧ OS 3029 g w 3 (y6 : List Int) z3 ∧ e 11 = u3 ∧ RV g.m w (b7.1 : List Int) u3 ∧ e 19 = eE ∧ RV g.m w (s.1 : List Int) eE ∧ OS 3212 g w 3 (s.1 : List Int) eE ∧ e 20 = .int .i64 (s.2)) ⟨gX, (iM), hfr, gQ, iQ, jQ, sE, tE, gM, dE, rfl, iX, o20197, rfl⟩ (fun X20219 pJ vS => ?_)
       rintro ⟨tB, e9⟩ n01 k04 ⟨jM, kC, hfr, kQ, bI, uE, vE, cI, rG, sG, tG, uG, vG, xG⟩ h
       refine E_joinC h (fun (s : Unit) e w => ∃ (g : Gh) , Fr gI wI g w ∧ e 2 = .int .u8 (UInt8.toNat (x2)) ∧ e 7 = .int .i64 (y1) ∧ e 8 = z3 ∧ RV g.m w (y6 : List Int) z3 ∧ OS 3029 g w 3 (y6 : List Int) z3 ∧ e 11 = u3 ∧ RV g.m w (b7.1 : List Int) u3 ∧ e 19 = kC ∧ RV g.m w (tB : List Int) kC ∧ OS 3212 g w 3 (tB : List Int) kC ∧ e 20 = .int .i64 (e9)) (fun X20222 rJ xS h => ?_) ?_
       ·refine E_seq (E_region (EL_mv xG rfl ?_))
        refine EL_mv uE rfl ?_
        refine EL_p (.int .i64 ((y6).length : Int)) (P_len Try.underlying22 rfl vE) rfl ?_
        refine EL_in (.bool ((decide (e9 < ((y6).length : Int))))) rfl rfl rfl rfl ?_
        refine EL_nil (thn_n ?_)
        rcases csome h with ⟨cG, h⟩ | ⟨cG, h⟩
        ·refine E_ct cG rfl ?_
         exact E_skip (thn_n (xS () _ _ ⟨jM, hfr, kQ, bI, uE, vE, cI, rG, sG, tG, uG, vG, xG⟩ h))
        ·refine E_cf cG rfl ?_
         refine E_exit ?_
         refine thn_e ?_
         refine thn_e ?_
         refine blk_hit ?_
         obtain rfl := sinj h
         exact hQ _ _ ⟨jM, (kC), hfr, bI, uE, vE, cI, rG, sG, tG, uG, vG⟩
       ·rintro _ o01 l04 ⟨kM, hfr, dI, lQ, iI, pA, eC, mM, yB, nM, gE, iE, yG⟩ h
        obtain ⟨vB, hx, h⟩ := bsome h
        refine E_join (fun e w => ∃ (g : Gh) (eE : Value), Fr gI wI g w ∧ e 2 = .int .u8 (UInt8.toNat (x2)) ∧ e 7 = .int .i64 (y1) ∧ e 8 = z3 ∧ RV g.m w (y6 : List Int) z3 ∧ OS 3029 g w 3 (y6 : List Int) z3 ∧ e 11 = u3 ∧ RV g.m w (b7.1 : List Int) u3 ∧ e 19 = eE ∧ RV g.m w (vB : List Int) eE ∧ OS 3212 g w 3 (vB : List Int) eE ∧ e 20 = .int .i64 (e9)) (fun Q' hQ => ?_) (fun p01 m04 hR => ?_)
        ·replace h := hx
         clear hx
         refine E_block ?_
         refine E_region (EL_mv nM rfl ?_)
         refine EL_mv iI rfl ?_
         refine EL_mv yG rfl ?_
         obtain ⟨oD, zI, h⟩ := bsome h
         refine EL_p (ePtr z3 e9 1) (P_indexAddr (α := Int) Try.underlying22 Try.sizeOf3 rfl pA rfl zI) rfl ?_
         have jX := PT_idx pA zI
         refine EL_do .plain rfl (D_load (g := kM) Try.isAgg3 Try.sizeOf3 rfl jX fun n04 kX => ?_)
         obtain rfl := RV_int.1 kX
         refine EL_mv dI rfl ?_
         refine EL_p (.int .i64 (((x2).toNat : Int))) (P_u8int Try.underlying5 Try.underlying3 rfl) rfl ?_
         obtain ⟨cC, yS, h⟩ := bsome h
         refine EL_p (.int .i64 (cC)) (P_int rfl rfl (congrArg (Option.map (Value.int .i64)) yS)) rfl ?_
         refine EL_in (.int .i64 ((w64 ((1 : Int) + cC)))) rfl rfl rfl rfl ?_
         refine EL_p (.int .i64 ((w64 (oD * (w64 ((1 : Int) + cC)))))) (P_int rfl rfl rfl) rfl ?_
         refine EL_do .plain rfl (D_buildSlice (g := kM) 3229 (xs := ([(w64 (oD * (w64 ((1 : Int) + cC))))] : List Int)) (vs := [.int .i64 ((w64 (oD * (w64 ((1 : Int) + cC)))))]) Try.underlying22 Try.sizeOf3 Try.zeroValue3 rfl rfl (.cons rfl .nil) (RVs.cons (RV_int.2 rfl) RVs.nil) rfl rfl fun lX o04 p04 hs o20236 mX hxt hfl => ?_)
         have hfr := hfr.stp hs
         have pA := pA.stp hs
         have eC := eC.stp hs rfl
         have yB := yB.stp hs
         have gE := gE.stp hs
         have iE := iE.stp hs rfl
         obtain ⟨qJ, zS, h⟩ := bsome h
         refine EL_do .plain rfl (D_append (g := lX) (i := 3212) Try.underlying22 info_3 rfl rfl iE gE rfl mX zS fun nX q04 oM hs o20237 oX _ => ?_)
         have hfr := hfr.stp hs
         have pA := pA.stp hs
         have eC := eC.stp hs rfl
         have yB := yB.stp hs
         refine EL_at oM rfl rfl ?_
         refine EL_nil (blk_n ?_)
         obtain rfl := sinj h
         exact hQ _ _ ⟨nX, (oM), hfr, dI, lQ, iI, pA, eC, mM, yB, rfl, oX, o20237, yG⟩
        ·clear hx
         obtain ⟨pX, pM, hfr, mQ, nQ, oQ, pQ, qQ, qM, rM, sM, tM, uM, vM⟩ := hR
         refine E_region (EL_mv vM rfl ?_)
         refine EL_in (.int .i64 ((w64 (e9 + (1 : Int))))) rfl rfl rfl rfl ?_
         refine EL_at (.int .i64 ((w64 (e9 + (1 : Int))))) rfl rfl ?_
         exact EL_nil (thn_n (vS (vB, (w64 (e9 + (1 : Int)))) _ _ ⟨pX, (pM), hfr, mQ, nQ, oQ, pQ, qQ, qM, rM, sM, tM, uM, rfl⟩ h))
      ·clear hx
       obtain ⟨qX, xM, hfr, jI, rQ, xE, x00, z9, o7, yM, zM, k00⟩ := hR
       refine E_seq (E_region (EL_mv jI rfl ?_))
       refine EL_mv yM rfl ?_
       obtain ⟨k8, eT, h⟩ := bsome h
       refine EL_do .plain rfl (D_call (g := qX) (vs := [.int .i64 (y1), xM]) en7 (.cons rfl (.cons rfl .nil)) (wk7 zM eT) fun rX q01 r04 hs hr => ?_)
       have hfr := hfr.ext hs
       have xE := xE.ext hs
       have o7 := o7.ext hs
       obtain ⟨u7, y00, rfl, q8, rfl⟩ := hr
       refine EL_mw (.tuple #[u7, .int .i64 (k8.2)]) rfl rfl ?_
       refine EL_p u7 (P_extract rfl rfl) rfl ?_
       refine EL_p (.int .i64 (k8.2)) (P_extract rfl rfl) rfl ?_
       refine EL_at u7 rfl rfl ?_
       refine EL_at (.int .i64 (k8.2)) rfl rfl ?_
       refine EL_nil (thn_n (E_seq (E_region (EL_mv jI rfl ?_))))
       refine EL_mv rQ rfl ?_
       obtain ⟨sJ, lT, h⟩ := bsome h
       refine EL_do .plain rfl (D_callG (g := rX) (vs := [z3]) en6 (.cons rfl .nil) (u6 (iO := 4240) xE lT) fun sX s04 t04 hs m20243 => ?_)
       obtain ⟨o20243, kI⟩ := m20243
       have hfr := hfr.ext hs
       have o7 := o7.ext hs
       have q8 := q8.ext hs
       refine EL_do .plain rfl (D_buildSlice (g := sX) 3241 (xs := ([(0 : Int)] : List Int)) (vs := [.int .i64 (0)]) Try.underlying22 Try.sizeOf3 Try.zeroValue3 rfl rfl (.cons rfl .nil) (RVs.cons (RV_int.2 rfl) RVs.nil) rfl rfl fun tX u04 v04 hs o20245 uX hxt hfl => ?_)
       have hfr := hfr.stp hs
       have o7 := o7.stp hs
       have q8 := q8.stp hs
       have kI := kI.stp hs
       have o20243 := o20243.stp hs rfl
       obtain ⟨tJ, mT, h⟩ := bsome h
       refine EL_do .plain rfl (D_append (g := tX) (i := 4240) Try.underlying22 info_3 rfl rfl o20243 kI rfl uX mT fun vX x04 xX hs o20246 yX _ => ?_)
       have hfr := hfr.stp hs
       have o7 := o7.stp hs
       have q8 := q8.stp hs
       obtain ⟨c8, nT, h⟩ := bsome h
       refine EL_do .plain rfl (D_call (g := vX) (vs := [.int .i64 (y1), xX]) en7 (.cons rfl (.cons rfl .nil)) (wk7 yX nT) fun eD r01 y04 hs hr => ?_)
       have hfr := hfr.ext hs
       have o7 := o7.ext hs
       have q8 := q8.ext hs
       obtain ⟨v7, z00, rfl, mA, rfl⟩ := hr
       refine EL_mw (.tuple #[v7, .int .i64 (c8.2)]) rfl rfl ?_
       refine EL_p v7 (P_extract rfl rfl) rfl ?_
       refine EL_p (.int .i64 (c8.2)) (P_extract rfl rfl) rfl ?_
       refine EL_at v7 rfl rfl ?_
       refine EL_at (.int .i64 (c8.2)) rfl rfl ?_
       refine EL_nil (thn_n (E_joinC h (fun (s : Unit) e w => ∃ (g : Gh) , Fr gI wI g w ∧ e 11 = u3 ∧ RV g.m w (b7.1 : List Int) u3 ∧ e 21 = u7 ∧ RV g.m w (k8.1 : List Int) u7 ∧ e 23 = v7 ∧ RV g.m w (c8.1 : List Int) v7) (fun X20266 zJ oT h => ?_) ?_))
       ·obtain ⟨yA, hx, h⟩ := bsome h
        refine E_join (fun e w => ∃ (g : Gh) , Fr gI wI g w ∧ e 11 = u3 ∧ RV g.m w (b7.1 : List Int) u3 ∧ e 21 = u7 ∧ RV g.m w (k8.1 : List Int) u7 ∧ e 23 = v7 ∧ RV g.m w (c8.1 : List Int) v7 ∧ e 274 = .bool (yA)) (fun Q' hQ => ?_) (fun s01 z04 hR => ?_)
        ·replace h := hx
         clear hx
         refine E_region (EL_mw (.int .i64 (k8.2)) rfl rfl ?_)
         refine EL_in (.bool ((k8.2 != (0 : Int)))) rfl rfl rfl rfl ?_
         refine EL_mw (.bool ((k8.2 != (0 : Int)))) rfl rfl ?_
         rcases csome h with ⟨nB, h⟩ | ⟨nB, h⟩
         ·refine EL_s rfl rfl nB rfl rfl ?_
          refine EL_s rfl rfl nB rfl rfl ?_
          refine EL_p (.bool true) (P_pick (b := (k8.2 != (0 : Int))) rfl (pick_t nB rfl)) rfl ?_
          refine EL_dead 23 rfl ?_
          refine EL_nil ?_
          obtain rfl := sinj h
          exact hQ _ _ ⟨eD, hfr, z9, o7, rfl, q8, rfl, mA, rfl⟩
         ·refine EL_y (.int .i64 (c8.2)) (P_move rfl) rfl rfl nB rfl ?_
          refine EL_y (.bool ((c8.2 != (0 : Int)))) (P_int rfl rfl rfl) rfl rfl nB rfl ?_
          refine EL_p (.bool ((c8.2 != (0 : Int)))) (P_pick (b := (k8.2 != (0 : Int))) rfl (pick_f nB rfl)) rfl ?_
          refine EL_mw (.bool ((c8.2 != (0 : Int)))) rfl rfl ?_
          rcases csome h with ⟨lA, h⟩ | ⟨lA, h⟩
          ·refine EL_s rfl rfl lA rfl rfl ?_
           iterate 4 refine EL_s rfl rfl lA rfl rfl ?_
           refine EL_p (.bool true) (P_pick (b := (c8.2 != (0 : Int))) rfl (pick_t lA rfl)) rfl ?_
           refine EL_dead 16 rfl ?_
           refine EL_nil ?_
           obtain rfl := sinj h
           exact hQ _ _ ⟨eD, hfr, z9, o7, rfl, q8, rfl, mA, rfl⟩
          ·refine EL_y u7 (P_move rfl) rfl rfl lA rfl ?_
           refine EL_y (.int .i64 ((k8.1).length : Int)) (P_len Try.underlying22 rfl q8) rfl rfl lA rfl ?_
           refine EL_y u3 (P_move z9) rfl rfl lA rfl ?_
           refine EL_y (.int .i64 ((b7.1).length : Int)) (P_len Try.underlying22 rfl o7) rfl rfl lA rfl ?_
           refine EL_y (.bool ((((k8.1).length : Int) != ((b7.1).length : Int)))) (P_int rfl rfl rfl) rfl rfl lA rfl ?_
           refine EL_p (.bool ((((k8.1).length : Int) != ((b7.1).length : Int)))) (P_pick (b := (c8.2 != (0 : Int))) rfl (pick_f lA rfl)) rfl ?_
           refine EL_mw (.bool ((((k8.1).length : Int) != ((b7.1).length : Int)))) rfl rfl ?_
           rcases csome h with ⟨u9, h⟩ | ⟨u9, h⟩
           ·refine EL_s rfl rfl u9 rfl rfl ?_
            iterate 5 refine EL_s rfl rfl u9 rfl rfl ?_
            refine EL_p (.bool true) (P_pick (b := (((k8.1).length : Int) != ((b7.1).length : Int))) rfl (pick_t u9 rfl)) rfl ?_
            refine EL_dead 8 rfl ?_
            refine EL_nil ?_
            obtain rfl := sinj h
            exact hQ _ _ ⟨eD, hfr, z9, o7, rfl, q8, rfl, mA, rfl⟩
           ·refine EL_y v7 (P_move rfl) rfl rfl u9 rfl ?_
            refine EL_y (.int .i64 ((c8.1).length : Int)) (P_len Try.underlying22 rfl mA) rfl rfl u9 rfl ?_
            refine EL_y u3 (P_move z9) rfl rfl u9 rfl ?_
            refine EL_y (.int .i64 ((b7.1).length : Int)) (P_len Try.underlying22 rfl o7) rfl rfl u9 rfl ?_
            refine EL_y (.int .i64 ((w64 (((b7.1).length : Int) + (1 : Int))))) (P_int rfl rfl rfl) rfl rfl u9 rfl ?_
            refine EL_y (.bool ((((c8.1).length : Int) != (w64 (((b7.1).length : Int) + (1 : Int)))))) (P_int rfl rfl rfl) rfl rfl u9 rfl ?_
            refine EL_p (.bool ((((c8.1).length : Int) != (w64 (((b7.1).length : Int) + (1 : Int)))))) (P_pick (b := (((k8.1).length : Int) != ((b7.1).length : Int))) rfl (pick_f u9 rfl)) rfl ?_
            refine EL_p (.bool ((((c8.1).length : Int) != (w64 (((b7.1).length : Int) + (1 : Int)))))) (P_move rfl) rfl ?_
            rcases csome h with ⟨y9, h⟩ | ⟨y9, h⟩
            ·refine EL_s rfl rfl y9 rfl rfl ?_
             iterate 5 refine EL_s rfl rfl y9 rfl rfl ?_
             refine EL_p (.bool true) (P_pick (b := (((c8.1).length : Int) != (w64 (((b7.1).length : Int) + (1 : Int))))) rfl (pick_t y9 rfl)) rfl ?_
             refine EL_nil ?_
             obtain rfl := sinj h
             exact hQ _ _ ⟨eD, hfr, z9, o7, rfl, q8, rfl, mA, rfl⟩
            ·refine EL_y v7 (P_move rfl) rfl rfl y9 rfl ?_
             refine EL_y u3 (P_move z9) rfl rfl y9 rfl ?_
             refine EL_y (.int .i64 ((b7.1).length : Int)) (P_len Try.underlying22 rfl o7) rfl rfl y9 rfl ?_
             obtain ⟨cF, aJ, h⟩ := bsome h
             refine EL_y (ePtr v7 ((b7.1).length : Int) 1) (P_indexAddr (α := Int) Try.underlying22 Try.sizeOf3 rfl mA rfl aJ) rfl rfl y9 rfl ?_
             have zX := PT_idx mA aJ
             refine EL_do (.yes2 rfl rfl y9) rfl (D_load (g := eD) Try.isAgg3 Try.sizeOf3 rfl zX fun a05 aY => ?_)
             obtain rfl := RV_int.1 aY
             refine EL_y (.bool ((cF != (0 : Int)))) (P_int rfl rfl rfl) rfl rfl y9 rfl ?_
             refine EL_p (.bool ((cF != (0 : Int)))) (P_pick (b := (((c8.1).length : Int) != (w64 (((b7.1).length : Int) + (1 : Int))))) rfl (pick_f y9 rfl)) rfl ?_
             refine EL_nil ?_
             obtain rfl := sinj h
             exact hQ _ _ ⟨eD, hfr, z9, o7, rfl, q8, rfl, mA, rfl⟩
        ·clear hx
         obtain ⟨bY, hfr, bN, cN, dN, eN, gN, iN, sF⟩ := hR
         rcases csome h with ⟨dG, h⟩ | ⟨dG, h⟩
         ·refine E_cond_true (Eq.trans (show ev _ _ = .bool (yA) from sF) (congrArg Value.bool dG)) ?_
          refine E_seq (E_region (EL_at (.bool false) rfl rfl ?_))
          refine EL_nil (thn_n (E_ret (thn_r ?_)))
          obtain rfl := sinj h
          exact end1 rfl rfl (show _ = .bool false from rfl) ⟨_, hfr, rfl⟩
         ·refine E_cond_false (Eq.trans (show ev _ _ = .bool (yA) from sF) (congrArg Value.bool dG)) ?_
          exact E_skip (thn_n (oT () _ _ ⟨bY, hfr, bN, cN, dN, eN, gN, iN⟩ h))
       ·rintro _ t01 b05 ⟨cY, hfr, jN, kN, lN, mN, nN, oN⟩ h
        refine E_joinC h (fun (s : Unit) e w => ∃ (g : Gh) , Fr gI wI g w) (fun X20548 uJ pT h => ?_) ?_
        ·refine E_seq (E_region (EL_at (.int .i64 (0)) rfl rfl ?_))
         refine EL_nil (thn_n (E_block ?_))
         refine E_lp h (fun (s : Int) e w => ∃ (g : Gh) , Fr gI wI g w ∧ e 11 = u3 ∧ RV g.m w (b7.1 : List Int) u3 ∧ e 21 = u7 ∧ RV g.m w (k8.1 : List Int) u7 ∧ e 23 = v7 ∧ RV g.m w (c8.1 : List Int) v7 ∧ e 25 = .int .i64 (s)) ⟨cY, hfr, jN, kN, lN, mN, nN, oN, rfl⟩ (fun X20549 vJ sT => ?_)
         rintro e7 u01 c05 ⟨pN, hfr, zG, aH, qN, rN, sN, tN, bH⟩ h
         refine E_joinC h (fun (s : Unit) e w => ∃ (g : Gh) , Fr gI wI g w ∧ e 11 = u3 ∧ RV g.m w (b7.1 : List Int) u3 ∧ e 21 = u7 ∧ RV g.m w (k8.1 : List Int) u7 ∧ e 23 = v7 ∧ RV g.m w (c8.1 : List Int) v7 ∧ e 25 = .int .i64 (e7)) (fun X20552 yJ tT h => ?_) ?_
         ·refine E_seq (E_region (EL_mv bH rfl ?_))
          refine EL_mv zG rfl ?_
          refine EL_p (.int .i64 ((b7.1).length : Int)) (P_len Try.underlying22 rfl aH) rfl ?_
          refine EL_in (.bool ((decide (e7 < ((b7.1).length : Int))))) rfl rfl rfl rfl ?_
          refine EL_nil (thn_n ?_)
          rcases csome h with ⟨eG, h⟩ | ⟨eG, h⟩
          ·refine E_ct eG rfl ?_
           exact E_skip (thn_n (tT () _ _ ⟨pN, hfr, zG, aH, qN, rN, sN, tN, bH⟩ h))
          ·refine E_cf eG rfl ?_
           refine E_exit ?_
           refine thn_e ?_
           refine thn_e ?_
           refine blk_hit ?_
           exact thn_n (pT () _ _ ⟨pN, hfr⟩ h)
         ·rintro _ v01 d05 ⟨uN, hfr, zB, i9, lC, l9, jE, bA, gA⟩ h
          refine E_joinC h (fun (s : Unit) e w => ∃ (g : Gh) , Fr gI wI g w ∧ e 11 = u3 ∧ RV g.m w (b7.1 : List Int) u3 ∧ e 21 = u7 ∧ RV g.m w (k8.1 : List Int) u7 ∧ e 23 = v7 ∧ RV g.m w (c8.1 : List Int) v7 ∧ e 25 = .int .i64 (e7)) (fun X20683 xJ uT h => ?_) ?_
          ·refine E_block ?_
           obtain ⟨xA, hx, h⟩ := bsome h
           refine E_join (fun e w => ∃ (g : Gh) , Fr gI wI g w ∧ e 11 = u3 ∧ RV g.m w (b7.1 : List Int) u3 ∧ e 21 = u7 ∧ RV g.m w (k8.1 : List Int) u7 ∧ e 23 = v7 ∧ RV g.m w (c8.1 : List Int) v7 ∧ e 25 = .int .i64 (e7) ∧ e 300 = .bool (xA)) (fun Q' hQ => ?_) (fun x01 e05 hR => ?_)
           ·replace h := hx
            clear hx
            obtain ⟨nA, gG, h⟩ := bsome h
            have dY := PT_idx l9 gG
            refine L_load (x := .tmp 283) Try.isAgg3 Try.sizeOf3 dY fun g05 eY bJ => ?_
            obtain rfl := RV_int.1 eY
            obtain ⟨oA, hG, h⟩ := bsome h
            have gY := PT_idx i9 hG
            refine L_load (x := .tmp 287) Try.isAgg3 Try.sizeOf3 gY fun h05 iY cJ => ?_
            obtain rfl := RV_int.1 iY
            rcases csome h with ⟨k9, h⟩ | ⟨k9, h⟩
            ·refine E_drawL (g := uN) (n := 20) [] [0, 1, 2, 3, 4, 5, 6, 7, 8, 9, 10, 11, 12, 13, 14, 15, 16, 17, 18, 19] rfl mixed (by kernel_rfl) trivial ?_
             refine L_p u7 rfl rfl (P_move lC) ?_
             refine L_p (.int .i64 (e7)) rfl rfl (P_move gA) ?_
             refine L_p (ePtr u7 e7 1) rfl rfl (P_indexAddr (α := Int) Try.underlying22 Try.sizeOf3 rfl l9 rfl gG) ?_
             refine L_ld (c := .int .i64 (nA)) rfl rfl .plain (fun _ _ h => h.ch) bJ rfl ?_
             refine L_p u3 rfl rfl (P_move zB) ?_
             refine L_p (.int .i64 (e7)) rfl rfl (P_move gA) ?_
             refine L_p (ePtr u3 e7 1) rfl rfl (P_indexAddr (α := Int) Try.underlying22 Try.sizeOf3 rfl i9 rfl hG) ?_
             refine L_ld (c := .int .i64 (oA)) rfl rfl .plain (fun _ _ h => h.ch) cJ rfl ?_
             refine L_p (.bool ((nA != oA))) rfl rfl (P_int rfl rfl rfl) ?_
             refine L_p (.bool ((nA != oA))) rfl rfl (P_move rfl) ?_
             iterate 9 refine L_s rfl rfl rfl k9 rfl ?_
             refine L_p (.bool true) rfl rfl (P_pick (b := (nA != oA)) rfl (pick_t k9 rfl)) ?_
             refine L_nl fun jY i05 hs => ?_
             have hfr := hfr.ext hs
             have i9 := i9.ext hs
             have l9 := l9.ext hs
             have bA := bA.ext hs
             clear hs
             refine EL_nil ?_
             obtain rfl := sinj h
             exact hQ _ _ ⟨jY, hfr, zB, i9, lC, l9, jE, bA, gA, rfl⟩
            ·obtain ⟨sD, dJ, h⟩ := bsome h
             have kY := PT_idx bA dJ
             refine L_load (x := .tmp 293) Try.isAgg3 Try.sizeOf3 kY fun j05 mY vT => ?_
             obtain rfl := RV_int.1 mY
             obtain ⟨tD, eJ, h⟩ := bsome h
             have nY := PT_idx i9 eJ
             refine L_load (x := .tmp 297) Try.isAgg3 Try.sizeOf3 nY fun k05 oY xT => ?_
             obtain rfl := RV_int.1 oY
             refine E_drawL (g := uN) (n := 20) [] [0, 1, 2, 3, 4, 5, 6, 7, 8, 9, 10, 11, 12, 13, 14, 15, 16, 17, 18, 19] rfl mixed (by kernel_rfl) trivial ?_
             refine L_p u7 rfl rfl (P_move lC) ?_
             refine L_p (.int .i64 (e7)) rfl rfl (P_move gA) ?_
             refine L_p (ePtr u7 e7 1) rfl rfl (P_indexAddr (α := Int) Try.underlying22 Try.sizeOf3 rfl l9 rfl gG) ?_
             refine L_ld (c := .int .i64 (nA)) rfl rfl .plain (fun _ _ h => h.ch) bJ rfl ?_
             refine L_p u3 rfl rfl (P_move zB) ?_
             refine L_p (.int .i64 (e7)) rfl rfl (P_move gA) ?_
             refine L_p (ePtr u3 e7 1) rfl rfl (P_indexAddr (α := Int) Try.underlying22 Try.sizeOf3 rfl i9 rfl hG) ?_
             refine L_ld (c := .int .i64 (oA)) rfl rfl .plain (fun _ _ h => h.ch) cJ rfl ?_
             refine L_p (.bool ((nA != oA))) rfl rfl (P_int rfl rfl rfl) ?_
             refine L_p (.bool ((nA != oA))) rfl rfl (P_move rfl) ?_
             refine L_y v7 rfl rfl rfl rfl k9 (P_move jE) ?_
             refine L_y (.int .i64 (e7)) rfl rfl rfl rfl k9 (P_move gA) ?_
             refine L_y (ePtr v7 e7 1) rfl rfl rfl rfl k9 (P_indexAddr (α := Int) Try.underlying22 Try.sizeOf3 rfl bA rfl dJ) ?_
             refine L_ld (c := .int .i64 (sD)) rfl rfl (.yes2 rfl rfl k9) (fun _ _ h => h.ch) vT rfl ?_
             refine L_y u3 rfl rfl rfl rfl k9 (P_move zB) ?_
             refine L_y (.int .i64 (e7)) rfl rfl rfl rfl k9 (P_move gA) ?_
             refine L_y (ePtr u3 e7 1) rfl rfl rfl rfl k9 (P_indexAddr (α := Int) Try.underlying22 Try.sizeOf3 rfl i9 rfl eJ) ?_
             refine L_ld (c := .int .i64 (tD)) rfl rfl (.yes2 rfl rfl k9) (fun _ _ h => h.ch) xT rfl ?_
             refine L_y (.bool ((sD != tD))) rfl rfl rfl rfl k9 (P_int rfl rfl rfl) ?_
             refine L_p (.bool ((sD != tD))) rfl rfl (P_pick (b := (nA != oA)) rfl (pick_f k9 rfl)) ?_
             refine L_nl fun pY l05 hs => ?_
             have hfr := hfr.ext hs
             have i9 := i9.ext hs
             have l9 := l9.ext hs
             have bA := bA.ext hs
             clear hs
             refine EL_nil ?_
             obtain rfl := sinj h
             exact hQ _ _ ⟨pY, hfr, zB, i9, lC, l9, jE, bA, gA, rfl⟩
           ·clear hx
            obtain ⟨qY, hfr, vN, xN, yN, zN, aO, bO, cO, tF⟩ := hR
            rcases csome h with ⟨iG, h⟩ | ⟨iG, h⟩
            ·refine E_cond_true (Eq.trans (show ev _ _ = .bool (xA) from tF) (congrArg Value.bool iG)) ?_
             refine E_seq (E_region (EL_at (.bool false) rfl rfl ?_))
             refine EL_nil (thn_n (E_ret (blk_r ?_)))
             refine thn_r ?_
             refine thn_r ?_
             refine blk_r ?_
             refine thn_r ?_
             obtain rfl := sinj h
             exact end1 rfl rfl (show _ = .bool false from rfl) ⟨_, hfr, rfl⟩
            ·refine E_cond_false (Eq.trans (show ev _ _ = .bool (xA) from tF) (congrArg Value.bool iG)) ?_
             exact E_skip (blk_n (thn_n (uT () _ _ ⟨qY, hfr, vN, xN, yN, zN, aO, bO, cO⟩ h)))
          ·rintro _ y01 m05 ⟨uY, hfr, dO, eO, gO, jO, kO, lO, mO⟩ h
           refine E_region (EL_mv mO rfl ?_)
           refine EL_in (.int .i64 ((w64 (e7 + (1 : Int))))) rfl rfl rfl rfl ?_
           refine EL_at (.int .i64 ((w64 (e7 + (1 : Int))))) rfl rfl ?_
           exact EL_nil (thn_n (sT ((w64 (e7 + (1 : Int)))) _ _ ⟨uY, hfr, dO, eO, gO, jO, kO, lO, rfl⟩ h))
        ·rintro _ z01 n05 ⟨vY, hfr⟩ h
         refine E_seq (E_region ?_)
         obtain ⟨zE, yT, h⟩ := bsome h
         refine EL_do .plain rfl (D_call (g := vY) (vs := []) en5 .nil (wk5  yT) fun o05 a02 p05 hs hr => ?_)
         have hfr := hfr.ext hs
         subst hr
         refine EL_at (.bool (zE)) rfl rfl ?_
         refine EL_nil (thn_n (E_ret ?_))
         obtain rfl := sinj h
         exact end1 rfl rfl (show _ = .bool (zE) from rfl) ⟨_, hfr, rfl⟩
end Go.Proofs.Ytkmbkaoolacofaa
