import Derived.Test.YtnfjhdagbknlbaaCode5
set_option maxRecDepth 8000
set_option maxHeartbeats 4000000
namespace Go.Proofs.Ytnfjhdagbknlbaa
open Go.RowKit
def f7 (x0 : Hall) : Option (Bool) :=
 (f39 x0).bind fun y4 =>
 (f15 (y4.1)).bind fun y9 =>
 (f16 (y4.2.1)).bind fun y11 =>
 (f32 (y4.2.2)).bind fun cV =>
 (f40 y9 y11 cV).bind fun x8 =>
 (f15 (y4.1)).bind fun dV =>
 (f16 (y4.2.1)).bind fun eV =>
 (f17 dV eV).bind fun g7 =>
 jn (σ := Unit) (fun (_ : Unit) =>
  jn (σ := Unit) (fun (_ : Unit) =>
   (f15 (y4.1)).bind fun uL =>
   (f16 (y4.2.1)).bind fun vL =>
   (f23 uL vL).bind fun r9 =>
   (f15 (y4.1)).bind fun xL =>
   (f16 (y4.2.1)).bind fun yL =>
   (f24 xL yL).bind fun j7 =>
   (f15 (y4.1)).bind fun zL =>
   (f16 (y4.2.1)).bind fun aM =>
   (f30 zL aM).bind fun i8 =>
   (f15 (y4.1)).bind fun bM =>
   (f16 (y4.2.1)).bind fun cM =>
   (f25 bM cM).bind fun m4 =>
   jn (σ := Unit) (fun (_ : Unit) =>
    jn (σ := Unit) (fun (_ : Unit) =>
     (f14).bind fun bC =>
     some (bC)
     ) fun dM =>
    lp (σ := Int) (fun eM d3 =>
     jn (σ := Unit) (fun (_ : Unit) =>
      jn (σ := Unit) (fun (_ : Unit) =>
       eM ((w64 (d3 + (1 : Int))))
       ) fun eE =>
      Option.bind (α := LoomMill) (
       lp (σ := LoomMill × Int) (fun uG (m8, u5) =>
        jn (σ := Unit) (fun (_ : Unit) =>
         Option.bind (α := LoomMill) (
          (shr64 d3 (wu64 u5)).bind fun eB =>
          bif ((bit64 .and eB (1 : Int)) == (1 : Int)) then
           (idx ((y4.1).Widths) u5).bind fun q7 =>
           (apnd 8 ((m8).Widths) (([q7] : List Int))).bind fun gE =>
           some ({ m8 with Widths := gE })
          else
           some (m8)
          ) fun z9 =>
         uG (z9, (w64 (u5 + (1 : Int))))
         ) fun vG =>
        bif (decide (u5 < (((y4.1).Widths).length : Int))) then
         vG ()
        else
         some (m8)
        ) big ((⟨[], (y4.1).Change⟩ : LoomMill), (0 : Int))
       ) fun z3 =>
      jn (σ := Int) (fun x5 =>
       jn (σ := Unit) (fun (_ : Unit) =>
        (f16 (y4.2.1)).bind fun sA =>
        (f17 z3 sA).bind fun z4 =>
        Option.bind (α := Bool) (
         bif (decide ((((z3).Widths).length : Int) < ((m4.1).length : Int))) then
          bif (z4.2 != (9 : Int)) then
           some (true)
          else
           bif (d3 == x5) then
            some ((z4.2 != (0 : Int)))
           else
            some (false)
         else
          bif (d3 == x5) then
           some ((z4.2 != (0 : Int)))
          else
           some (false)
         ) fun d9 =>
        bif d9 then
         some (false)
        else
         eE ()
        ) fun xG =>
       bif ((((z3).Widths).length : Int) == (0 : Int)) then
        eE ()
       else
        xG ()
       ) fun yG =>
      lp (σ := Int × Int) (fun zG (e7, u0) =>
       jn (σ := Unit) (fun (_ : Unit) =>
        jn (σ := Int) (fun iB =>
         zG (iB, (w64 (u0 + (1 : Int))))
         ) fun aH =>
        jn (σ := Unit) (fun (_ : Unit) =>
         (idx (m4.1) u0).bind fun iE =>
         (shl64 (1 : Int) (wu64 iE)).bind fun tA =>
         aH ((bit64 .or e7 tA))
         ) fun bH =>
        Option.bind (α := Bool) (
         (idx (m4.1) u0).bind fun x6 =>
         bif (decide (x6 < (0 : Int))) then
          some (true)
         else
          (idx (m4.1) u0).bind fun z6 =>
          bif (decide (z6 ≥ (((y4.1).Widths).length : Int))) then
           some (true)
          else
           bif (decide (u0 > (0 : Int))) then
            (idx (m4.1) u0).bind fun uA =>
            (idx (m4.1) (w64 (u0 - (1 : Int)))).bind fun vA =>
            some ((decide (uA ≤ vA)))
           else
            some (false)
         ) fun e9 =>
        bif e9 then
         some (false)
        else
         bH ()
        ) fun cH =>
       bif (decide (u0 < ((m4.1).length : Int))) then
        cH ()
       else
        yG (e7)
       ) big ((0 : Int), (0 : Int))
      ) fun gM =>
     (shl64 (1 : Int) (wu64 (((y4.1).Widths).length : Int))).bind fun aE =>
     bif (decide (d3 < aE)) then
      gM ()
     else
      dM ()
     ) big ((0 : Int))
    ) fun iM =>
   Option.bind (α := Bool) (
    bif (r9.2 != (7 : Int)) then
     some (true)
    else
     bif (j7.2 != (0 : Int)) then
      some (true)
     else
      bif (((j7.1).length : Int) != (0 : Int)) then
       some (true)
      else
       bif (i8.2.2 != (7 : Int)) then
        some (true)
       else
        bif (m4.2 != (0 : Int)) then
         some (true)
        else
         some ((decide (((m4.1).length : Int) > (((y4.1).Widths).length : Int))))
    ) fun bA =>
   bif bA then
    some (false)
   else
    iM ()
   ) fun jG =>
  lp (σ := Int) (fun jM o0 =>
   jn (σ := Unit) (fun (_ : Unit) =>
    jn (σ := Unit) (fun (_ : Unit) =>
     jM ((w64 (o0 + (1 : Int))))
     ) fun kM =>
    (idx (g7.1) o0).bind fun kG =>
    (idx (y4.2.2) o0).bind fun lG =>
    bif (!(decide (kG = lG))) then
     jn (σ := Unit) (fun (_ : Unit) =>
      jG ()
      ) fun mM =>
     Option.bind (α := Bool) (
      (idx (g7.1) o0).bind fun k8 =>
      (idx (y4.2.2) o0).bind fun l8 =>
      bif (decide ((k8).From > (l8).From)) then
       some (true)
      else
       (idx (g7.1) o0).bind fun t9 =>
       (idx (y4.2.2) o0).bind fun u9 =>
       bif ((t9).From == (u9).From) then
        (idx (g7.1) o0).bind fun pB =>
        (idx (y4.2.2) o0).bind fun qB =>
        some ((decide ((pB).Loom > (qB).Loom)))
       else
        some (false)
      ) fun cA =>
     bif cA then
      some (false)
     else
      mM ()
    else
     kM ()
    ) fun nM =>
   bif (decide (o0 < ((g7.1).length : Int))) then
    nM ()
   else
    jG ()
   ) big ((0 : Int))
  ) fun gV =>
 Option.bind (α := Bool) (
  bif (x8.2 != (0 : Int)) then
   some (true)
  else
   bif (x8.1 != (0 : Int)) then
    some (true)
   else
    bif (g7.2 != (0 : Int)) then
     some (true)
    else
     bif (((g7.1).length : Int) != ((y4.2.1).length : Int)) then
      some (true)
     else
      (f41 (y4.1) (y4.2.1) (g7.1)).bind fun oM =>
      some ((!oM))
  ) fun jB =>
 bif jB then
  some (false)
 else
  gV ()
theorem wk7 {gI : Gh} {wI : World} {x0 : Hall} {up0 : Value} (rp0 : RV gI.m wI x0 up0) {r : Bool} (h : f7 x0 = some r) : Fn Try.prog 7 #[up0] gI wI (fun _ _ v => v = .bool (r)) := by
 unfold f7 at h
 refine fn_of_E Try.func7 rfl (Nat.le_of_ble_eq_true rfl) fun g0 hm hfr => ?_
 have rp0 : RV g0.m wI x0 up0 := hm ▸ rp0
 show E _ 298 none _ _ _ _ _
 refine E_seq (E_region (EL_do .plain rfl (D_box (g := g0) rfl rp0 fun g1 w1 p1 hs q1 => ?_)))
 have hfr := hfr.ext hs
 refine EL_at (.bool false) rfl rfl ?_
 refine EL_nil (thn_n (E_seq (E_region (EL_do .plain rfl (D_load (g := g1) Try.isAgg71 Try.sizeOf71 rfl q1 fun v2 r2 => ?_)))))
 obtain ⟨y4, sW, h⟩ := bsome h
 refine EL_do .plain rfl (D_call (g := g1) (vs := [v2]) en39 (.cons rfl .nil) (wk39 r2 sW) fun g3 w3_ v3 hs hr => ?_)
 have hfr := hfr.ext hs
 obtain ⟨sJ, j3, o5, rfl, tJ, j6, a7⟩ := hr
 refine EL_mw (.tuple #[sJ, j3, o5]) rfl rfl ?_
 refine EL_pur (v := sJ) (P_extract rfl rfl) .plain rfl ?_
 refine EL_pur (v := j3) (P_extract rfl rfl) .plain rfl ?_
 refine EL_pur (v := o5) (P_extract rfl rfl) .plain rfl ?_
 refine EL_do .plain rfl (D_allocOc (g := g3) 2003 (⟨[], 0⟩ : LoomMill) Try.zeroValue24 (fun m w => ⟨_, (rep_two rep_nil rep_int), rfl⟩) fun g5 w5 p5 hs b5 cb => ?_)
 have hfr := hfr.stp hs
 have tJ := tJ.stp hs
 have j6 := j6.stp hs
 have a7 := a7.stp hs
 have m01 : OSF 2003 60300 0 g5 w5 3 24 ([] : List Int) p5 := cb.osf (by rfl)
 clear cb
 refine EL_do .plain rfl (D_storeOc (g := g5) (v := sJ) Try.sizeOf24 rfl b5 rfl tJ fun g6 w6 hs b6 cb => ?_)
 clear cb
 have hfr := hfr.stp hs
 have j6 := j6.stp hs
 have a7 := a7.stp hs
 refine EL_at j3 rfl rfl ?_
 refine EL_at o5 rfl rfl ?_
 refine EL_nil (thn_n (E_seq (E_region (EL_do .plain rfl (D_loadO (g := g6) Try.isAgg24 Try.sizeOf24 rfl b6 fun v7 r7 => ?_)))))
 obtain ⟨y9, tW, h⟩ := bsome h
 refine EL_do .plain rfl (D_call (g := g6) (vs := [v7]) en15 (.cons rfl .nil) (wk15 r7 tW) fun g8 w8_ v8 hs hr => ?_)
 have hfr := hfr.ext hs
 have j6 := j6.ext hs
 have a7 := a7.ext hs
 have b6 := b6.ext hs
 have r8 := hr
 refine EL_mw j3 rfl rfl ?_
 obtain ⟨y11, kV, h⟩ := bsome h
 refine EL_do .plain rfl (D_call (g := g8) (vs := [j3]) en16 (.cons rfl .nil) (wk16 j6 kV) fun uW n01 vW hs hr => ?_)
 have hfr := hfr.ext hs
 have j6 := j6.ext hs
 have a7 := a7.ext hs
 have b6 := b6.ext hs
 have r8 := r8.ext hs
 have zO := hr
 refine EL_mw o5 rfl rfl ?_
 obtain ⟨cV, lV, h⟩ := bsome h
 refine EL_do .plain rfl (D_call (g := uW) (vs := [o5]) en32 (.cons rfl .nil) (wk32 a7 lV) fun xW o01 yW hs hr => ?_)
 have hfr := hfr.ext hs
 have j6 := j6.ext hs
 have a7 := a7.ext hs
 have b6 := b6.ext hs
 have r8 := r8.ext hs
 have zO := zO.ext hs
 have zW := hr
 obtain ⟨x8, mV, h⟩ := bsome h
 refine EL_do .plain rfl (D_call (g := xW) (vs := [v8, vW, yW]) en40 (.cons rfl (.cons rfl (.cons rfl .nil))) (wk40 r8 zO zW mV) fun iV p01 v14 hs hr => ?_)
 have hfr := hfr.ext hs
 have j6 := j6.ext hs
 have a7 := a7.ext hs
 have b6 := b6.ext hs
 obtain ⟨e00, g00, rfl, rfl, rfl⟩ := hr
 refine EL_mw (.tuple #[.int .i64 (x8.1), .int .i64 (x8.2)]) rfl rfl ?_
 refine EL_pur (v := .int .i64 (x8.1)) (P_extract rfl rfl) .plain rfl ?_
 refine EL_pur (v := .int .i64 (x8.2)) (P_extract rfl rfl) .plain rfl ?_
 refine EL_at (.int .i64 (x8.1)) rfl rfl ?_
 refine EL_at (.int .i64 (x8.2)) rfl rfl ?_
 refine EL_nil (thn_n (E_seq (E_region (EL_do .plain rfl (D_loadO (g := iV) Try.isAgg24 Try.sizeOf24 rfl b6 fun aX bX => ?_)))))
 obtain ⟨dV, nV, h⟩ := bsome h
 refine EL_do .plain rfl (D_call (g := iV) (vs := [aX]) en15 (.cons rfl .nil) (wk15 bX nV) fun cX q01 dX hs hr => ?_)
 have hfr := hfr.ext hs
 have j6 := j6.ext hs
 have a7 := a7.ext hs
 have b6 := b6.ext hs
 have aP := hr
 refine EL_mw j3 rfl rfl ?_
 obtain ⟨eV, oV, h⟩ := bsome h
 refine EL_do .plain rfl (D_call (g := cX) (vs := [j3]) en16 (.cons rfl .nil) (wk16 j6 oV) fun eX r01 gX hs hr => ?_)
 have hfr := hfr.ext hs
 have j6 := j6.ext hs
 have a7 := a7.ext hs
 have b6 := b6.ext hs
 have aP := aP.ext hs
 have iX := hr
 obtain ⟨g7, pV, h⟩ := bsome h
 refine EL_do .plain rfl (D_call (g := eX) (vs := [dX, gX]) en17 (.cons rfl (.cons rfl .nil)) (wk17 aP iX pV) fun sF s01 v21 hs hr => ?_)
 have hfr := hfr.ext hs
 have j6 := j6.ext hs
 have a7 := a7.ext hs
 have b6 := b6.ext hs
 obtain ⟨d5, h00, rfl, eA, rfl⟩ := hr
 refine EL_mw (.tuple #[d5, .int .i64 (g7.2)]) rfl rfl ?_
 refine EL_pur (v := d5) (P_extract rfl rfl) .plain rfl ?_
 refine EL_pur (v := .int .i64 (g7.2)) (P_extract rfl rfl) .plain rfl ?_
 refine EL_at d5 rfl rfl ?_
 refine EL_at (.int .i64 (g7.2)) rfl rfl ?_
 refine EL_nil (thn_n (E_joinC h (fun (s : Unit) e w => ∃ (g : Gh) , Fr gI wI g w ∧ e 3 = p5 ∧ OB 2003 g w 24 (y4.1 : LoomMill) p5 ∧ e 4 = j3 ∧ RV g.m w (y4.2.1 : List LoomOrder) j3 ∧ e 5 = o5 ∧ RV g.m w (y4.2.2 : List LoomRun) o5 ∧ e 8 = d5 ∧ RV g.m w (g7.1 : List LoomRun) d5) (fun X39 gV qV h => ?_) ?_))
 ·obtain ⟨jB, hx, h⟩ := bsome h
  refine E_join (fun e w => ∃ (g : Gh) , Fr gI wI g w ∧ e 3 = p5 ∧ OB 2003 g w 24 (y4.1 : LoomMill) p5 ∧ e 4 = j3 ∧ RV g.m w (y4.2.1 : List LoomOrder) j3 ∧ e 5 = o5 ∧ RV g.m w (y4.2.2 : List LoomRun) o5 ∧ e 8 = d5 ∧ RV g.m w (g7.1 : List LoomRun) d5 ∧ e 74 = .bool (jB)) (fun Q' hQ => ?_) (fun t01 w54 hR => ?_)
  ·replace h := hx
   clear hx
   refine E_region (EL_mw (.int .i64 (x8.2)) rfl rfl ?_)
   refine EL_in (.bool ((x8.2 != (0 : Int)))) rfl rfl rfl rfl ?_
   refine EL_mw (.bool ((x8.2 != (0 : Int)))) rfl rfl ?_
   rcases csome h with ⟨xB, h⟩ | ⟨xB, h⟩
   ·refine EL_skip (.no2 rfl rfl xB rfl) rfl ?_
    refine EL_skip (.no2 rfl rfl xB rfl) rfl ?_
    refine EL_pur (v := .bool true) (P_pick (b := (x8.2 != (0 : Int))) rfl (pick_t xB rfl)) .plain rfl ?_
    refine EL_dead 18 rfl ?_
    refine EL_nil ?_
    obtain rfl := sinj h
    exact hQ _ _ ⟨sF, hfr, rfl, b6, rfl, j6, rfl, a7, rfl, eA, rfl⟩
   ·refine EL_pur (v := .int .i64 (x8.1)) (P_move rfl) (.yes2 rfl rfl xB) rfl ?_
    refine EL_pur (v := .bool ((x8.1 != (0 : Int)))) (P_int rfl rfl rfl) (.yes2 rfl rfl xB) rfl ?_
    refine EL_pur (v := .bool ((x8.1 != (0 : Int)))) (P_pick (b := (x8.2 != (0 : Int))) rfl (pick_f xB rfl)) .plain rfl ?_
    refine EL_mw (.bool ((x8.1 != (0 : Int)))) rfl rfl ?_
    rcases csome h with ⟨yB, h⟩ | ⟨yB, h⟩
    ·refine EL_skip (.no2 rfl rfl yB rfl) rfl ?_
     refine EL_skip (.no2 rfl rfl yB rfl) rfl ?_
     refine EL_pur (v := .bool true) (P_pick (b := (x8.1 != (0 : Int))) rfl (pick_t yB rfl)) .plain rfl ?_
     refine EL_dead 14 rfl ?_
     refine EL_nil ?_
     obtain rfl := sinj h
     exact hQ _ _ ⟨sF, hfr, rfl, b6, rfl, j6, rfl, a7, rfl, eA, rfl⟩
    ·refine EL_pur (v := .int .i64 (g7.2)) (P_move rfl) (.yes2 rfl rfl yB) rfl ?_
     refine EL_pur (v := .bool ((g7.2 != (0 : Int)))) (P_int rfl rfl rfl) (.yes2 rfl rfl yB) rfl ?_
     refine EL_pur (v := .bool ((g7.2 != (0 : Int)))) (P_pick (b := (x8.1 != (0 : Int))) rfl (pick_f yB rfl)) .plain rfl ?_
     refine EL_mw (.bool ((g7.2 != (0 : Int)))) rfl rfl ?_
     rcases csome h with ⟨i9, h⟩ | ⟨i9, h⟩
     ·refine EL_skip (.no2 rfl rfl i9 rfl) rfl ?_
      refine EL_skip (.no2 rfl rfl i9 rfl) rfl ?_
      refine EL_skip (.no2 rfl rfl i9 rfl) rfl ?_
      refine EL_skip (.no2 rfl rfl i9 rfl) rfl ?_
      refine EL_skip (.no2 rfl rfl i9 rfl) rfl ?_
      refine EL_pur (v := .bool true) (P_pick (b := (g7.2 != (0 : Int))) rfl (pick_t i9 rfl)) .plain rfl ?_
      refine EL_dead 7 rfl ?_
      refine EL_nil ?_
      obtain rfl := sinj h
      exact hQ _ _ ⟨sF, hfr, rfl, b6, rfl, j6, rfl, a7, rfl, eA, rfl⟩
     ·refine EL_pur (v := d5) (P_move rfl) (.yes2 rfl rfl i9) rfl ?_
      refine EL_pur (v := .int .i64 ((g7.1).length : Int)) (P_len Try.underlying31 rfl eA) (.yes2 rfl rfl i9) rfl ?_
      refine EL_pur (v := j3) (P_move rfl) (.yes2 rfl rfl i9) rfl ?_
      refine EL_pur (v := .int .i64 ((y4.2.1).length : Int)) (P_len Try.underlying25 rfl j6) (.yes2 rfl rfl i9) rfl ?_
      refine EL_pur (v := .bool ((((g7.1).length : Int) != ((y4.2.1).length : Int)))) (P_int rfl rfl rfl) (.yes2 rfl rfl i9) rfl ?_
      refine EL_pur (v := .bool ((((g7.1).length : Int) != ((y4.2.1).length : Int)))) (P_pick (b := (g7.2 != (0 : Int))) rfl (pick_f i9 rfl)) .plain rfl ?_
      refine EL_mw (.bool ((((g7.1).length : Int) != ((y4.2.1).length : Int)))) rfl rfl ?_
      rcases csome h with ⟨j9, h⟩ | ⟨j9, h⟩
      ·refine EL_skip (.no2 rfl rfl j9 rfl) rfl ?_
       refine EL_skip (.no2 rfl rfl j9 rfl) rfl ?_
       refine EL_skip (.no2 rfl rfl j9 rfl) rfl ?_
       refine EL_skip (.no2 rfl rfl j9 rfl) rfl ?_
       refine EL_skip (.no2 rfl rfl j9 rfl) rfl ?_
       refine EL_pur (v := .bool true) (P_pick (b := (((g7.1).length : Int) != ((y4.2.1).length : Int))) rfl (pick_t j9 rfl)) .plain rfl ?_
       refine EL_nil ?_
       obtain rfl := sinj h
       exact hQ _ _ ⟨sF, hfr, rfl, b6, rfl, j6, rfl, a7, rfl, eA, rfl⟩
      ·refine EL_do (.yes2 rfl rfl j9) rfl (D_loadO (g := sF) Try.isAgg24 Try.sizeOf24 rfl b6 fun jX kX => ?_)
       refine EL_pur (v := j3) (P_move rfl) (.yes2 rfl rfl j9) rfl ?_
       refine EL_pur (v := d5) (P_move rfl) (.yes2 rfl rfl j9) rfl ?_
       obtain ⟨oM, rV, h⟩ := bsome h
       refine EL_do (.yes2 rfl rfl j9) rfl (D_call (g := sF) (vs := [jX, j3, d5]) en41 (.cons rfl (.cons rfl (.cons rfl .nil))) (wk41 kX j6 eA rV) fun lX u01 v52 hs hr => ?_)
       have hfr := hfr.ext hs
       have j6 := j6.ext hs
       have a7 := a7.ext hs
       have b6 := b6.ext hs
       have eA := eA.ext hs
       subst hr
       refine EL_pur (v := .bool (!oM)) (P_not rfl) (.yes2 rfl rfl j9) rfl ?_
       refine EL_pur (v := .bool (!oM)) (P_pick (b := (((g7.1).length : Int) != ((y4.2.1).length : Int))) rfl (pick_f j9 rfl)) .plain rfl ?_
       refine EL_nil ?_
       obtain rfl := sinj h
       exact hQ _ _ ⟨lX, hfr, rfl, b6, rfl, j6, rfl, a7, rfl, eA, rfl⟩
  ·clear hx
   obtain ⟨mX, hfr, uR, vR, xR, yR, zR, aS, bS, cS, dH⟩ := hR
   rcases csome h with ⟨uJ, h⟩ | ⟨uJ, h⟩
   ·refine E_cond_true (Eq.trans (show ev _ _ = .bool (jB) from dH) (congrArg Value.bool uJ)) ?_
    refine E_seq (E_region (EL_at (.bool false) rfl rfl ?_))
    refine EL_nil (thn_n (E_ret (thn_r ?_)))
    obtain rfl := sinj h
    exact end1 rfl rfl (show _ = .bool false from rfl) ⟨_, hfr, rfl⟩
   ·refine E_cond_false (Eq.trans (show ev _ _ = .bool (jB) from dH) (congrArg Value.bool uJ)) ?_
    exact E_skip (thn_n (qV () _ _ ⟨mX, hfr, uR, vR, xR, yR, zR, aS, bS, cS⟩ h))
 ·rintro _ v01 w56 ⟨nX, hfr, dS, eS, gS, iS, jS, kS, lS, mS⟩ h
  refine E_joinC h (fun (s : Unit) e w => ∃ (g : Gh) , Fr gI wI g w ∧ e 3 = p5 ∧ OB 2003 g w 24 (y4.1 : LoomMill) p5 ∧ e 4 = j3 ∧ RV g.m w (y4.2.1 : List LoomOrder) j3) (fun X1577 jG gH h => ?_) ?_
  ·refine E_seq (E_region (EL_at (.int .i64 (0)) rfl rfl ?_))
   refine EL_nil (thn_n (E_block ?_))
   refine E_lp h (fun (s : Int) e w => ∃ (g : Gh) , Fr gI wI g w ∧ e 3 = p5 ∧ OB 2003 g w 24 (y4.1 : LoomMill) p5 ∧ e 4 = j3 ∧ RV g.m w (y4.2.1 : List LoomOrder) j3 ∧ e 5 = o5 ∧ RV g.m w (y4.2.2 : List LoomRun) o5 ∧ e 8 = d5 ∧ RV g.m w (g7.1 : List LoomRun) d5 ∧ e 10 = .int .i64 (s)) ⟨nX, hfr, dS, eS, gS, iS, jS, kS, lS, mS, rfl⟩ (fun X1578 jM bP => ?_)
   rintro o0 oX i00 ⟨pM, hfr, tF, uF, vF, xF, xM, yM, yF, zF, jE⟩ h
   refine E_joinC h (fun (s : Unit) e w => ∃ (g : Gh) , Fr gI wI g w ∧ e 3 = p5 ∧ OB 2003 g w 24 (y4.1 : LoomMill) p5 ∧ e 4 = j3 ∧ RV g.m w (y4.2.1 : List LoomOrder) j3 ∧ e 5 = o5 ∧ RV g.m w (y4.2.2 : List LoomRun) o5 ∧ e 8 = d5 ∧ RV g.m w (g7.1 : List LoomRun) d5 ∧ e 10 = .int .i64 (o0)) (fun X1581 nM cP h => ?_) ?_
   ·refine E_seq (E_region (EL_mv jE rfl ?_))
    refine EL_mv yF rfl ?_
    refine EL_pur (v := .int .i64 ((g7.1).length : Int)) (P_len Try.underlying31 rfl zF) .plain rfl ?_
    refine EL_in (.bool ((decide (o0 < ((g7.1).length : Int))))) rfl rfl rfl rfl ?_
    refine EL_nil (thn_n ?_)
    rcases csome h with ⟨kE, h⟩ | ⟨kE, h⟩
    ·refine E_ct kE rfl ?_
     exact E_skip (thn_n (cP () _ _ ⟨pM, hfr, tF, uF, vF, xF, xM, yM, yF, zF, jE⟩ h))
    ·refine E_cf kE rfl ?_
     refine E_exit ?_
     refine thn_e ?_
     refine thn_e ?_
     refine blk_hit ?_
     exact thn_n (gH () _ _ ⟨pM, hfr, tF, uF, vF, xF⟩ h)
   ·rintro _ pX j00 ⟨nS, hfr, rB, m7, sB, n7, y8, b7, z8, c7, c6⟩ h
    refine E_joinC h (fun (s : Unit) e w => ∃ (g : Gh) , Fr gI wI g w ∧ e 3 = p5 ∧ OB 2003 g w 24 (y4.1 : LoomMill) p5 ∧ e 4 = j3 ∧ RV g.m w (y4.2.1 : List LoomOrder) j3 ∧ e 5 = o5 ∧ RV g.m w (y4.2.2 : List LoomRun) o5 ∧ e 8 = d5 ∧ RV g.m w (g7.1 : List LoomRun) d5 ∧ e 10 = .int .i64 (o0)) (fun X2340 kM dP h => ?_) ?_
    ·refine E_block ?_
     refine E_seq ?_
     obtain ⟨kG, iH, h⟩ := bsome h
     have oS := PT_idx c7 iH
     refine L_load (x := .tmp 83) Try.isAgg76 Try.sizeOf76 oS fun pS qS eP => ?_
     obtain ⟨lG, jH, h⟩ := bsome h
     have rS := PT_idx b7 jH
     refine L_load (x := .tmp 87) Try.isAgg76 Try.sizeOf76 rS fun sS tS gP => ?_
     refine E_drawL (g := nS) (n := 9) [] [0, 1, 2, 3, 4, 5, 6, 7, 8] rfl mixed (by kernel_rfl) trivial ?_
     refine L_pur (c := d5) rfl rfl .plain (fun _ _ hd => P_move z8) ?_
     refine L_pur (c := .int .i64 (o0)) rfl rfl .plain (fun _ _ hd => P_move c6) ?_
     refine L_pur (c := ePtr d5 o0 3) rfl rfl .plain (fun _ _ hd => P_indexAddr (α := LoomRun) Try.underlying31 Try.sizeOf76 rfl c7 rfl iH) ?_
     refine L_ld (c := pS) rfl rfl .plain (fun _ _ h => h.ch) eP rfl ?_
     refine L_pur (c := o5) rfl rfl .plain (fun _ _ hd => P_move y8) ?_
     refine L_pur (c := .int .i64 (o0)) rfl rfl .plain (fun _ _ hd => P_move c6) ?_
     refine L_pur (c := ePtr o5 o0 3) rfl rfl .plain (fun _ _ hd => P_indexAddr (α := LoomRun) Try.underlying31 Try.sizeOf76 rfl b7 rfl jH) ?_
     refine L_ld (c := sS) rfl rfl .plain (fun _ _ h => h.ch) gP rfl ?_
     refine L_pur (c := .bool ((!(decide (kG = lG))))) rfl rfl .plain (fun _ _ hd => P_sne seq_76 rfl eg_76 rfl rfl qS tS) ?_
     refine L_nil fun bE k00 hall => ?_
     have hs := hall.1
     have hfr := hfr.ext hs
     have m7 := m7.ext hs
     have n7 := n7.ext hs
     have b7 := b7.ext hs
     have c7 := c7.ext hs
     clear hs hall
     refine EL_nil (thn_n ?_)
     rcases csome h with ⟨lE, h⟩ | ⟨lE, h⟩
     ·refine E_ct lE rfl ?_
      refine E_joinC h (fun (s : Unit) e w => ∃ (g : Gh) , Fr gI wI g w ∧ e 3 = p5 ∧ OB 2003 g w 24 (y4.1 : LoomMill) p5 ∧ e 4 = j3 ∧ RV g.m w (y4.2.1 : List LoomOrder) j3) (fun X2729 mM iP h => ?_) ?_
      ·obtain ⟨cA, hx, h⟩ := bsome h
       refine E_join (fun e w => ∃ (g : Gh) , Fr gI wI g w ∧ e 3 = p5 ∧ OB 2003 g w 24 (y4.1 : LoomMill) p5 ∧ e 4 = j3 ∧ RV g.m w (y4.2.1 : List LoomOrder) j3 ∧ e 126 = .bool (cA)) (fun Q' hQ => ?_) (fun qX l00 hR => ?_)
       ·replace h := hx
        clear hx
        obtain ⟨k8, cC, h⟩ := bsome h
        have cE := PT_idx c7 cC
        have uS := PT_field (part_LoomRun_2).1 cE
        refine L_load (x := .tmp 93) Try.isAgg3 Try.sizeOf3 uS fun m00 vS mE => ?_
        obtain rfl := RV_int.1 vS
        obtain ⟨l8, dC, h⟩ := bsome h
        have dE := PT_idx b7 dC
        have xS := PT_field (part_LoomRun_2).1 dE
        refine L_load (x := .tmp 98) Try.isAgg3 Try.sizeOf3 xS fun n00 yS nE => ?_
        obtain rfl := RV_int.1 yS
        rcases csome h with ⟨u3, h⟩ | ⟨u3, h⟩
        ·refine E_drawL (g := bE) (n := 37) [] [0, 1, 2, 3, 4, 5, 6, 7, 8, 9, 10, 11, 12, 13, 14, 15, 16, 17, 18, 19, 20, 21, 22, 23, 24, 25, 26, 27, 28, 29, 30, 31, 32, 33, 34, 35, 36] rfl mixed (by kernel_rfl) trivial ?_
         refine L_pur (c := d5) rfl rfl .plain (fun _ _ hd => P_move z8) ?_
         refine L_pur (c := .int .i64 (o0)) rfl rfl .plain (fun _ _ hd => P_move c6) ?_
         refine L_pur (c := ePtr d5 o0 3) rfl rfl .plain (fun _ _ hd => P_indexAddr (α := LoomRun) Try.underlying31 Try.sizeOf76 rfl c7 rfl cC) ?_
         refine L_pur (c := fPtr (ePtr d5 o0 3) 2) rfl rfl .plain (fun _ _ hd => P_fieldAddr at_76_2 rfl (PT.ptr cE)) ?_
         refine L_ld (c := .int .i64 ((k8).From)) rfl rfl .plain (fun _ _ h => h.ch) mE rfl ?_
         refine L_pur (c := o5) rfl rfl .plain (fun _ _ hd => P_move y8) ?_
         refine L_pur (c := .int .i64 (o0)) rfl rfl .plain (fun _ _ hd => P_move c6) ?_
         refine L_pur (c := ePtr o5 o0 3) rfl rfl .plain (fun _ _ hd => P_indexAddr (α := LoomRun) Try.underlying31 Try.sizeOf76 rfl b7 rfl dC) ?_
         refine L_pur (c := fPtr (ePtr o5 o0 3) 2) rfl rfl .plain (fun _ _ hd => P_fieldAddr at_76_2 rfl (PT.ptr dE)) ?_
         refine L_ld (c := .int .i64 ((l8).From)) rfl rfl .plain (fun _ _ h => h.ch) nE rfl ?_
         refine L_pur (c := .bool ((decide ((k8).From > (l8).From)))) rfl rfl .plain (fun _ _ hd => P_int rfl rfl rfl) ?_
         refine L_pur (c := .bool ((decide ((k8).From > (l8).From)))) rfl rfl .plain (fun _ _ hd => P_move rfl) ?_
         refine L_skip rfl (.no2 rfl rfl u3 rfl) ?_
         refine L_skip rfl (.no2 rfl rfl u3 rfl) ?_
         refine L_skip rfl (.no2 rfl rfl u3 rfl) ?_
         refine L_skip rfl (.no2 rfl rfl u3 rfl) ?_
         refine L_skip rfl (.no2 rfl rfl u3 rfl) ?_
         refine L_skip rfl (.no2 rfl rfl u3 rfl) ?_
         refine L_skip rfl (.no2 rfl rfl u3 rfl) ?_
         refine L_skip rfl (.no2 rfl rfl u3 rfl) ?_
         refine L_skip rfl (.no2 rfl rfl u3 rfl) ?_
         refine L_skip rfl (.no2 rfl rfl u3 rfl) ?_
         refine L_skip rfl (.no2 rfl rfl u3 rfl) ?_
         refine L_skip rfl (.no2 rfl rfl u3 rfl) ?_
         refine L_dead (fun _ => rfl) 11 rfl ?_
         refine L_skip rfl (.no2 rfl rfl u3 rfl) ?_
         refine L_pur (c := .bool true) rfl rfl .plain (fun _ _ hd => P_pick (b := (decide ((k8).From > (l8).From))) rfl (pick_t u3 rfl)) ?_
         refine L_nil fun zS o00 hall => ?_
         have hs := hall.1
         have hfr := hfr.ext hs
         have m7 := m7.ext hs
         have n7 := n7.ext hs
         clear hs hall
         refine EL_nil ?_
         obtain rfl := sinj h
         exact hQ _ _ ⟨zS, hfr, rB, m7, sB, n7, rfl⟩
        ·obtain ⟨t9, oE, h⟩ := bsome h
         have mG := PT_idx c7 oE
         have aT := PT_field (part_LoomRun_2).1 mG
         refine L_load (x := .tmp 105) Try.isAgg3 Try.sizeOf3 aT fun p00 bT kH => ?_
         obtain rfl := RV_int.1 bT
         obtain ⟨u9, rE, h⟩ := bsome h
         have nG := PT_idx b7 rE
         have cT := PT_field (part_LoomRun_2).1 nG
         refine L_load (x := .tmp 110) Try.isAgg3 Try.sizeOf3 cT fun q00 dT lH => ?_
         obtain rfl := RV_int.1 dT
         rcases csome h with ⟨l5, h⟩ | ⟨l5, h⟩
         ·obtain ⟨pB, mH, h⟩ := bsome h
          have qM := PT_idx c7 mH
          have eT := PT_field (part_LoomRun_1).1 qM
          refine L_load (x := .tmp 117) Try.isAgg3 Try.sizeOf3 eT fun r00 gT jP => ?_
          obtain rfl := RV_int.1 gT
          obtain ⟨qB, nH, h⟩ := bsome h
          have rM := PT_idx b7 nH
          have iT := PT_field (part_LoomRun_1).1 rM
          refine L_load (x := .tmp 122) Try.isAgg3 Try.sizeOf3 iT fun s00 jT kP => ?_
          obtain rfl := RV_int.1 jT
          refine E_drawL (g := bE) (n := 37) [] [0, 1, 2, 3, 4, 5, 6, 7, 8, 9, 10, 11, 12, 13, 14, 15, 16, 17, 18, 19, 20, 21, 22, 23, 24, 25, 26, 27, 28, 29, 30, 31, 32, 33, 34, 35, 36] rfl mixed (by kernel_rfl) trivial ?_
          refine L_pur (c := d5) rfl rfl .plain (fun _ _ hd => P_move z8) ?_
          refine L_pur (c := .int .i64 (o0)) rfl rfl .plain (fun _ _ hd => P_move c6) ?_
          refine L_pur (c := ePtr d5 o0 3) rfl rfl .plain (fun _ _ hd => P_indexAddr (α := LoomRun) Try.underlying31 Try.sizeOf76 rfl c7 rfl cC) ?_
          refine L_pur (c := fPtr (ePtr d5 o0 3) 2) rfl rfl .plain (fun _ _ hd => P_fieldAddr at_76_2 rfl (PT.ptr cE)) ?_
          refine L_ld (c := .int .i64 ((k8).From)) rfl rfl .plain (fun _ _ h => h.ch) mE rfl ?_
          refine L_pur (c := o5) rfl rfl .plain (fun _ _ hd => P_move y8) ?_
          refine L_pur (c := .int .i64 (o0)) rfl rfl .plain (fun _ _ hd => P_move c6) ?_
          refine L_pur (c := ePtr o5 o0 3) rfl rfl .plain (fun _ _ hd => P_indexAddr (α := LoomRun) Try.underlying31 Try.sizeOf76 rfl b7 rfl dC) ?_
          refine L_pur (c := fPtr (ePtr o5 o0 3) 2) rfl rfl .plain (fun _ _ hd => P_fieldAddr at_76_2 rfl (PT.ptr dE)) ?_
          refine L_ld (c := .int .i64 ((l8).From)) rfl rfl .plain (fun _ _ h => h.ch) nE rfl ?_
          refine L_pur (c := .bool ((decide ((k8).From > (l8).From)))) rfl rfl .plain (fun _ _ hd => P_int rfl rfl rfl) ?_
          refine L_pur (c := .bool ((decide ((k8).From > (l8).From)))) rfl rfl .plain (fun _ _ hd => P_move rfl) ?_
          refine L_pur (c := d5) rfl rfl (.yes2 rfl rfl u3) (fun _ _ hd => P_move z8) ?_
          refine L_pur (c := .int .i64 (o0)) rfl rfl (.yes2 rfl rfl u3) (fun _ _ hd => P_move c6) ?_
          refine L_pur (c := ePtr d5 o0 3) rfl rfl (.yes2 rfl rfl u3) (fun _ _ hd => P_indexAddr (α := LoomRun) Try.underlying31 Try.sizeOf76 rfl c7 rfl oE) ?_
          refine L_pur (c := fPtr (ePtr d5 o0 3) 2) rfl rfl (.yes2 rfl rfl u3) (fun _ _ hd => P_fieldAddr at_76_2 rfl (PT.ptr mG)) ?_
          refine L_ld (c := .int .i64 ((t9).From)) rfl rfl (.yes2 rfl rfl u3) (fun _ _ h => h.ch) kH rfl ?_
          refine L_pur (c := o5) rfl rfl (.yes2 rfl rfl u3) (fun _ _ hd => P_move y8) ?_
          refine L_pur (c := .int .i64 (o0)) rfl rfl (.yes2 rfl rfl u3) (fun _ _ hd => P_move c6) ?_
          refine L_pur (c := ePtr o5 o0 3) rfl rfl (.yes2 rfl rfl u3) (fun _ _ hd => P_indexAddr (α := LoomRun) Try.underlying31 Try.sizeOf76 rfl b7 rfl rE) ?_
          refine L_pur (c := fPtr (ePtr o5 o0 3) 2) rfl rfl (.yes2 rfl rfl u3) (fun _ _ hd => P_fieldAddr at_76_2 rfl (PT.ptr nG)) ?_
          refine L_ld (c := .int .i64 ((u9).From)) rfl rfl (.yes2 rfl rfl u3) (fun _ _ h => h.ch) lH rfl ?_
          refine L_pur (c := .bool (((t9).From == (u9).From))) rfl rfl (.yes2 rfl rfl u3) (fun _ _ hd => P_int rfl rfl rfl) ?_
          refine L_pur (c := .bool (((t9).From == (u9).From))) rfl rfl (.yes2 rfl rfl u3) (fun _ _ hd => P_move rfl) ?_
          refine L_pur (c := d5) rfl rfl (.yes2 rfl rfl l5) (fun _ _ hd => P_move z8) ?_
          refine L_pur (c := .int .i64 (o0)) rfl rfl (.yes2 rfl rfl l5) (fun _ _ hd => P_move c6) ?_
          refine L_pur (c := ePtr d5 o0 3) rfl rfl (.yes2 rfl rfl l5) (fun _ _ hd => P_indexAddr (α := LoomRun) Try.underlying31 Try.sizeOf76 rfl c7 rfl mH) ?_
          refine L_pur (c := fPtr (ePtr d5 o0 3) 1) rfl rfl (.yes2 rfl rfl l5) (fun _ _ hd => P_fieldAddr at_76_1 rfl (PT.ptr qM)) ?_
          refine L_ld (c := .int .i64 ((pB).Loom)) rfl rfl (.yes2 rfl rfl l5) (fun _ _ h => h.ch) jP rfl ?_
          refine L_pur (c := o5) rfl rfl (.yes2 rfl rfl l5) (fun _ _ hd => P_move y8) ?_
          refine L_pur (c := .int .i64 (o0)) rfl rfl (.yes2 rfl rfl l5) (fun _ _ hd => P_move c6) ?_
          refine L_pur (c := ePtr o5 o0 3) rfl rfl (.yes2 rfl rfl l5) (fun _ _ hd => P_indexAddr (α := LoomRun) Try.underlying31 Try.sizeOf76 rfl b7 rfl nH) ?_
          refine L_pur (c := fPtr (ePtr o5 o0 3) 1) rfl rfl (.yes2 rfl rfl l5) (fun _ _ hd => P_fieldAddr at_76_1 rfl (PT.ptr rM)) ?_
          refine L_ld (c := .int .i64 ((qB).Loom)) rfl rfl (.yes2 rfl rfl l5) (fun _ _ h => h.ch) kP rfl ?_
          refine L_pur (c := .bool ((decide ((pB).Loom > (qB).Loom)))) rfl rfl (.yes2 rfl rfl l5) (fun _ _ hd => P_int rfl rfl rfl) ?_
          refine L_pur (c := .bool ((decide ((pB).Loom > (qB).Loom)))) rfl rfl (.yes2 rfl rfl u3) (fun _ _ hd => P_pick (b := ((t9).From == (u9).From)) rfl (pick_t l5 rfl)) ?_
          refine L_pur (c := .bool ((decide ((pB).Loom > (qB).Loom)))) rfl rfl .plain (fun _ _ hd => P_pick (b := (decide ((k8).From > (l8).From))) rfl (pick_f u3 rfl)) ?_
          refine L_nil fun kT t00 hall => ?_
          have hs := hall.1
          have hfr := hfr.ext hs
          have m7 := m7.ext hs
          have n7 := n7.ext hs
          clear hs hall
          refine EL_nil ?_
          obtain rfl := sinj h
          exact hQ _ _ ⟨kT, hfr, rB, m7, sB, n7, rfl⟩
         ·refine E_drawL (g := bE) (n := 37) [] [0, 1, 2, 3, 4, 5, 6, 7, 8, 9, 10, 11, 12, 13, 14, 15, 16, 17, 18, 19, 20, 21, 22, 23, 24, 25, 26, 27, 28, 29, 30, 31, 32, 33, 34, 35, 36] rfl mixed (by kernel_rfl) trivial ?_
          refine L_pur (c := d5) rfl rfl .plain (fun _ _ hd => P_move z8) ?_
          refine L_pur (c := .int .i64 (o0)) rfl rfl .plain (fun _ _ hd => P_move c6) ?_
          refine L_pur (c := ePtr d5 o0 3) rfl rfl .plain (fun _ _ hd => P_indexAddr (α := LoomRun) Try.underlying31 Try.sizeOf76 rfl c7 rfl cC) ?_
          refine L_pur (c := fPtr (ePtr d5 o0 3) 2) rfl rfl .plain (fun _ _ hd => P_fieldAddr at_76_2 rfl (PT.ptr cE)) ?_
          refine L_ld (c := .int .i64 ((k8).From)) rfl rfl .plain (fun _ _ h => h.ch) mE rfl ?_
          refine L_pur (c := o5) rfl rfl .plain (fun _ _ hd => P_move y8) ?_
          refine L_pur (c := .int .i64 (o0)) rfl rfl .plain (fun _ _ hd => P_move c6) ?_
          refine L_pur (c := ePtr o5 o0 3) rfl rfl .plain (fun _ _ hd => P_indexAddr (α := LoomRun) Try.underlying31 Try.sizeOf76 rfl b7 rfl dC) ?_
          refine L_pur (c := fPtr (ePtr o5 o0 3) 2) rfl rfl .plain (fun _ _ hd => P_fieldAddr at_76_2 rfl (PT.ptr dE)) ?_
          refine L_ld (c := .int .i64 ((l8).From)) rfl rfl .plain (fun _ _ h => h.ch) nE rfl ?_
          refine L_pur (c := .bool ((decide ((k8).From > (l8).From)))) rfl rfl .plain (fun _ _ hd => P_int rfl rfl rfl) ?_
          refine L_pur (c := .bool ((decide ((k8).From > (l8).From)))) rfl rfl .plain (fun _ _ hd => P_move rfl) ?_
          refine L_pur (c := d5) rfl rfl (.yes2 rfl rfl u3) (fun _ _ hd => P_move z8) ?_
          refine L_pur (c := .int .i64 (o0)) rfl rfl (.yes2 rfl rfl u3) (fun _ _ hd => P_move c6) ?_
          refine L_pur (c := ePtr d5 o0 3) rfl rfl (.yes2 rfl rfl u3) (fun _ _ hd => P_indexAddr (α := LoomRun) Try.underlying31 Try.sizeOf76 rfl c7 rfl oE) ?_
          refine L_pur (c := fPtr (ePtr d5 o0 3) 2) rfl rfl (.yes2 rfl rfl u3) (fun _ _ hd => P_fieldAddr at_76_2 rfl (PT.ptr mG)) ?_
          refine L_ld (c := .int .i64 ((t9).From)) rfl rfl (.yes2 rfl rfl u3) (fun _ _ h => h.ch) kH rfl ?_
          refine L_pur (c := o5) rfl rfl (.yes2 rfl rfl u3) (fun _ _ hd => P_move y8) ?_
          refine L_pur (c := .int .i64 (o0)) rfl rfl (.yes2 rfl rfl u3) (fun _ _ hd => P_move c6) ?_
          refine L_pur (c := ePtr o5 o0 3) rfl rfl (.yes2 rfl rfl u3) (fun _ _ hd => P_indexAddr (α := LoomRun) Try.underlying31 Try.sizeOf76 rfl b7 rfl rE) ?_
          refine L_pur (c := fPtr (ePtr o5 o0 3) 2) rfl rfl (.yes2 rfl rfl u3) (fun _ _ hd => P_fieldAddr at_76_2 rfl (PT.ptr nG)) ?_
          refine L_ld (c := .int .i64 ((u9).From)) rfl rfl (.yes2 rfl rfl u3) (fun _ _ h => h.ch) lH rfl ?_
          refine L_pur (c := .bool (((t9).From == (u9).From))) rfl rfl (.yes2 rfl rfl u3) (fun _ _ hd => P_int rfl rfl rfl) ?_
          refine L_pur (c := .bool (((t9).From == (u9).From))) rfl rfl (.yes2 rfl rfl u3) (fun _ _ hd => P_move rfl) ?_
          refine L_skip rfl (.no2 rfl rfl l5 rfl) ?_
          refine L_skip rfl (.no2 rfl rfl l5 rfl) ?_
          refine L_skip rfl (.no2 rfl rfl l5 rfl) ?_
          refine L_skip rfl (.no2 rfl rfl l5 rfl) ?_
          refine L_skip rfl (.no2 rfl rfl l5 rfl) ?_
          refine L_skip rfl (.no2 rfl rfl l5 rfl) ?_
          refine L_skip rfl (.no2 rfl rfl l5 rfl) ?_
          refine L_skip rfl (.no2 rfl rfl l5 rfl) ?_
          refine L_skip rfl (.no2 rfl rfl l5 rfl) ?_
          refine L_skip rfl (.no2 rfl rfl l5 rfl) ?_
          refine L_skip rfl (.no2 rfl rfl l5 rfl) ?_
          refine L_pur (c := .bool false) rfl rfl (.yes2 rfl rfl u3) (fun _ _ hd => P_pick (b := ((t9).From == (u9).From)) rfl (pick_f l5 rfl)) ?_
          refine L_pur (c := .bool false) rfl rfl .plain (fun _ _ hd => P_pick (b := (decide ((k8).From > (l8).From))) rfl (pick_f u3 rfl)) ?_
          refine L_nil fun lT u00 hall => ?_
          have hs := hall.1
          have hfr := hfr.ext hs
          have m7 := m7.ext hs
          have n7 := n7.ext hs
          clear hs hall
          refine EL_nil ?_
          obtain rfl := sinj h
          exact hQ _ _ ⟨lT, hfr, rB, m7, sB, n7, rfl⟩
       ·clear hx
        obtain ⟨mT, hfr, zM, aN, bN, cN, zC⟩ := hR
        rcases csome h with ⟨sE, h⟩ | ⟨sE, h⟩
        ·refine E_cond_true (Eq.trans (show ev _ _ = .bool (cA) from zC) (congrArg Value.bool sE)) ?_
         refine E_seq (E_region (EL_at (.bool false) rfl rfl ?_))
         refine EL_nil (thn_n (E_ret (thn_r ?_)))
         refine blk_r ?_
         refine thn_r ?_
         refine thn_r ?_
         refine blk_r ?_
         refine thn_r ?_
         obtain rfl := sinj h
         exact end1 rfl rfl (show _ = .bool false from rfl) ⟨_, hfr, rfl⟩
        ·refine E_cond_false (Eq.trans (show ev _ _ = .bool (cA) from zC) (congrArg Value.bool sE)) ?_
         exact E_skip (thn_n (iP () _ _ ⟨mT, hfr, zM, aN, bN, cN⟩ h))
      ·rintro _ rX v00 ⟨nT, hfr, dN, eN, gN, iN⟩ h
       refine E_exit ?_
       refine blk_miss rfl ?_
       refine thn_e ?_
       refine thn_e ?_
       refine blk_hit ?_
       exact thn_n (gH () _ _ ⟨nT, hfr, dN, eN, gN, iN⟩ h)
     ·refine E_cf lE rfl ?_
      exact E_skip (blk_n (thn_n (dP () _ _ ⟨bE, hfr, rB, m7, sB, n7, y8, b7, z8, c7, c6⟩ h)))
    ·rintro _ sX x00 ⟨oT, hfr, jN, kN, lN, mN, nN, oN, pN, qN, vJ⟩ h
     refine E_region (EL_mv vJ rfl ?_)
     refine EL_in (.int .i64 ((w64 (o0 + (1 : Int))))) rfl rfl rfl rfl ?_
     refine EL_at (.int .i64 ((w64 (o0 + (1 : Int))))) rfl rfl ?_
     exact EL_nil (thn_n (bP ((w64 (o0 + (1 : Int)))) _ _ ⟨oT, hfr, jN, kN, lN, mN, nN, oN, pN, qN, rfl⟩ h))
  ·rintro _ tX y00 ⟨sM, hfr, t7, z2, e8, i3⟩ h
   refine E_seq (E_region (EL_do .plain rfl (D_loadO (g := sM) Try.isAgg24 Try.sizeOf24 t7 z2 fun pT qT => ?_)))
   obtain ⟨uL, lP, h⟩ := bsome h
   refine EL_do .plain rfl (D_call (g := sM) (vs := [pT]) en15 (.cons rfl .nil) (wk15 qT lP) fun rT uX sT hs hr => ?_)
   have hfr := hfr.ext hs
   have z2 := z2.ext hs
   have i3 := i3.ext hs
   have oG := hr
   refine EL_mv e8 rfl ?_
   obtain ⟨vL, mP, h⟩ := bsome h
   refine EL_do .plain rfl (D_call (g := rT) (vs := [j3]) en16 (.cons rfl .nil) (wk16 i3 mP) fun tT vX uT hs hr => ?_)
   have hfr := hfr.ext hs
   have z2 := z2.ext hs
   have i3 := i3.ext hs
   have oG := oG.ext hs
   have vT := hr
   obtain ⟨r9, nP, h⟩ := bsome h
   refine EL_do .plain rfl (D_call (g := tT) (vs := [sT, uT]) en23 (.cons rfl (.cons rfl .nil)) (wk23 oG vT nP) fun tM xX z00 hs hr => ?_)
   have hfr := hfr.ext hs
   have z2 := z2.ext hs
   have i3 := i3.ext hs
   obtain ⟨lC, tV, rfl, uV, rfl⟩ := hr
   refine EL_mw (.tuple #[lC, .int .i64 (r9.2)]) rfl rfl ?_
   refine EL_pur (v := lC) (P_extract rfl rfl) .plain rfl ?_
   refine EL_pur (v := .int .i64 (r9.2)) (P_extract rfl rfl) .plain rfl ?_
   refine EL_at lC rfl rfl ?_
   refine EL_at (.int .i64 (r9.2)) rfl rfl ?_
   refine EL_nil (thn_n (E_seq (E_region (EL_do .plain rfl (D_loadO (g := tM) Try.isAgg24 Try.sizeOf24 t7 z2 fun xT yT => ?_)))))
   obtain ⟨xL, oP, h⟩ := bsome h
   refine EL_do .plain rfl (D_call (g := tM) (vs := [xT]) en15 (.cons rfl .nil) (wk15 yT oP) fun zT yX aU hs hr => ?_)
   have hfr := hfr.ext hs
   have z2 := z2.ext hs
   have i3 := i3.ext hs
   have pG := hr
   refine EL_mv e8 rfl ?_
   obtain ⟨yL, pP, h⟩ := bsome h
   refine EL_do .plain rfl (D_call (g := zT) (vs := [j3]) en16 (.cons rfl .nil) (wk16 i3 pP) fun bU zX cU hs hr => ?_)
   have hfr := hfr.ext hs
   have z2 := z2.ext hs
   have i3 := i3.ext hs
   have pG := pG.ext hs
   have dU := hr
   obtain ⟨j7, qP, h⟩ := bsome h
   refine EL_do .plain rfl (D_call (g := bU) (vs := [aU, cU]) en24 (.cons rfl (.cons rfl .nil)) (wk24 pG dU qP) fun uM aY a01 hs hr => ?_)
   have hfr := hfr.ext hs
   have z2 := z2.ext hs
   have i3 := i3.ext hs
   obtain ⟨tB, vV, rfl, d6, rfl⟩ := hr
   refine EL_mw (.tuple #[tB, .int .i64 (j7.2)]) rfl rfl ?_
   refine EL_pur (v := tB) (P_extract rfl rfl) .plain rfl ?_
   refine EL_pur (v := .int .i64 (j7.2)) (P_extract rfl rfl) .plain rfl ?_
   refine EL_at tB rfl rfl ?_
   refine EL_at (.int .i64 (j7.2)) rfl rfl ?_
   refine EL_nil (thn_n (E_seq (E_region (EL_do .plain rfl (D_loadO (g := uM) Try.isAgg24 Try.sizeOf24 t7 z2 fun eU gU => ?_)))))
   obtain ⟨zL, sP, h⟩ := bsome h
   refine EL_do .plain rfl (D_call (g := uM) (vs := [eU]) en15 (.cons rfl .nil) (wk15 gU sP) fun iU bY jU hs hr => ?_)
   have hfr := hfr.ext hs
   have z2 := z2.ext hs
   have i3 := i3.ext hs
   have d6 := d6.ext hs
   have qG := hr
   refine EL_mv e8 rfl ?_
   obtain ⟨aM, tP, h⟩ := bsome h
   refine EL_do .plain rfl (D_call (g := iU) (vs := [j3]) en16 (.cons rfl .nil) (wk16 i3 tP) fun kU cY lU hs hr => ?_)
   have hfr := hfr.ext hs
   have z2 := z2.ext hs
   have i3 := i3.ext hs
   have d6 := d6.ext hs
   have qG := qG.ext hs
   have mU := hr
   obtain ⟨i8, uP, h⟩ := bsome h
   refine EL_do .plain rfl (D_call (g := kU) (vs := [jU, lU]) en30 (.cons rfl (.cons rfl .nil)) (wk30 qG mU uP) fun nU dY b01 hs hr => ?_)
   have hfr := hfr.ext hs
   have z2 := z2.ext hs
   have i3 := i3.ext hs
   have d6 := d6.ext hs
   obtain ⟨mC, xV, yV, rfl, nC, rfl, rfl⟩ := hr
   refine EL_mw (.tuple #[mC, .int .i64 (i8.2.1), .int .i64 (i8.2.2)]) rfl rfl ?_
   refine EL_pur (v := mC) (P_extract rfl rfl) .plain rfl ?_
   refine EL_pur (v := .int .i64 (i8.2.1)) (P_extract rfl rfl) .plain rfl ?_
   refine EL_pur (v := .int .i64 (i8.2.2)) (P_extract rfl rfl) .plain rfl ?_
   refine EL_do .plain rfl (D_allocOc (g := nU) 2015 (⟨0, 0⟩ : Span) Try.zeroValue48 (fun m w => ⟨_, (rep_two rep_int rep_int), rfl⟩) fun oU c01 d01 hs b3120 cb => ?_)
   have hfr := hfr.stp hs
   have z2 := z2.stp hs rfl
   have i3 := i3.stp hs
   have d6 := d6.stp hs
   have nC := nC.stp hs
   clear cb
   refine EL_do .plain rfl (D_storeOc (g := oU) (v := mC) Try.sizeOf48 rfl b3120 rfl nC fun vM e01 hs b3121 cb => ?_)
   clear cb
   have hfr := hfr.stp hs
   have z2 := z2.stp hs rfl
   have i3 := i3.stp hs
   have d6 := d6.stp hs
   refine EL_at (.int .i64 (i8.2.1)) rfl rfl ?_
   refine EL_at (.int .i64 (i8.2.2)) rfl rfl ?_
   refine EL_nil (thn_n (E_seq (E_region (EL_do .plain rfl (D_loadO (g := vM) Try.isAgg24 Try.sizeOf24 t7 z2 fun pU qU => ?_)))))
   obtain ⟨bM, vP, h⟩ := bsome h
   refine EL_do .plain rfl (D_call (g := vM) (vs := [pU]) en15 (.cons rfl .nil) (wk15 qU vP) fun rU eY sU hs hr => ?_)
   have hfr := hfr.ext hs
   have z2 := z2.ext hs
   have i3 := i3.ext hs
   have d6 := d6.ext hs
   have rG := hr
   refine EL_mv e8 rfl ?_
   obtain ⟨cM, xP, h⟩ := bsome h
   refine EL_do .plain rfl (D_call (g := rU) (vs := [j3]) en16 (.cons rfl .nil) (wk16 i3 xP) fun tU gY uU hs hr => ?_)
   have hfr := hfr.ext hs
   have z2 := z2.ext hs
   have i3 := i3.ext hs
   have d6 := d6.ext hs
   have rG := rG.ext hs
   have vU := hr
   obtain ⟨m4, yP, h⟩ := bsome h
   refine EL_do .plain rfl (D_call (g := tU) (vs := [sU, uU]) en25 (.cons rfl (.cons rfl .nil)) (wk25 rG vU yP) fun bB iY g01 hs hr => ?_)
   have hfr := hfr.ext hs
   have z2 := z2.ext hs
   have i3 := i3.ext hs
   have d6 := d6.ext hs
   obtain ⟨j1, zV, rfl, k9, rfl⟩ := hr
   refine EL_mw (.tuple #[j1, .int .i64 (m4.2)]) rfl rfl ?_
   refine EL_pur (v := j1) (P_extract rfl rfl) .plain rfl ?_
   refine EL_pur (v := .int .i64 (m4.2)) (P_extract rfl rfl) .plain rfl ?_
   refine EL_at j1 rfl rfl ?_
   refine EL_at (.int .i64 (m4.2)) rfl rfl ?_
   refine EL_nil (thn_n (E_joinC h (fun (s : Unit) e w => ∃ (g : Gh) , Fr gI wI g w ∧ e 3 = p5 ∧ OB 2003 g w 24 (y4.1 : LoomMill) p5 ∧ e 4 = j3 ∧ RV g.m w (y4.2.1 : List LoomOrder) j3 ∧ e 18 = j1 ∧ RV g.m w (m4.1 : List Int) j1) (fun X3145 iM zP h => ?_) ?_))
   ·obtain ⟨bA, hx, h⟩ := bsome h
    refine E_join (fun e w => ∃ (g : Gh) , Fr gI wI g w ∧ e 3 = p5 ∧ OB 2003 g w 24 (y4.1 : LoomMill) p5 ∧ e 4 = j3 ∧ RV g.m w (y4.2.1 : List LoomOrder) j3 ∧ e 18 = j1 ∧ RV g.m w (m4.1 : List Int) j1 ∧ e 186 = .bool (bA)) (fun Q' hQ => ?_) (fun jY h01 hR => ?_)
    ·replace h := hx
     clear hx
     refine E_region (EL_mw (.int .i64 (r9.2)) rfl rfl ?_)
     refine EL_in (.bool ((r9.2 != (7 : Int)))) rfl rfl rfl rfl ?_
     refine EL_mw (.bool ((r9.2 != (7 : Int)))) rfl rfl ?_
     rcases csome h with ⟨gA, h⟩ | ⟨gA, h⟩
     ·refine EL_skip (.no2 rfl rfl gA rfl) rfl ?_
      refine EL_skip (.no2 rfl rfl gA rfl) rfl ?_
      refine EL_pur (v := .bool true) (P_pick (b := (r9.2 != (7 : Int))) rfl (pick_t gA rfl)) .plain rfl ?_
      refine EL_dead 21 rfl ?_
      refine EL_nil ?_
      obtain rfl := sinj h
      exact hQ _ _ ⟨bB, hfr, t7, z2, e8, i3, rfl, k9, rfl⟩
     ·refine EL_pur (v := .int .i64 (j7.2)) (P_move rfl) (.yes2 rfl rfl gA) rfl ?_
      refine EL_pur (v := .bool ((j7.2 != (0 : Int)))) (P_int rfl rfl rfl) (.yes2 rfl rfl gA) rfl ?_
      refine EL_pur (v := .bool ((j7.2 != (0 : Int)))) (P_pick (b := (r9.2 != (7 : Int))) rfl (pick_f gA rfl)) .plain rfl ?_
      refine EL_mw (.bool ((j7.2 != (0 : Int)))) rfl rfl ?_
      rcases csome h with ⟨g9, h⟩ | ⟨g9, h⟩
      ·refine EL_skip (.no2 rfl rfl g9 rfl) rfl ?_
       refine EL_skip (.no2 rfl rfl g9 rfl) rfl ?_
       refine EL_skip (.no2 rfl rfl g9 rfl) rfl ?_
       refine EL_pur (v := .bool true) (P_pick (b := (j7.2 != (0 : Int))) rfl (pick_t g9 rfl)) .plain rfl ?_
       refine EL_dead 16 rfl ?_
       refine EL_nil ?_
       obtain rfl := sinj h
       exact hQ _ _ ⟨bB, hfr, t7, z2, e8, i3, rfl, k9, rfl⟩
      ·refine EL_pur (v := tB) (P_move rfl) (.yes2 rfl rfl g9) rfl ?_
       refine EL_pur (v := .int .i64 ((j7.1).length : Int)) (P_len Try.underlying22 rfl d6) (.yes2 rfl rfl g9) rfl ?_
       refine EL_pur (v := .bool ((((j7.1).length : Int) != (0 : Int)))) (P_int rfl rfl rfl) (.yes2 rfl rfl g9) rfl ?_
       refine EL_pur (v := .bool ((((j7.1).length : Int) != (0 : Int)))) (P_pick (b := (j7.2 != (0 : Int))) rfl (pick_f g9 rfl)) .plain rfl ?_
       refine EL_mw (.bool ((((j7.1).length : Int) != (0 : Int)))) rfl rfl ?_
       rcases csome h with ⟨iA, h⟩ | ⟨iA, h⟩
       ·refine EL_skip (.no2 rfl rfl iA rfl) rfl ?_
        refine EL_skip (.no2 rfl rfl iA rfl) rfl ?_
        refine EL_pur (v := .bool true) (P_pick (b := (((j7.1).length : Int) != (0 : Int))) rfl (pick_t iA rfl)) .plain rfl ?_
        refine EL_dead 12 rfl ?_
        refine EL_nil ?_
        obtain rfl := sinj h
        exact hQ _ _ ⟨bB, hfr, t7, z2, e8, i3, rfl, k9, rfl⟩
       ·refine EL_pur (v := .int .i64 (i8.2.2)) (P_move rfl) (.yes2 rfl rfl iA) rfl ?_
        refine EL_pur (v := .bool ((i8.2.2 != (7 : Int)))) (P_int rfl rfl rfl) (.yes2 rfl rfl iA) rfl ?_
        refine EL_pur (v := .bool ((i8.2.2 != (7 : Int)))) (P_pick (b := (((j7.1).length : Int) != (0 : Int))) rfl (pick_f iA rfl)) .plain rfl ?_
        refine EL_mw (.bool ((i8.2.2 != (7 : Int)))) rfl rfl ?_
        rcases csome h with ⟨jA, h⟩ | ⟨jA, h⟩
        ·refine EL_skip (.no2 rfl rfl jA rfl) rfl ?_
         refine EL_skip (.no2 rfl rfl jA rfl) rfl ?_
         refine EL_pur (v := .bool true) (P_pick (b := (i8.2.2 != (7 : Int))) rfl (pick_t jA rfl)) .plain rfl ?_
         refine EL_dead 8 rfl ?_
         refine EL_nil ?_
         obtain rfl := sinj h
         exact hQ _ _ ⟨bB, hfr, t7, z2, e8, i3, rfl, k9, rfl⟩
        ·refine EL_pur (v := .int .i64 (m4.2)) (P_move rfl) (.yes2 rfl rfl jA) rfl ?_
         refine EL_pur (v := .bool ((m4.2 != (0 : Int)))) (P_int rfl rfl rfl) (.yes2 rfl rfl jA) rfl ?_
         refine EL_pur (v := .bool ((m4.2 != (0 : Int)))) (P_pick (b := (i8.2.2 != (7 : Int))) rfl (pick_f jA rfl)) .plain rfl ?_
         refine EL_mw (.bool ((m4.2 != (0 : Int)))) rfl rfl ?_
         rcases csome h with ⟨i7, h⟩ | ⟨i7, h⟩
         ·refine EL_skip (.no2 rfl rfl i7 rfl) rfl ?_
          refine EL_skip (.no2 rfl rfl i7 rfl) rfl ?_
          refine EL_skip (.no2 rfl rfl i7 rfl) rfl ?_
          refine EL_skip (.no2 rfl rfl i7 rfl) rfl ?_
          refine EL_skip (.no2 rfl rfl i7 rfl) rfl ?_
          refine EL_skip (.no2 rfl rfl i7 rfl) rfl ?_
          refine EL_pur (v := .bool true) (P_pick (b := (m4.2 != (0 : Int))) rfl (pick_t i7 rfl)) .plain rfl ?_
          refine EL_nil ?_
          obtain rfl := sinj h
          exact hQ _ _ ⟨bB, hfr, t7, z2, e8, i3, rfl, k9, rfl⟩
         ·refine EL_pur (v := j1) (P_move rfl) (.yes2 rfl rfl i7) rfl ?_
          refine EL_pur (v := .int .i64 ((m4.1).length : Int)) (P_len Try.underlying22 rfl k9) (.yes2 rfl rfl i7) rfl ?_
          refine EL_pur (v := fPtr p5 0) (P_fieldAddr at_24_0 t7 (OB.ptr z2)) (.yes2 rfl rfl i7) rfl ?_
          refine EL_do (.yes2 rfl rfl i7) rfl (D_loadF (g := bB) part_LoomMill_0.1 Try.isAgg22 Try.sizeOf22 rfl z2 fun i01 xU => ?_)
          refine EL_pur (v := .int .i64 (((y4.1).Widths).length : Int)) (P_len Try.underlying22 rfl xU) (.yes2 rfl rfl i7) rfl ?_
          refine EL_pur (v := .bool ((decide (((m4.1).length : Int) > (((y4.1).Widths).length : Int))))) (P_int rfl rfl rfl) (.yes2 rfl rfl i7) rfl ?_
          refine EL_pur (v := .bool ((decide (((m4.1).length : Int) > (((y4.1).Widths).length : Int))))) (P_pick (b := (m4.2 != (0 : Int))) rfl (pick_f i7 rfl)) .plain rfl ?_
          refine EL_nil ?_
          obtain rfl := sinj h
          exact hQ _ _ ⟨bB, hfr, t7, z2, e8, i3, rfl, k9, rfl⟩
    ·clear hx
     obtain ⟨yU, hfr, rN, sN, tN, uN, xJ, yJ, aD⟩ := hR
     rcases csome h with ⟨tE, h⟩ | ⟨tE, h⟩
     ·refine E_cond_true (Eq.trans (show ev _ _ = .bool (bA) from aD) (congrArg Value.bool tE)) ?_
      refine E_seq (E_region (EL_at (.bool false) rfl rfl ?_))
      refine EL_nil (thn_n (E_ret (thn_r ?_)))
      obtain rfl := sinj h
      exact end1 rfl rfl (show _ = .bool false from rfl) ⟨_, hfr, rfl⟩
     ·refine E_cond_false (Eq.trans (show ev _ _ = .bool (bA) from aD) (congrArg Value.bool tE)) ?_
      exact E_skip (thn_n (zP () _ _ ⟨yU, hfr, rN, sN, tN, uN, xJ, yJ⟩ h))
   ·rintro _ kY j01 ⟨zU, hfr, vN, xN, yN, zN, zJ, aK⟩ h
    refine E_joinC h (fun (s : Unit) e w => ∃ (g : Gh) , Fr gI wI g w) (fun X9259 dM aQ h => ?_) ?_
    ·refine E_seq (E_region (EL_at (.int .i64 (0)) rfl rfl ?_))
     refine EL_nil (thn_n (E_block ?_))
     refine E_lp h (fun (s : Int) e w => ∃ (g : Gh) , Fr gI wI g w ∧ e 3 = p5 ∧ OB 2003 g w 24 (y4.1 : LoomMill) p5 ∧ e 4 = j3 ∧ RV g.m w (y4.2.1 : List LoomOrder) j3 ∧ e 18 = j1 ∧ RV g.m w (m4.1 : List Int) j1 ∧ e 20 = .int .i64 (s)) ⟨zU, hfr, vN, xN, yN, zN, zJ, aK, rfl⟩ (fun X9260 eM bQ => ?_)
     rintro d3 mY k01 ⟨sG, hfr, aG, oC, aO, bO, bK, cK, uE⟩ h
     refine E_joinC h (fun (s : Unit) e w => ∃ (g : Gh) , Fr gI wI g w ∧ e 3 = p5 ∧ OB 2003 g w 24 (y4.1 : LoomMill) p5 ∧ e 4 = j3 ∧ RV g.m w (y4.2.1 : List LoomOrder) j3 ∧ e 18 = j1 ∧ RV g.m w (m4.1 : List Int) j1 ∧ e 20 = .int .i64 (d3)) (fun X9266 gM cQ h => ?_) ?_
     ·refine E_seq (E_region (EL_mv uE rfl ?_))
      refine EL_pur (v := fPtr p5 0) (P_fieldAddr at_24_0 aG (OB.ptr oC)) .plain rfl ?_
      refine EL_do .plain rfl (D_loadF (g := sG) part_LoomMill_0.1 Try.isAgg22 Try.sizeOf22 rfl oC fun l01 aV => ?_)
      refine EL_pur (v := .int .i64 (((y4.1).Widths).length : Int)) (P_len Try.underlying22 rfl aV) .plain rfl ?_
      refine EL_pur (v := .int .u64 (wu64 (((y4.1).Widths).length : Int))) (P_intu64 Try.underlying3 Try.underlying77 rfl) .plain rfl ?_
      obtain ⟨aE, dQ, h⟩ := bsome h
      refine EL_pur (v := .int .i64 (aE)) (P_shlu rfl rfl dQ) .plain rfl ?_
      refine EL_in (.bool ((decide (d3 < aE)))) rfl rfl rfl rfl ?_
      refine EL_nil (thn_n ?_)
      rcases csome h with ⟨vE, h⟩ | ⟨vE, h⟩
      ·refine E_ct vE rfl ?_
       exact E_skip (thn_n (cQ () _ _ ⟨sG, hfr, aG, oC, aO, bO, bK, cK, uE⟩ h))
      ·refine E_cf vE rfl ?_
       refine E_exit ?_
       refine thn_e ?_
       refine thn_e ?_
       refine blk_hit ?_
       exact thn_n (aQ () _ _ ⟨sG, hfr⟩ h)
     ·rintro _ nY bV ⟨tG, hfr, bG, l9, cO, xA, dK, kA, eK⟩ h
      refine E_joinC h (fun (s : Unit) e w => ∃ (g : Gh) , Fr gI wI g w ∧ e 3 = p5 ∧ OB 2003 g w 24 (y4.1 : LoomMill) p5 ∧ e 4 = j3 ∧ RV g.m w (y4.2.1 : List LoomOrder) j3 ∧ e 18 = j1 ∧ RV g.m w (m4.1 : List Int) j1 ∧ e 20 = .int .i64 (d3)) (fun X12313 eE cG h => ?_) ?_
      ·refine E_block ?_
       refine E_seq (E_region (EL_pur (v := fPtr p5 1) (P_fieldAddr at_24_1 bG (OB.ptr l9)) .plain rfl ?_))
       refine EL_do .plain rfl (D_loadF (g := tG) part_LoomMill_1.1 Try.isAgg3 Try.sizeOf3 rfl l9 fun oY eQ => ?_)
       obtain rfl := RV_int.1 eQ
       have eC : RV tG.m bV (⟨[], (y4.1).Change⟩ : LoomMill) (.agg (setCh [[.slice none 0 0], [.int .i64 0]] [(1, .int .i64 ((y4.1).Change))]).flatten.toArray) := RV_build rfl (rep_pair (rep_nil) (rep_last (rfl)))
       generalize dG : (Value.agg (setCh [[.slice none 0 0], [.int .i64 0]] [(1, .int .i64 ((y4.1).Change))]).flatten.toArray) = oH at eC
       refine EL_pur (v := oH) (dG ▸ P_build (vs := [(1, .int .i64 ((y4.1).Change))]) [[.slice none 0 0], [.int .i64 0]] lay_24 rfl rfl (.cons rfl .nil) ⟨⟨_, rfl, rfl⟩, trivial⟩) .plain rfl ?_
       refine EL_do .plain rfl (D_allocOc (g := tG) 2021 (⟨[], 0⟩ : LoomMill) Try.zeroValue24 (fun m w => ⟨_, (rep_two rep_nil rep_int), rfl⟩) fun pH gQ d4 hs b12317 cb => ?_)
       have hfr := hfr.stp hs
       have l9 := l9.stp hs rfl
       have xA := xA.stp hs
       have kA := kA.stp hs
       have eC := eC.stp hs
       have sV : OSF 2021 62100 0 pH gQ 3 24 ([] : List Int) d4 := cb.osf (by rfl)
       clear cb
       refine EL_do .plain rfl (D_storeOc (g := pH) (v := oH) Try.sizeOf24 rfl b12317 rfl eC fun qH iQ hs b12318 cb => ?_)
       have lK : OSF 2021 62100 0 qH iQ 3 24 ([] : List Int) d4 := cb.osf (by rw [← dG]; rfl)
       clear cb
       have hfr := hfr.stp hs
       have l9 := l9.stp hs rfl
       have xA := xA.stp hs
       have kA := kA.stp hs
       refine EL_nil (thn_n (E_seq (E_region (EL_at (.int .i64 (0)) rfl rfl ?_))))
       refine EL_nil (thn_n ?_)
       obtain ⟨z3, hx, h⟩ := bsome h
       refine E_join (fun e w => ∃ (g : Gh) , Fr gI wI g w ∧ e 3 = p5 ∧ OB 2003 g w 24 (y4.1 : LoomMill) p5 ∧ e 4 = j3 ∧ RV g.m w (y4.2.1 : List LoomOrder) j3 ∧ e 18 = j1 ∧ RV g.m w (m4.1 : List Int) j1 ∧ e 20 = .int .i64 (d3) ∧ e 21 = d4 ∧ OB 2021 g w 24 (z3 : LoomMill) d4 ∧ OSF 2021 62100 0 g w 3 24 ((z3).Widths) d4 ∧ e 22 = .int .i64 ((0 : Int))) (fun Q' hQ => ?_) (fun aW pY hR => ?_)
       ·replace h := hx
        clear hx
        refine E_seq (E_region (EL_at (.int .i64 (0)) rfl rfl ?_))
        refine EL_nil (thn_n (E_block ?_))
        refine E_lp h (fun (s : LoomMill × Int) e w => ∃ (g : Gh) , Fr gI wI g w ∧ e 3 = p5 ∧ OB 2003 g w 24 (y4.1 : LoomMill) p5 ∧ e 4 = j3 ∧ RV g.m w (y4.2.1 : List LoomOrder) j3 ∧ e 18 = j1 ∧ RV g.m w (m4.1 : List Int) j1 ∧ e 20 = .int .i64 (d3) ∧ e 21 = d4 ∧ OB 2021 g w 24 (s.1 : LoomMill) d4 ∧ OSF 2021 62100 0 g w 3 24 ((s.1).Widths) d4 ∧ e 22 = .int .i64 ((0 : Int)) ∧ e 23 = .int .i64 (s.2)) ⟨qH, hfr, bG, l9, cO, xA, dK, kA, eK, rfl, b12318, lK, rfl, rfl⟩ (fun X12402 uG dO => ?_)
        rintro ⟨m8, u5⟩ bW qY ⟨xE, hfr, zB, cB, yE, zE, bD, cD, dD, eD, gD, u21_0_12403, iD, jD⟩ h
        refine E_joinC h (fun (s : Unit) e w => ∃ (g : Gh) , Fr gI wI g w ∧ e 3 = p5 ∧ OB 2003 g w 24 (y4.1 : LoomMill) p5 ∧ e 4 = j3 ∧ RV g.m w (y4.2.1 : List LoomOrder) j3 ∧ e 18 = j1 ∧ RV g.m w (m4.1 : List Int) j1 ∧ e 20 = .int .i64 (d3) ∧ e 21 = d4 ∧ OB 2021 g w 24 (m8 : LoomMill) d4 ∧ OSF 2021 62100 0 g w 3 24 ((m8).Widths) d4 ∧ e 22 = .int .i64 ((0 : Int)) ∧ e 23 = .int .i64 (u5)) (fun X12407 vG eO h => ?_) ?_
        ·refine E_seq (E_region (EL_mv jD rfl ?_))
         refine EL_pur (v := fPtr p5 0) (P_fieldAddr at_24_0 zB (OB.ptr cB)) .plain rfl ?_
         refine EL_do .plain rfl (D_loadF (g := xE) part_LoomMill_0.1 Try.isAgg22 Try.sizeOf22 rfl cB fun rY jQ => ?_)
         refine EL_pur (v := .int .i64 (((y4.1).Widths).length : Int)) (P_len Try.underlying22 rfl jQ) .plain rfl ?_
         refine EL_pur (v := .bool ((decide (u5 < (((y4.1).Widths).length : Int))))) (P_int rfl rfl rfl) .plain rfl ?_
         refine EL_nil (thn_n ?_)
         rcases csome h with ⟨qC, h⟩ | ⟨qC, h⟩
         ·refine E_ct qC rfl ?_
          exact E_skip (thn_n (eO () _ _ ⟨xE, hfr, zB, cB, yE, zE, bD, cD, dD, eD, gD, u21_0_12403, iD, jD⟩ h))
         ·refine E_cf qC rfl ?_
          refine E_exit ?_
          refine thn_e ?_
          refine thn_e ?_
          refine blk_hit ?_
          obtain rfl := sinj h
          exact hQ _ _ ⟨xE, hfr, zB, cB, yE, zE, bD, cD, dD, eD, gD, u21_0_12403, iD⟩
        ·rintro _ cW sY ⟨sH, hfr, aC, p7, cF, n8, kD, u7, kB, nA, o7, u21_0_12411, lD, oA⟩ h
         obtain ⟨z9, hx, h⟩ := bsome h
         refine E_join (fun e w => ∃ (g : Gh) , Fr gI wI g w ∧ e 3 = p5 ∧ OB 2003 g w 24 (y4.1 : LoomMill) p5 ∧ e 4 = j3 ∧ RV g.m w (y4.2.1 : List LoomOrder) j3 ∧ e 18 = j1 ∧ RV g.m w (m4.1 : List Int) j1 ∧ e 20 = .int .i64 (d3) ∧ e 21 = d4 ∧ OB 2021 g w 24 (z9 : LoomMill) d4 ∧ OSF 2021 62100 0 g w 3 24 ((z9).Widths) d4 ∧ e 22 = .int .i64 ((0 : Int)) ∧ e 23 = .int .i64 (u5)) (fun Q' hQ => ?_) (fun dW tY hR => ?_)
         ·replace h := hx
          clear hx
          refine E_block ?_
          refine E_seq (E_region (EL_mv kB rfl ?_))
          refine EL_mv oA rfl ?_
          refine EL_pur (v := .int .u64 (wu64 u5)) (P_intu64 Try.underlying3 Try.underlying77 rfl) .plain rfl ?_
          obtain ⟨eB, gO, h⟩ := bsome h
          refine EL_pur (v := .int .i64 (eB)) (P_shru rfl rfl gO) .plain rfl ?_
          refine EL_in (.int .i64 ((bit64 .and eB (1 : Int)))) rfl rfl rfl rfl ?_
          refine EL_in (.bool (((bit64 .and eB (1 : Int)) == (1 : Int)))) rfl rfl rfl rfl ?_
          refine EL_nil (thn_n ?_)
          rcases csome h with ⟨rC, h⟩ | ⟨rC, h⟩
          ·refine E_ct rC rfl ?_
           refine L_loadFS (x := .tmp 212) part_LoomMill_0.1 Try.isAgg22 Try.sizeOf22 o7 u21_0_12411 fun kQ dF o12451 hO => ?_
           refine L_loadO (x := .tmp 214) part_LoomMill_0.1 Try.isAgg22 Try.sizeOf22 p7 fun tH uH iO => ?_
           obtain ⟨q7, eG, h⟩ := bsome h
           have lQ := PT_idx uH eG
           refine L_load (x := .tmp 217) Try.isAgg3 Try.sizeOf3 lQ fun uY mQ jO => ?_
           obtain rfl := RV_int.1 mQ
           refine E_drawL (g := sH) (n := 8) [(7, (fun v g w => RV g.m w ([q7] : List Int) v ∧ OS 3219 g w 3 ([q7] : List Int) v ∧ FullV v))] [0, 1, 2, 3, 4, 5, 6, 7] rfl mixed (by kernel_rfl) (⟨fun _ => up_and up_rv (up_and up_os (up_eq _)), trivial⟩) ?_
           refine L_pur (c := fPtr d4 0) rfl rfl .plain (fun _ _ hd => P_fieldAddr at_24_0 nA (OB.ptr o7)) ?_
           refine L_ld (c := kQ) rfl rfl .plain (fun _ _ h => ⟨h.ch, fun b hb _ => h.below.block b hb⟩) hO rfl ?_
           refine L_pur (c := fPtr p5 0) rfl rfl .plain (fun _ _ hd => P_fieldAddr at_24_0 aC (OB.ptr p7)) ?_
           refine L_ld (c := tH) rfl rfl .plain (fun _ _ h => ⟨h.ch, fun b hb _ => h.below.block b hb⟩) iO rfl ?_
           refine L_pur (c := .int .i64 (u5)) rfl rfl .plain (fun _ _ hd => P_move oA) ?_
           refine L_pur (c := ePtr tH u5 1) rfl rfl .plain (fun _ _ hd => P_indexAddr (α := Int) Try.underlying22 Try.sizeOf3 rfl uH rfl eG) ?_
           refine L_ld (c := .int .i64 (q7)) rfl rfl .plain (fun _ _ h => h.ch) jO rfl ?_
           refine L_do (φ := fun v g w => RV g.m w ([q7] : List Int) v ∧ OS 3219 g w 3 ([q7] : List Int) v ∧ FullV v) rfl rfl .plain (fun g w hd => D_buildSlice (g := g) 3219 (xs := ([q7] : List Int)) (vs := [.int .i64 (q7)]) Try.underlying22 Try.sizeOf3 Try.zeroValue3 rfl rfl (.cons rfl .nil) (RVs.cons (RV_int.2 rfl) RVs.nil) rfl rfl fun g' w' v hs o r hxt hfl => ⟨g', hxt, r, o, hfl⟩) (fun yA hv => ?_)
           clear hv
           refine L_nil fun nQ vY hall => ?_
           have hs := hall.1
           have hfr := hfr.ext hs
           have p7 := p7.ext hs
           have n8 := n8.ext hs
           have u7 := u7.ext hs
           have o7 := o7.ext hs
           have dF := dF.ext hs
           have o12451 := o12451.ext hs
           have oQ := (word_all (A := fun g w => RV g.m w ([q7] : List Int) yA ∧ OS 3219 g w 3 ([q7] : List Int) yA ∧ FullV yA) 7 rfl hall).1
           have o12479 := (word_all (A := fun g w => RV g.m w ([q7] : List Int) yA ∧ OS 3219 g w 3 ([q7] : List Int) yA ∧ FullV yA) 7 rfl hall).2.1
           clear hs hall
           obtain ⟨gE, kO, h⟩ := bsome h
           refine EL_do .plain rfl (D_append (g := nQ) (i := 62100) Try.underlying22 info_3 rfl rfl o12451 dF rfl oQ kO fun pQ xY yY hs o12480 vH _ => ?_)
           have hfr := hfr.stp hs
           have p7 := p7.stp hs rfl
           have n8 := n8.stp hs
           have u7 := u7.stp hs
           have o7 := o7.stp hs rfl
           refine EL_pur (v := fPtr d4 0) (P_fieldAddr at_24_0 nA (OB.ptr o7)) .plain rfl ?_
           refine EL_do .plain rfl (D_storeFc (g := pQ) part_LoomMill_0 Try.sizeOf22 rfl o7 rfl vH fun qQ zY hs b12483 rst hos => ?_)
           have mK := hos _ _ 62100 3 (gE : List Int) (rv_cells1 vH) rfl o12480
           clear rst hos
           have hfr := hfr.stp hs
           have p7 := p7.stp hs rfl
           have n8 := n8.stp hs
           have u7 := u7.stp hs
           refine EL_nil (blk_n ?_)
           obtain rfl := sinj h
           exact hQ _ _ ⟨qQ, hfr, aC, p7, cF, n8, kD, u7, kB, nA, b12483, mK, lD, oA⟩
          ·refine E_cf rC rfl ?_
           refine E_skip (blk_n ?_)
           obtain rfl := sinj h
           exact hQ _ _ ⟨sH, hfr, aC, p7, cF, n8, kD, u7, kB, nA, o7, u21_0_12411, lD, oA⟩
         ·clear hx
          obtain ⟨rQ, hfr, nK, oK, pK, qK, xH, yH, zH, aI, bI, u21_0_12484, cI, dI⟩ := hR
          refine E_region (EL_mv dI rfl ?_)
          refine EL_in (.int .i64 ((w64 (u5 + (1 : Int))))) rfl rfl rfl rfl ?_
          refine EL_at (.int .i64 ((w64 (u5 + (1 : Int))))) rfl rfl ?_
          exact EL_nil (thn_n (dO (z9, (w64 (u5 + (1 : Int)))) _ _ ⟨rQ, hfr, nK, oK, pK, qK, xH, yH, zH, aI, bI, u21_0_12484, cI, rfl⟩ h))
       ·clear hx
        obtain ⟨sQ, hfr, sK, tK, uK, vK, eI, iI, jI, kI, lI, u21_0_12485, mI⟩ := hR
        refine E_joinC h (fun (s : Int) e w => ∃ (g : Gh) , Fr gI wI g w ∧ e 3 = p5 ∧ OB 2003 g w 24 (y4.1 : LoomMill) p5 ∧ e 4 = j3 ∧ RV g.m w (y4.2.1 : List LoomOrder) j3 ∧ e 18 = j1 ∧ RV g.m w (m4.1 : List Int) j1 ∧ e 20 = .int .i64 (d3) ∧ e 21 = d4 ∧ OB 2021 g w 24 (z3 : LoomMill) d4 ∧ OSF 2021 62100 0 g w 3 24 ((z3).Widths) d4 ∧ e 22 = .int .i64 (s)) (fun X13898 yG lO h => ?_) ?_
        ·refine E_seq (E_region (EL_at (.int .i64 (0)) rfl rfl ?_))
         refine EL_nil (thn_n (E_block ?_))
         refine E_lp h (fun (s : Int × Int) e w => ∃ (g : Gh) , Fr gI wI g w ∧ e 3 = p5 ∧ OB 2003 g w 24 (y4.1 : LoomMill) p5 ∧ e 4 = j3 ∧ RV g.m w (y4.2.1 : List LoomOrder) j3 ∧ e 18 = j1 ∧ RV g.m w (m4.1 : List Int) j1 ∧ e 20 = .int .i64 (d3) ∧ e 21 = d4 ∧ OB 2021 g w 24 (z3 : LoomMill) d4 ∧ OSF 2021 62100 0 g w 3 24 ((z3).Widths) d4 ∧ e 22 = .int .i64 (s.1) ∧ e 24 = .int .i64 (s.2)) ⟨sQ, hfr, sK, tK, uK, vK, eI, iI, jI, kI, lI, u21_0_12485, mI, rfl⟩ (fun X13899 zG mO => ?_)
         rintro ⟨e7, u0⟩ eW aZ ⟨nI, hfr, eF, gF, iF, jF, lB, mB, mD, nD, oD, u21_0_13900, pD, qD⟩ h
         refine E_joinC h (fun (s : Unit) e w => ∃ (g : Gh) , Fr gI wI g w ∧ e 3 = p5 ∧ OB 2003 g w 24 (y4.1 : LoomMill) p5 ∧ e 4 = j3 ∧ RV g.m w (y4.2.1 : List LoomOrder) j3 ∧ e 18 = j1 ∧ RV g.m w (m4.1 : List Int) j1 ∧ e 20 = .int .i64 (d3) ∧ e 21 = d4 ∧ OB 2021 g w 24 (z3 : LoomMill) d4 ∧ OSF 2021 62100 0 g w 3 24 ((z3).Widths) d4 ∧ e 22 = .int .i64 (e7) ∧ e 24 = .int .i64 (u0)) (fun X13902 cH nO h => ?_) ?_
         ·refine E_seq (E_region (EL_mv qD rfl ?_))
          refine EL_mv lB rfl ?_
          refine EL_pur (v := .int .i64 ((m4.1).length : Int)) (P_len Try.underlying22 rfl mB) .plain rfl ?_
          refine EL_in (.bool ((decide (u0 < ((m4.1).length : Int))))) rfl rfl rfl rfl ?_
          refine EL_nil (thn_n ?_)
          rcases csome h with ⟨sC, h⟩ | ⟨sC, h⟩
          ·refine E_ct sC rfl ?_
           exact E_skip (thn_n (nO () _ _ ⟨nI, hfr, eF, gF, iF, jF, lB, mB, mD, nD, oD, u21_0_13900, pD, qD⟩ h))
          ·refine E_cf sC rfl ?_
           refine E_exit ?_
           refine thn_e ?_
           refine thn_e ?_
           refine blk_hit ?_
           exact thn_n (lO (e7) _ _ ⟨nI, hfr, eF, gF, iF, jF, lB, mB, mD, nD, oD, u21_0_13900, pD⟩ h)
         ·rintro _ gW bZ ⟨iC, hfr, q8, t5, dB, d7, i6, p4, pA, qA, v6, u21_0_13904, rA, q5⟩ h
          refine E_joinC h (fun (s : Int) e w => ∃ (g : Gh) , Fr gI wI g w ∧ e 3 = p5 ∧ OB 2003 g w 24 (y4.1 : LoomMill) p5 ∧ e 4 = j3 ∧ RV g.m w (y4.2.1 : List LoomOrder) j3 ∧ e 18 = j1 ∧ RV g.m w (m4.1 : List Int) j1 ∧ e 20 = .int .i64 (d3) ∧ e 21 = d4 ∧ OB 2021 g w 24 (z3 : LoomMill) d4 ∧ OSF 2021 62100 0 g w 3 24 ((z3).Widths) d4 ∧ e 22 = .int .i64 (s) ∧ e 24 = .int .i64 (u0)) (fun X14607 aH oO h => ?_) ?_
          ·refine E_block ?_
           refine E_joinC h (fun (s : Unit) e w => ∃ (g : Gh) , Fr gI wI g w ∧ e 3 = p5 ∧ OB 2003 g w 24 (y4.1 : LoomMill) p5 ∧ e 4 = j3 ∧ RV g.m w (y4.2.1 : List LoomOrder) j3 ∧ e 18 = j1 ∧ RV g.m w (m4.1 : List Int) j1 ∧ e 20 = .int .i64 (d3) ∧ e 21 = d4 ∧ OB 2021 g w 24 (z3 : LoomMill) d4 ∧ OSF 2021 62100 0 g w 3 24 ((z3).Widths) d4 ∧ e 22 = .int .i64 (e7) ∧ e 24 = .int .i64 (u0)) (fun X14956 bH pO h => ?_) ?_
           ·obtain ⟨e9, hx, h⟩ := bsome h
            refine E_join (fun e w => ∃ (g : Gh) , Fr gI wI g w ∧ e 3 = p5 ∧ OB 2003 g w 24 (y4.1 : LoomMill) p5 ∧ e 4 = j3 ∧ RV g.m w (y4.2.1 : List LoomOrder) j3 ∧ e 18 = j1 ∧ RV g.m w (m4.1 : List Int) j1 ∧ e 20 = .int .i64 (d3) ∧ e 21 = d4 ∧ OB 2021 g w 24 (z3 : LoomMill) d4 ∧ OSF 2021 62100 0 g w 3 24 ((z3).Widths) d4 ∧ e 22 = .int .i64 (e7) ∧ e 24 = .int .i64 (u0) ∧ e 258 = .bool (e9)) (fun Q' hQ => ?_) (fun iW cZ hR => ?_)
            ·replace h := hx
             clear hx
             obtain ⟨x6, zA, h⟩ := bsome h
             have tQ := PT_idx p4 zA
             refine L_load (x := .tmp 230) Try.isAgg3 Try.sizeOf3 tQ fun dZ uQ uB => ?_
             obtain rfl := RV_int.1 uQ
             rcases csome h with ⟨o3, h⟩ | ⟨o3, h⟩
             ·refine E_drawL (g := iC) (n := 31) [] [0, 1, 2, 3, 4, 5, 6, 7, 8, 9, 10, 11, 12, 13, 14, 15, 16, 17, 18, 19, 20, 21, 22, 23, 24, 25, 26, 27, 28, 29, 30] rfl mixed (by kernel_rfl) trivial ?_
              refine L_pur (c := j1) rfl rfl .plain (fun _ _ hd => P_move i6) ?_
              refine L_pur (c := .int .i64 (u0)) rfl rfl .plain (fun _ _ hd => P_move q5) ?_
              refine L_pur (c := ePtr j1 u0 1) rfl rfl .plain (fun _ _ hd => P_indexAddr (α := Int) Try.underlying22 Try.sizeOf3 rfl p4 rfl zA) ?_
              refine L_ld (c := .int .i64 (x6)) rfl rfl .plain (fun _ _ h => h.ch) uB rfl ?_
              refine L_pur (c := .bool ((decide (x6 < (0 : Int))))) rfl rfl .plain (fun _ _ hd => P_int rfl rfl rfl) ?_
              refine L_pur (c := .bool ((decide (x6 < (0 : Int))))) rfl rfl .plain (fun _ _ hd => P_move rfl) ?_
              refine L_skip rfl (.no2 rfl rfl o3 rfl) ?_
              refine L_skip rfl (.no2 rfl rfl o3 rfl) ?_
              refine L_skip rfl (.no2 rfl rfl o3 rfl) ?_
              refine L_skip rfl (.no2 rfl rfl o3 rfl) ?_
              refine L_skip rfl (.no2 rfl rfl o3 rfl) ?_
              refine L_skip rfl (.no2 rfl rfl o3 rfl) ?_
              refine L_skip rfl (.no2 rfl rfl o3 rfl) ?_
              refine L_skip rfl (.no2 rfl rfl o3 rfl) ?_
              refine L_pur (c := .bool true) rfl rfl .plain (fun _ _ hd => P_pick (b := (decide (x6 < (0 : Int)))) rfl (pick_t o3 rfl)) ?_
              refine L_dead (fun _ => rfl) 16 rfl ?_
              refine L_nil fun vQ eZ hall => ?_
              have hs := hall.1
              have hfr := hfr.ext hs
              have t5 := t5.ext hs
              have d7 := d7.ext hs
              have p4 := p4.ext hs
              have u21_0_13904 := u21_0_13904.ext hs
              have v6 := v6.ext hs
              clear hs hall
              refine EL_nil ?_
              obtain rfl := sinj h
              exact hQ _ _ ⟨vQ, hfr, q8, t5, dB, d7, i6, p4, pA, qA, v6, u21_0_13904, rA, q5, rfl⟩
             ·obtain ⟨z6, vB, h⟩ := bsome h
              have xQ := PT_idx p4 vB
              refine L_load (x := .tmp 236) Try.isAgg3 Try.sizeOf3 xQ fun gZ yQ tC => ?_
              obtain rfl := RV_int.1 yQ
              refine L_loadO (x := .tmp 238) part_LoomMill_0.1 Try.isAgg22 Try.sizeOf22 t5 fun kF lF uC => ?_
              rcases csome h with ⟨l6, h⟩ | ⟨l6, h⟩
              ·refine E_drawL (g := iC) (n := 31) [] [0, 1, 2, 3, 4, 5, 6, 7, 8, 9, 10, 11, 12, 13, 14, 15, 16, 17, 18, 19, 20, 21, 22, 23, 24, 25, 26, 27, 28, 29, 30] rfl mixed (by kernel_rfl) trivial ?_
               refine L_pur (c := j1) rfl rfl .plain (fun _ _ hd => P_move i6) ?_
               refine L_pur (c := .int .i64 (u0)) rfl rfl .plain (fun _ _ hd => P_move q5) ?_
               refine L_pur (c := ePtr j1 u0 1) rfl rfl .plain (fun _ _ hd => P_indexAddr (α := Int) Try.underlying22 Try.sizeOf3 rfl p4 rfl zA) ?_
               refine L_ld (c := .int .i64 (x6)) rfl rfl .plain (fun _ _ h => h.ch) uB rfl ?_
               refine L_pur (c := .bool ((decide (x6 < (0 : Int))))) rfl rfl .plain (fun _ _ hd => P_int rfl rfl rfl) ?_
               refine L_pur (c := .bool ((decide (x6 < (0 : Int))))) rfl rfl .plain (fun _ _ hd => P_move rfl) ?_
               refine L_pur (c := j1) rfl rfl (.yes2 rfl rfl o3) (fun _ _ hd => P_move i6) ?_
               refine L_pur (c := .int .i64 (u0)) rfl rfl (.yes2 rfl rfl o3) (fun _ _ hd => P_move q5) ?_
               refine L_pur (c := ePtr j1 u0 1) rfl rfl (.yes2 rfl rfl o3) (fun _ _ hd => P_indexAddr (α := Int) Try.underlying22 Try.sizeOf3 rfl p4 rfl vB) ?_
               refine L_ld (c := .int .i64 (z6)) rfl rfl (.yes2 rfl rfl o3) (fun _ _ h => h.ch) tC rfl ?_
               refine L_pur (c := fPtr p5 0) rfl rfl (.yes2 rfl rfl o3) (fun _ _ hd => P_fieldAddr at_24_0 q8 (OB.ptr t5)) ?_
               refine L_ld (c := kF) rfl rfl (.yes2 rfl rfl o3) (fun _ _ h => ⟨h.ch, fun b hb _ => h.below.block b hb⟩) uC rfl ?_
               refine L_pur (c := .int .i64 (((y4.1).Widths).length : Int)) rfl rfl (.yes2 rfl rfl o3) (fun _ _ hd => P_len Try.underlying22 rfl lF) ?_
               refine L_pur (c := .bool ((decide (z6 ≥ (((y4.1).Widths).length : Int))))) rfl rfl (.yes2 rfl rfl o3) (fun _ _ hd => P_int rfl rfl rfl) ?_
               refine L_pur (c := .bool ((decide (z6 ≥ (((y4.1).Widths).length : Int))))) rfl rfl .plain (fun _ _ hd => P_pick (b := (decide (x6 < (0 : Int)))) rfl (pick_f o3 rfl)) ?_
               refine L_pur (c := .bool ((decide (z6 ≥ (((y4.1).Widths).length : Int))))) rfl rfl .plain (fun _ _ hd => P_move rfl) ?_
               refine L_skip rfl (.no2 rfl rfl l6 rfl) ?_
               refine L_skip rfl (.no2 rfl rfl l6 rfl) ?_
               refine L_skip rfl (.no2 rfl rfl l6 rfl) ?_
               refine L_dead (fun _ => rfl) 10 rfl ?_
               refine L_skip rfl (.no2 rfl rfl l6 rfl) ?_
               refine L_pur (c := .bool true) rfl rfl .plain (fun _ _ hd => P_pick (b := (decide (z6 ≥ (((y4.1).Widths).length : Int)))) rfl (pick_t l6 rfl)) ?_
               refine L_nil fun zQ hZ hall => ?_
               have hs := hall.1
               have hfr := hfr.ext hs
               have t5 := t5.ext hs
               have d7 := d7.ext hs
               have p4 := p4.ext hs
               have u21_0_13904 := u21_0_13904.ext hs
               have v6 := v6.ext hs
               clear hs hall
               refine EL_nil ?_
               obtain rfl := sinj h
               exact hQ _ _ ⟨zQ, hfr, q8, t5, dB, d7, i6, p4, pA, qA, v6, u21_0_13904, rA, q5, rfl⟩
              ·rcases csome h with ⟨i5, h⟩ | ⟨i5, h⟩
               ·obtain ⟨uA, gG, h⟩ := bsome h
                have aR := PT_idx p4 gG
                refine L_load (x := .tmp 249) Try.isAgg3 Try.sizeOf3 aR fun iZ bR qO => ?_
                obtain rfl := RV_int.1 bR
                obtain ⟨vA, hG, h⟩ := bsome h
                have cR := PT_idx p4 hG
                refine L_load (x := .tmp 254) Try.isAgg3 Try.sizeOf3 cR fun jZ dR rO => ?_
                obtain rfl := RV_int.1 dR
                refine E_drawL (g := iC) (n := 31) [] [0, 1, 2, 3, 4, 5, 6, 7, 8, 9, 10, 11, 12, 13, 14, 15, 16, 17, 18, 19, 20, 21, 22, 23, 24, 25, 26, 27, 28, 29, 30] rfl mixed (by kernel_rfl) trivial ?_
                refine L_pur (c := j1) rfl rfl .plain (fun _ _ hd => P_move i6) ?_
                refine L_pur (c := .int .i64 (u0)) rfl rfl .plain (fun _ _ hd => P_move q5) ?_
                refine L_pur (c := ePtr j1 u0 1) rfl rfl .plain (fun _ _ hd => P_indexAddr (α := Int) Try.underlying22 Try.sizeOf3 rfl p4 rfl zA) ?_
                refine L_ld (c := .int .i64 (x6)) rfl rfl .plain (fun _ _ h => h.ch) uB rfl ?_
                refine L_pur (c := .bool ((decide (x6 < (0 : Int))))) rfl rfl .plain (fun _ _ hd => P_int rfl rfl rfl) ?_
                refine L_pur (c := .bool ((decide (x6 < (0 : Int))))) rfl rfl .plain (fun _ _ hd => P_move rfl) ?_
                refine L_pur (c := j1) rfl rfl (.yes2 rfl rfl o3) (fun _ _ hd => P_move i6) ?_
                refine L_pur (c := .int .i64 (u0)) rfl rfl (.yes2 rfl rfl o3) (fun _ _ hd => P_move q5) ?_
                refine L_pur (c := ePtr j1 u0 1) rfl rfl (.yes2 rfl rfl o3) (fun _ _ hd => P_indexAddr (α := Int) Try.underlying22 Try.sizeOf3 rfl p4 rfl vB) ?_
                refine L_ld (c := .int .i64 (z6)) rfl rfl (.yes2 rfl rfl o3) (fun _ _ h => h.ch) tC rfl ?_
                refine L_pur (c := fPtr p5 0) rfl rfl (.yes2 rfl rfl o3) (fun _ _ hd => P_fieldAddr at_24_0 q8 (OB.ptr t5)) ?_
                refine L_ld (c := kF) rfl rfl (.yes2 rfl rfl o3) (fun _ _ h => ⟨h.ch, fun b hb _ => h.below.block b hb⟩) uC rfl ?_
                refine L_pur (c := .int .i64 (((y4.1).Widths).length : Int)) rfl rfl (.yes2 rfl rfl o3) (fun _ _ hd => P_len Try.underlying22 rfl lF) ?_
                refine L_pur (c := .bool ((decide (z6 ≥ (((y4.1).Widths).length : Int))))) rfl rfl (.yes2 rfl rfl o3) (fun _ _ hd => P_int rfl rfl rfl) ?_
                refine L_pur (c := .bool ((decide (z6 ≥ (((y4.1).Widths).length : Int))))) rfl rfl .plain (fun _ _ hd => P_pick (b := (decide (x6 < (0 : Int)))) rfl (pick_f o3 rfl)) ?_
                refine L_pur (c := .bool ((decide (z6 ≥ (((y4.1).Widths).length : Int))))) rfl rfl .plain (fun _ _ hd => P_move rfl) ?_
                refine L_pur (c := .int .i64 (u0)) rfl rfl (.yes2 rfl rfl l6) (fun _ _ hd => P_move q5) ?_
                refine L_pur (c := .bool ((decide (u0 > (0 : Int))))) rfl rfl (.yes2 rfl rfl l6) (fun _ _ hd => P_int rfl rfl rfl) ?_
                refine L_pur (c := .bool ((decide (u0 > (0 : Int))))) rfl rfl (.yes2 rfl rfl l6) (fun _ _ hd => P_move rfl) ?_
                refine L_pur (c := j1) rfl rfl (.yes2 rfl rfl i5) (fun _ _ hd => P_move i6) ?_
                refine L_pur (c := .int .i64 (u0)) rfl rfl (.yes2 rfl rfl i5) (fun _ _ hd => P_move q5) ?_
                refine L_pur (c := ePtr j1 u0 1) rfl rfl (.yes2 rfl rfl i5) (fun _ _ hd => P_indexAddr (α := Int) Try.underlying22 Try.sizeOf3 rfl p4 rfl gG) ?_
                refine L_ld (c := .int .i64 (uA)) rfl rfl (.yes2 rfl rfl i5) (fun _ _ h => h.ch) qO rfl ?_
                refine L_pur (c := j1) rfl rfl (.yes2 rfl rfl i5) (fun _ _ hd => P_move i6) ?_
                refine L_pur (c := .int .i64 (u0)) rfl rfl (.yes2 rfl rfl i5) (fun _ _ hd => P_move q5) ?_
                refine L_pur (c := .int .i64 ((w64 (u0 - (1 : Int))))) rfl rfl (.yes2 rfl rfl i5) (fun _ _ hd => P_int rfl rfl rfl) ?_
                refine L_pur (c := ePtr j1 (w64 (u0 - (1 : Int))) 1) rfl rfl (.yes2 rfl rfl i5) (fun _ _ hd => P_indexAddr (α := Int) Try.underlying22 Try.sizeOf3 rfl p4 rfl hG) ?_
                refine L_ld (c := .int .i64 (vA)) rfl rfl (.yes2 rfl rfl i5) (fun _ _ h => h.ch) rO rfl ?_
                refine L_pur (c := .bool ((decide (uA ≤ vA)))) rfl rfl (.yes2 rfl rfl i5) (fun _ _ hd => P_int rfl rfl rfl) ?_
                refine L_pur (c := .bool ((decide (uA ≤ vA)))) rfl rfl (.yes2 rfl rfl l6) (fun _ _ hd => P_pick (b := (decide (u0 > (0 : Int)))) rfl (pick_t i5 rfl)) ?_
                refine L_pur (c := .bool ((decide (uA ≤ vA)))) rfl rfl .plain (fun _ _ hd => P_pick (b := (decide (z6 ≥ (((y4.1).Widths).length : Int)))) rfl (pick_f l6 rfl)) ?_
                refine L_nil fun eR kZ hall => ?_
                have hs := hall.1
                have hfr := hfr.ext hs
                have t5 := t5.ext hs
                have d7 := d7.ext hs
                have p4 := p4.ext hs
                have u21_0_13904 := u21_0_13904.ext hs
                have v6 := v6.ext hs
                clear hs hall
                refine EL_nil ?_
                obtain rfl := sinj h
                exact hQ _ _ ⟨eR, hfr, q8, t5, dB, d7, i6, p4, pA, qA, v6, u21_0_13904, rA, q5, rfl⟩
               ·refine E_drawL (g := iC) (n := 31) [] [0, 1, 2, 3, 4, 5, 6, 7, 8, 9, 10, 11, 12, 13, 14, 15, 16, 17, 18, 19, 20, 21, 22, 23, 24, 25, 26, 27, 28, 29, 30] rfl mixed (by kernel_rfl) trivial ?_
                refine L_pur (c := j1) rfl rfl .plain (fun _ _ hd => P_move i6) ?_
                refine L_pur (c := .int .i64 (u0)) rfl rfl .plain (fun _ _ hd => P_move q5) ?_
                refine L_pur (c := ePtr j1 u0 1) rfl rfl .plain (fun _ _ hd => P_indexAddr (α := Int) Try.underlying22 Try.sizeOf3 rfl p4 rfl zA) ?_
                refine L_ld (c := .int .i64 (x6)) rfl rfl .plain (fun _ _ h => h.ch) uB rfl ?_
                refine L_pur (c := .bool ((decide (x6 < (0 : Int))))) rfl rfl .plain (fun _ _ hd => P_int rfl rfl rfl) ?_
                refine L_pur (c := .bool ((decide (x6 < (0 : Int))))) rfl rfl .plain (fun _ _ hd => P_move rfl) ?_
                refine L_pur (c := j1) rfl rfl (.yes2 rfl rfl o3) (fun _ _ hd => P_move i6) ?_
                refine L_pur (c := .int .i64 (u0)) rfl rfl (.yes2 rfl rfl o3) (fun _ _ hd => P_move q5) ?_
                refine L_pur (c := ePtr j1 u0 1) rfl rfl (.yes2 rfl rfl o3) (fun _ _ hd => P_indexAddr (α := Int) Try.underlying22 Try.sizeOf3 rfl p4 rfl vB) ?_
                refine L_ld (c := .int .i64 (z6)) rfl rfl (.yes2 rfl rfl o3) (fun _ _ h => h.ch) tC rfl ?_
                refine L_pur (c := fPtr p5 0) rfl rfl (.yes2 rfl rfl o3) (fun _ _ hd => P_fieldAddr at_24_0 q8 (OB.ptr t5)) ?_
                refine L_ld (c := kF) rfl rfl (.yes2 rfl rfl o3) (fun _ _ h => ⟨h.ch, fun b hb _ => h.below.block b hb⟩) uC rfl ?_
                refine L_pur (c := .int .i64 (((y4.1).Widths).length : Int)) rfl rfl (.yes2 rfl rfl o3) (fun _ _ hd => P_len Try.underlying22 rfl lF) ?_
                refine L_pur (c := .bool ((decide (z6 ≥ (((y4.1).Widths).length : Int))))) rfl rfl (.yes2 rfl rfl o3) (fun _ _ hd => P_int rfl rfl rfl) ?_
                refine L_pur (c := .bool ((decide (z6 ≥ (((y4.1).Widths).length : Int))))) rfl rfl .plain (fun _ _ hd => P_pick (b := (decide (x6 < (0 : Int)))) rfl (pick_f o3 rfl)) ?_
                refine L_pur (c := .bool ((decide (z6 ≥ (((y4.1).Widths).length : Int))))) rfl rfl .plain (fun _ _ hd => P_move rfl) ?_
                refine L_pur (c := .int .i64 (u0)) rfl rfl (.yes2 rfl rfl l6) (fun _ _ hd => P_move q5) ?_
                refine L_pur (c := .bool ((decide (u0 > (0 : Int))))) rfl rfl (.yes2 rfl rfl l6) (fun _ _ hd => P_int rfl rfl rfl) ?_
                refine L_pur (c := .bool ((decide (u0 > (0 : Int))))) rfl rfl (.yes2 rfl rfl l6) (fun _ _ hd => P_move rfl) ?_
                refine L_skip rfl (.no2 rfl rfl i5 rfl) ?_
                refine L_skip rfl (.no2 rfl rfl i5 rfl) ?_
                refine L_skip rfl (.no2 rfl rfl i5 rfl) ?_
                refine L_skip rfl (.no2 rfl rfl i5 rfl) ?_
                refine L_skip rfl (.no2 rfl rfl i5 rfl) ?_
                refine L_skip rfl (.no2 rfl rfl i5 rfl) ?_
                refine L_skip rfl (.no2 rfl rfl i5 rfl) ?_
                refine L_skip rfl (.no2 rfl rfl i5 rfl) ?_
                refine L_skip rfl (.no2 rfl rfl i5 rfl) ?_
                refine L_skip rfl (.no2 rfl rfl i5 rfl) ?_
                refine L_pur (c := .bool false) rfl rfl (.yes2 rfl rfl l6) (fun _ _ hd => P_pick (b := (decide (u0 > (0 : Int)))) rfl (pick_f i5 rfl)) ?_
                refine L_pur (c := .bool false) rfl rfl .plain (fun _ _ hd => P_pick (b := (decide (z6 ≥ (((y4.1).Widths).length : Int)))) rfl (pick_f l6 rfl)) ?_
                refine L_nil fun gR lZ hall => ?_
                have hs := hall.1
                have hfr := hfr.ext hs
                have t5 := t5.ext hs
                have d7 := d7.ext hs
                have p4 := p4.ext hs
                have u21_0_13904 := u21_0_13904.ext hs
                have v6 := v6.ext hs
                clear hs hall
                refine EL_nil ?_
                obtain rfl := sinj h
                exact hQ _ _ ⟨gR, hfr, q8, t5, dB, d7, i6, p4, pA, qA, v6, u21_0_13904, rA, q5, rfl⟩
            ·clear hx
             obtain ⟨iR, hfr, xK, yK, zK, aL, oI, pI, qI, rI, sI, u21_0_15303, tI, uI, jC⟩ := hR
             rcases csome h with ⟨vC, h⟩ | ⟨vC, h⟩
             ·refine E_cond_true (Eq.trans (show ev _ _ = .bool (e9) from jC) (congrArg Value.bool vC)) ?_
              refine E_seq (E_region (EL_at (.bool false) rfl rfl ?_))
              refine EL_nil (thn_n (E_ret (thn_r ?_)))
              refine blk_r ?_
              refine thn_r ?_
              refine thn_r ?_
              refine blk_r ?_
              refine thn_r ?_
              refine blk_r ?_
              refine thn_r ?_
              refine thn_r ?_
              refine blk_r ?_
              refine thn_r ?_
              obtain rfl := sinj h
              exact end1 rfl rfl (show _ = .bool false from rfl) ⟨_, hfr, rfl⟩
             ·refine E_cond_false (Eq.trans (show ev _ _ = .bool (e9) from jC) (congrArg Value.bool vC)) ?_
              exact E_skip (thn_n (pO () _ _ ⟨iR, hfr, xK, yK, zK, aL, oI, pI, qI, rI, sI, u21_0_15303, tI, uI⟩ h))
           ·rintro _ jW mZ ⟨vI, hfr, bL, cL, dL, eL, rD, nB, xI, yI, zI, u21_0_15305, aJ, sD⟩ h
            refine E_region (EL_mv aJ rfl ?_)
            refine EL_mv rD rfl ?_
            refine EL_mv sD rfl ?_
            obtain ⟨iE, iG, h⟩ := bsome h
            refine EL_pur (v := ePtr j1 u0 1) (P_indexAddr (α := Int) Try.underlying22 Try.sizeOf3 rfl nB rfl iG) .plain rfl ?_
            have jR := PT_idx nB iG
            refine EL_do .plain rfl (D_load (g := vI) Try.isAgg3 Try.sizeOf3 rfl jR fun nZ kR => ?_)
            obtain rfl := RV_int.1 kR
            refine EL_pur (v := .int .u64 (wu64 iE)) (P_intu64 Try.underlying3 Try.underlying77 rfl) .plain rfl ?_
            obtain ⟨tA, sO, h⟩ := bsome h
            refine EL_pur (v := .int .i64 (tA)) (P_shlu rfl rfl sO) .plain rfl ?_
            refine EL_in (.int .i64 ((bit64 .or e7 tA))) rfl rfl rfl rfl ?_
            refine EL_at (.int .i64 ((bit64 .or e7 tA))) rfl rfl ?_
            exact EL_nil (blk_n (thn_n (oO ((bit64 .or e7 tA)) _ _ ⟨vI, hfr, bL, cL, dL, eL, rD, nB, xI, yI, zI, u21_0_15305, rfl, sD⟩ h)))
          ·rintro iB kW oZ ⟨lR, hfr, gL, iL, jL, kL, bJ, cJ, dJ, eJ, gJ, u21_0_15310, iJ, jJ⟩ h
           refine E_region (EL_mv jJ rfl ?_)
           refine EL_in (.int .i64 ((w64 (u0 + (1 : Int))))) rfl rfl rfl rfl ?_
           refine EL_at (.int .i64 ((w64 (u0 + (1 : Int))))) rfl rfl ?_
           exact EL_nil (thn_n (mO (iB, (w64 (u0 + (1 : Int)))) _ _ ⟨lR, hfr, gL, iL, jL, kL, bJ, cJ, dJ, eJ, gJ, u21_0_15310, iJ, rfl⟩ h))
        ·rintro x5 lW pZ ⟨mF, hfr, nF, oF, pF, qF, tD, uD, vD, xD, oB, u21_0_15311, kJ⟩ h
         refine E_joinC h (fun (s : Unit) e w => ∃ (g : Gh) , Fr gI wI g w ∧ e 3 = p5 ∧ OB 2003 g w 24 (y4.1 : LoomMill) p5 ∧ e 4 = j3 ∧ RV g.m w (y4.2.1 : List LoomOrder) j3 ∧ e 18 = j1 ∧ RV g.m w (m4.1 : List Int) j1 ∧ e 20 = .int .i64 (d3) ∧ e 21 = d4 ∧ OB 2021 g w 24 (z3 : LoomMill) d4 ∧ OSF 2021 62100 0 g w 3 24 ((z3).Widths) d4 ∧ e 22 = .int .i64 (x5)) (fun X15315 xG tO h => ?_) ?_
         ·refine E_seq (E_region (EL_pur (v := fPtr d4 0) (P_fieldAddr at_24_0 xD (OB.ptr oB)) .plain rfl ?_))
          refine EL_do .plain rfl (D_loadFS (g := mF) part_LoomMill_0.1 Try.isAgg22 Try.sizeOf22 rfl oB u21_0_15311 fun qZ mR o15317 => ?_)
          refine EL_pur (v := .int .i64 (((z3).Widths).length : Int)) (P_len Try.underlying22 rfl mR) .plain rfl ?_
          refine EL_in (.bool (((((z3).Widths).length : Int) == (0 : Int)))) rfl rfl rfl rfl ?_
          refine EL_nil (thn_n ?_)
          rcases csome h with ⟨xC, h⟩ | ⟨xC, h⟩
          ·refine E_ct xC rfl ?_
           refine E_exit ?_
           refine thn_e ?_
           refine blk_hit ?_
           exact thn_n (cG () _ _ ⟨mF, hfr, nF, oF, pF, qF, tD, uD, vD⟩ h)
          ·refine E_cf xC rfl ?_
           exact E_skip (thn_n (tO () _ _ ⟨mF, hfr, nF, oF, pF, qF, tD, uD, vD, xD, oB, u21_0_15311, kJ⟩ h))
         ·rintro _ mW rZ ⟨nR, hfr, lA, t8, n9, o8, a9, c8, p8, yD, dA, u21_0_15319, zD⟩ h
          refine E_seq (L_loadO0 (x := .tmp 21) Try.isAgg24 Try.sizeOf24 dA fun lJ oR uO => ?_)
          obtain ⟨sA, vO, h⟩ := bsome h
          obtain ⟨z4, xO, h⟩ := bsome h
          refine E_drawL (g := nR) (n := 9) [(2, (fun v g w => RV g.m w sA v)), (3, (fun v g w => ∃ y0 y1 : Value, v = .tuple #[y0, y1] ∧ RV g.m w (z4.1 : List LoomRun) y0 ∧ y1 = .int .i64 (z4.2)))] [0, 1, 2, 3, 4, 5, 6, 7, 8] rfl mixed (by kernel_rfl) (⟨fun _ => up_rv, fun _ => (up_ex fun _ => (up_ex fun _ => (up_and (up_eq _) (up_and up_rv (up_eq _))))), trivial⟩) ?_
          refine L_ld (c := lJ) rfl rfl .plain (fun _ _ h => ⟨h.ch, fun b hb _ => h.below.block b hb⟩) uO yD ?_
          refine L_pur (c := j3) rfl rfl .plain (fun _ _ hd => P_move n9) ?_
          refine L_do (φ := fun v g w => RV g.m w sA v) rfl rfl .plain (fun g w hd => D_call (g := g) (vs := [j3]) en16 (.cons rfl .nil) (wk16 (o8.ext hd.1) vO) fun g' w' v hs hr => ⟨g', hs, hr⟩) (fun rF hv => ?_)
          obtain ⟨_, _, _, rq15321⟩ := hv
          refine L_do (φ := fun v g w => ∃ y0 y1 : Value, v = .tuple #[y0, y1] ∧ RV g.m w (z4.1 : List LoomRun) y0 ∧ y1 = .int .i64 (z4.2)) rfl rfl .plain (fun g w hd => D_call (g := g) (vs := [lJ, rF]) en17 (.cons rfl (.cons rfl .nil)) (wk17 (oR.ext hd.1) (word (A := fun g w => RV g.m w sA rF) 2 rfl rfl (deps_of hd)) xO) fun g' w' v hs hr => ⟨g', hs, hr⟩) (fun sZ hv => ?_)
          obtain ⟨_, _, _, mA, _, rfl, jV, rfl⟩ := hv
          refine L_pur (c := .tuple #[mA, .int .i64 (z4.2)]) rfl rfl .plain (fun _ _ hd => P_move rfl) ?_
          refine L_pur (c := mA) rfl rfl .plain (fun _ _ hd => P_extract rfl rfl) ?_
          refine L_pur (c := .int .i64 (z4.2)) rfl rfl .plain (fun _ _ hd => P_extract rfl rfl) ?_
          refine L_pur (c := mA) rfl rfl .plain (fun _ _ hd => P_assign rfl) ?_
          refine L_pur (c := .int .i64 (z4.2)) rfl rfl .plain (fun _ _ hd => P_assign rfl) ?_
          refine L_nil fun aB tZ hall => ?_
          have hs := hall.1
          have hfr := hfr.ext hs
          have t8 := t8.ext hs
          have o8 := o8.ext hs
          have c8 := c8.ext hs
          have u21_0_15319 := u21_0_15319.ext hs
          have dA := dA.ext hs
          have uZ := (word_all (A := fun g w => RV g.m w sA rF) 2 rfl hall)
          have vZ := (tup2_0 (word_all (A := fun g w => ∃ y0 y1 : Value, Value.tuple #[mA, .int .i64 (z4.2)] = .tuple #[y0, y1] ∧ RV g.m w (z4.1 : List LoomRun) y0 ∧ y1 = .int .i64 (z4.2)) 3 rfl hall))
          have xZ := (tup2_0 (word_all (A := fun g w => ∃ y0 y1 : Value, Value.tuple #[mA, .int .i64 (z4.2)] = .tuple #[y0, y1] ∧ RV g.m w (z4.1 : List LoomRun) y0 ∧ y1 = .int .i64 (z4.2)) 3 rfl hall))
          clear hs hall
          refine EL_nil (thn_n ?_)
          obtain ⟨d9, hx, h⟩ := bsome h
          refine E_join (fun e w => ∃ (g : Gh) , Fr gI wI g w ∧ e 3 = p5 ∧ OB 2003 g w 24 (y4.1 : LoomMill) p5 ∧ e 4 = j3 ∧ RV g.m w (y4.2.1 : List LoomOrder) j3 ∧ e 18 = j1 ∧ RV g.m w (m4.1 : List Int) j1 ∧ e 20 = .int .i64 (d3) ∧ e 296 = .bool (d9)) (fun Q' hQ => ?_) (fun nW yZ hR => ?_)
          ·replace h := hx
           clear hx
           refine E_region (EL_pur (v := fPtr d4 0) (P_fieldAddr at_24_0 yD (OB.ptr dA)) .plain rfl ?_)
           refine EL_do .plain rfl (D_loadFS (g := aB) part_LoomMill_0.1 Try.isAgg22 Try.sizeOf22 rfl dA u21_0_15319 fun zZ pR o15348 => ?_)
           refine EL_pur (v := .int .i64 (((z3).Widths).length : Int)) (P_len Try.underlying22 rfl pR) .plain rfl ?_
           refine EL_mv a9 rfl ?_
           refine EL_pur (v := .int .i64 ((m4.1).length : Int)) (P_len Try.underlying22 rfl c8) .plain rfl ?_
           refine EL_pur (v := .bool ((decide ((((z3).Widths).length : Int) < ((m4.1).length : Int))))) (P_int rfl rfl rfl) .plain rfl ?_
           refine EL_pur (v := .bool ((decide ((((z3).Widths).length : Int) < ((m4.1).length : Int))))) (P_move rfl) .plain rfl ?_
           rcases csome h with ⟨o9, h⟩ | ⟨o9, h⟩
           ·refine EL_pur (v := .int .i64 (z4.2)) (P_move rfl) (.yes2 rfl rfl o9) rfl ?_
            refine EL_pur (v := .bool ((z4.2 != (9 : Int)))) (P_int rfl rfl rfl) (.yes2 rfl rfl o9) rfl ?_
            refine EL_pur (v := .bool ((z4.2 != (9 : Int)))) (P_pick (b := (decide ((((z3).Widths).length : Int) < ((m4.1).length : Int)))) rfl (pick_t o9 rfl)) .plain rfl ?_
            refine EL_mw (.bool ((z4.2 != (9 : Int)))) rfl rfl ?_
            rcases csome h with ⟨y6, h⟩ | ⟨y6, h⟩
            ·refine EL_skip (.no2 rfl rfl y6 rfl) rfl ?_
             refine EL_skip (.no2 rfl rfl y6 rfl) rfl ?_
             refine EL_skip (.no2 rfl rfl y6 rfl) rfl ?_
             refine EL_skip (.no2 rfl rfl y6 rfl) rfl ?_
             refine EL_skip (.off rfl rfl) rfl ?_
             refine EL_skip (.off rfl rfl) rfl ?_
             refine EL_skip (.no2 rfl rfl y6 rfl) rfl ?_
             refine EL_pur (v := .bool true) (P_pick (b := (z4.2 != (9 : Int))) rfl (pick_t y6 rfl)) .plain rfl ?_
             refine EL_nil ?_
             obtain rfl := sinj h
             exact hQ _ _ ⟨aB, hfr, lA, t8, n9, o8, a9, c8, p8, rfl⟩
            ·refine EL_pur (v := .int .i64 (d3)) (P_move p8) (.yes2 rfl rfl y6) rfl ?_
             refine EL_pur (v := .int .i64 (x5)) (P_move zD) (.yes2 rfl rfl y6) rfl ?_
             refine EL_pur (v := .bool ((d3 == x5))) (P_int rfl rfl rfl) (.yes2 rfl rfl y6) rfl ?_
             refine EL_pur (v := .bool ((d3 == x5))) (P_move rfl) (.yes2 rfl rfl y6) rfl ?_
             rcases csome h with ⟨p9, h⟩ | ⟨p9, h⟩
             ·refine EL_pur (v := .int .i64 (z4.2)) (P_move rfl) (.yes2 rfl rfl p9) rfl ?_
              refine EL_pur (v := .bool ((z4.2 != (0 : Int)))) (P_int rfl rfl rfl) (.yes2 rfl rfl p9) rfl ?_
              refine EL_pur (v := .bool ((z4.2 != (0 : Int)))) (P_pick (b := (d3 == x5)) rfl (pick_t p9 rfl)) (.yes2 rfl rfl y6) rfl ?_
              refine EL_pur (v := .bool ((z4.2 != (0 : Int)))) (P_pick (b := (z4.2 != (9 : Int))) rfl (pick_f y6 rfl)) .plain rfl ?_
              refine EL_nil ?_
              obtain rfl := sinj h
              exact hQ _ _ ⟨aB, hfr, lA, t8, n9, o8, a9, c8, p8, rfl⟩
             ·refine EL_skip (.no2 rfl rfl p9 rfl) rfl ?_
              refine EL_skip (.no2 rfl rfl p9 rfl) rfl ?_
              refine EL_pur (v := .bool false) (P_pick (b := (d3 == x5)) rfl (pick_f p9 rfl)) (.yes2 rfl rfl y6) rfl ?_
              refine EL_pur (v := .bool false) (P_pick (b := (z4.2 != (9 : Int))) rfl (pick_f y6 rfl)) .plain rfl ?_
              refine EL_nil ?_
              obtain rfl := sinj h
              exact hQ _ _ ⟨aB, hfr, lA, t8, n9, o8, a9, c8, p8, rfl⟩
           ·refine EL_skip (.no2 rfl rfl o9 rfl) rfl ?_
            refine EL_skip (.no2 rfl rfl o9 rfl) rfl ?_
            refine EL_pur (v := .bool false) (P_pick (b := (decide ((((z3).Widths).length : Int) < ((m4.1).length : Int)))) rfl (pick_f o9 rfl)) .plain rfl ?_
            refine EL_mw (.bool false) rfl rfl ?_
            refine EL_pur (v := .int .i64 (d3)) (P_move p8) (.yes2 rfl rfl rfl) rfl ?_
            refine EL_pur (v := .int .i64 (x5)) (P_move zD) (.yes2 rfl rfl rfl) rfl ?_
            refine EL_pur (v := .bool ((d3 == x5))) (P_int rfl rfl rfl) (.yes2 rfl rfl rfl) rfl ?_
            refine EL_pur (v := .bool ((d3 == x5))) (P_move rfl) (.yes2 rfl rfl rfl) rfl ?_
            rcases csome h with ⟨q9, h⟩ | ⟨q9, h⟩
            ·refine EL_pur (v := .int .i64 (z4.2)) (P_move rfl) (.yes2 rfl rfl q9) rfl ?_
             refine EL_pur (v := .bool ((z4.2 != (0 : Int)))) (P_int rfl rfl rfl) (.yes2 rfl rfl q9) rfl ?_
             refine EL_pur (v := .bool ((z4.2 != (0 : Int)))) (P_pick (b := (d3 == x5)) rfl (pick_t q9 rfl)) (.yes2 rfl rfl rfl) rfl ?_
             refine EL_pur (v := .bool ((z4.2 != (0 : Int)))) (P_pick (b := false) rfl (pick_f rfl rfl)) .plain rfl ?_
             refine EL_nil ?_
             obtain rfl := sinj h
             exact hQ _ _ ⟨aB, hfr, lA, t8, n9, o8, a9, c8, p8, rfl⟩
            ·refine EL_skip (.no2 rfl rfl q9 rfl) rfl ?_
             refine EL_skip (.no2 rfl rfl q9 rfl) rfl ?_
             refine EL_pur (v := .bool false) (P_pick (b := (d3 == x5)) rfl (pick_f q9 rfl)) (.yes2 rfl rfl rfl) rfl ?_
             refine EL_pur (v := .bool false) (P_pick (b := false) rfl (pick_f rfl rfl)) .plain rfl ?_
             refine EL_nil ?_
             obtain rfl := sinj h
             exact hQ _ _ ⟨aB, hfr, lA, t8, n9, o8, a9, c8, p8, rfl⟩
          ·clear hx
           obtain ⟨qR, hfr, lL, mL, nL, oL, mJ, nJ, oJ, kC⟩ := hR
           rcases csome h with ⟨yC, h⟩ | ⟨yC, h⟩
           ·refine E_cond_true (Eq.trans (show ev _ _ = .bool (d9) from kC) (congrArg Value.bool yC)) ?_
            refine E_seq (E_region (EL_at (.bool false) rfl rfl ?_))
            refine EL_nil (thn_n (E_ret (blk_r ?_)))
            refine thn_r ?_
            refine thn_r ?_
            refine blk_r ?_
            refine thn_r ?_
            obtain rfl := sinj h
            exact end1 rfl rfl (show _ = .bool false from rfl) ⟨_, hfr, rfl⟩
           ·refine E_cond_false (Eq.trans (show ev _ _ = .bool (d9) from kC) (congrArg Value.bool yC)) ?_
            exact E_skip (blk_n (thn_n (cG () _ _ ⟨qR, hfr, lL, mL, nL, oL, mJ, nJ, oJ⟩ h)))
      ·rintro _ oW a00 ⟨rR, hfr, pL, qL, rL, tL, pJ, qJ, rJ⟩ h
       refine E_region (EL_mv rJ rfl ?_)
       refine EL_in (.int .i64 ((w64 (d3 + (1 : Int))))) rfl rfl rfl rfl ?_
       refine EL_at (.int .i64 ((w64 (d3 + (1 : Int))))) rfl rfl ?_
       exact EL_nil (thn_n (bQ ((w64 (d3 + (1 : Int)))) _ _ ⟨rR, hfr, pL, qL, rL, tL, pJ, qJ, rfl⟩ h))
    ·rintro _ pW b00 ⟨tR, hfr⟩ h
     refine E_seq (E_region ?_)
     obtain ⟨bC, yO, h⟩ := bsome h
     refine EL_do .plain rfl (D_call (g := tR) (vs := []) en14 .nil (wk14  yO) fun c00 qW d00 hs hr => ?_)
     have hfr := hfr.ext hs
     subst hr
     refine EL_at (.bool (bC)) rfl rfl ?_
     refine EL_nil (thn_n (E_ret ?_))
     obtain rfl := sinj h
     exact end1 rfl rfl (show _ = .bool (bC) from rfl) ⟨_, hfr, rfl⟩
end Go.Proofs.Ytnfjhdagbknlbaa
