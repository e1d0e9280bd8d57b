import Derived.Test.YtnfjhdagbknlbaaCode5
set_option maxRecDepth 8000
set_option maxHeartbeats 4000000
namespace Go.Proofs.Ytnfjhdagbknlbaa
open Go.RowKit
/-- griffe/griffelaw08.LoomSets -/
def f4 (x0 : LoomMill) (x1 : List LoomOrder) : Option (Bool) :=
 jn (σ := Unit) (fun (_ : Unit) =>
  (f15 x0).bind fun z8 =>
  (f16 x1).bind fun a9 =>
  (f23 z8 a9).bind fun o0 =>
  (f24 z8 a9).bind fun j1 =>
  (f25 z8 a9).bind fun j0 =>
  jn (σ := Unit) (fun (_ : Unit) =>
   jn (σ := Unit) (fun (_ : Unit) =>
    (f26 x0 x1).bind fun o3 =>
    (f27 x0 x1).bind fun z1 =>
    jn (σ := Unit) (fun (_ : Unit) =>
     jn (σ := Unit) (fun (_ : Unit) =>
      Option.bind (α := Bool) (
       bif (j1.2 == (0 : Int)) then
        (f29 x0 x1).bind fun jA =>
        (f28 (j1.1) jA).bind fun o7 =>
        bif o7 then
         (f14).bind fun t8 =>
         some (t8)
        else
         some (false)
       else
        some (false)
       ) fun d7 =>
      some (d7)
      ) fun kA =>
     Option.bind (α := Bool) (
      bif (!z1.2) then
       bif (j0.2 != (9 : Int)) then
        some (true)
       else
        bif (((j0.1).length : Int) != (0 : Int)) then
         some (true)
        else
         bif z1.2 then
          bif (j0.2 != (0 : Int)) then
           some (true)
          else
           (f28 (j0.1) (z1.1)).bind fun p7 =>
           some ((!p7))
         else
          some (false)
      else
       bif z1.2 then
        bif (j0.2 != (0 : Int)) then
         some (true)
        else
         (f28 (j0.1) (z1.1)).bind fun q7 =>
         some ((!q7))
       else
        some (false)
      ) fun r6 =>
     bif r6 then
      some (false)
     else
      kA ()
     ) fun lA =>
    Option.bind (α := Bool) (
     bif (!o3.2) then
      bif (o0.2 != (7 : Int)) then
       some (true)
      else
       bif (((o0.1).length : Int) != (0 : Int)) then
        some (true)
       else
        bif o3.2 then
         bif (o0.2 != (0 : Int)) then
          some (true)
         else
          (f28 (o0.1) (o3.1)).bind fun y158 =>
          some ((!y158))
        else
         some (false)
     else
      bif o3.2 then
       bif (o0.2 != (0 : Int)) then
        some (true)
       else
        (f28 (o0.1) (o3.1)).bind fun t7 =>
        some ((!t7))
      else
       some (false)
     ) fun t6 =>
    bif t6 then
     some (false)
    else
     lA ()
    ) fun qC =>
   (f20 x0 x1).bind fun c4 =>
   bif (c4 != (0 : Int)) then
    Option.bind (α := Bool) (
     bif (o0.2 == c4) then
      bif (j1.2 == c4) then
       bif (j0.2 == c4) then
        bif (((o0.1).length : Int) == (0 : Int)) then
         bif (((j1.1).length : Int) == (0 : Int)) then
          bif (((j0.1).length : Int) == (0 : Int)) then
           (f14).bind fun v8 =>
           some (v8)
          else
           some (false)
         else
          some (false)
        else
         some (false)
       else
        some (false)
      else
       some (false)
     else
      some (false)
     ) fun e7 =>
    some (e7)
   else
    qC ()
   ) fun k48 =>
  Option.bind (α := Bool) (
   (f18 z8 x0).bind fun p8 =>
   bif (!p8) then
    some (true)
   else
    (f19 a9 x1).bind fun m9 =>
    some ((!m9))
   ) fun z6 =>
  bif z6 then
   some (false)
  else
   k48 ()
  ) fun k8 =>
 (f12 x0 x1 ((4 : Int))).bind fun y11 =>
 bif y11 then
  (f14).bind fun n9 =>
  some (n9)
 else
  k8 ()
theorem wk4 {gI : Gh} {wI : World} {x0 : LoomMill} {x1 : List LoomOrder} {up0 : Value} (rp0 : RV gI.m wI x0 up0) {up1 : Value} (rp1 : RV gI.m wI x1 up1) {r : Bool} (h : f4 x0 x1 = some r) : Fn Try.prog 4 #[up0, up1] gI wI (fun _ _ v => v = .bool (r)) := by
 unfold f4 at h
 refine fn_of_E Try.func4 rfl (Nat.le_of_ble_eq_true rfl) fun g0 hm hfr => ?_
 have rp0 : RV g0.m wI x0 up0 := hm ▸ rp0
 have rp1 : RV g0.m wI x1 up1 := hm ▸ rp1
 show E _ 162 none _ _ _ _ _
 refine E_seq (E_region (EL_do .plain rfl (D_box (g := g0) rfl rp0 fun g1 w1 p1 hs q1 => ?_)))
 have hfr := hfr.ext hs
 have rp1 := rp1.ext hs
 refine EL_at (.bool false) rfl rfl ?_
 refine EL_nil (thn_n (E_joinC h (fun (s : Unit) e w => ∃ (g : Gh) , Fr gI wI g w ∧ e 1 = up1 ∧ RV g.m w (x1 : List LoomOrder) up1 ∧ e 2 = p1 ∧ PT g.m w (x0 : LoomMill) p1) (fun X8 k8 iE h => ?_) ?_))
 ·refine E_seq (E_region (EL_do .plain rfl (D_load (g := g1) Try.isAgg24 Try.sizeOf24 rfl q1 fun v9 r9 => ?_)))
  refine EL_mw up1 rfl rfl ?_
  obtain ⟨y11, aD, h⟩ := bsome h
  refine EL_do .plain rfl (D_call (g := g1) (vs := [v9, up1, .int .i64 (4)]) en12 (.cons rfl (.cons rfl (.cons rfl .nil))) (wk12 r9 rp1 aD) fun rC gG pH hs hr => ?_)
  have hfr := hfr.ext hs
  have rp1 := rp1.ext hs
  have q1 := q1.ext hs
  subst hr
  refine EL_nil (thn_n ?_)
  rcases csome h with ⟨i9, h⟩ | ⟨i9, h⟩
  ·refine E_ct i9 rfl ?_
   refine E_seq (E_region ?_)
   obtain ⟨n9, bD, h⟩ := bsome h
   refine EL_do .plain rfl (D_call (g := rC) (vs := []) en14 .nil (wk14  bD) fun qH hG sH hs hr => ?_)
   have hfr := hfr.ext hs
   subst hr
   refine EL_at (.bool (n9)) rfl rfl ?_
   refine EL_nil (thn_n (E_ret (thn_r ?_)))
   obtain rfl := sinj h
   exact end1 rfl rfl (show _ = .bool (n9) from rfl) ⟨_, hfr, rfl⟩
  ·refine E_cf i9 rfl ?_
   exact E_skip (thn_n (iE () _ _ ⟨rC, hfr, rfl, rp1, rfl, q1⟩ h))
 ·rintro _ iG tH ⟨sC, hfr, b8, j2, c8, z2⟩ h
  refine E_seq (E_region (EL_do .plain rfl (D_load (g := sC) Try.isAgg24 Try.sizeOf24 c8 z2 fun jE kE => ?_)))
  obtain ⟨z8, cD, h⟩ := bsome h
  refine EL_do .plain rfl (D_call (g := sC) (vs := [jE]) en15 (.cons rfl .nil) (wk15 kE cD) fun lE jG mE hs hr => ?_)
  have hfr := hfr.ext hs
  have j2 := j2.ext hs
  have z2 := z2.ext hs
  have b9 := hr
  refine EL_mv b8 rfl ?_
  obtain ⟨a9, dD, h⟩ := bsome h
  refine EL_do .plain rfl (D_call (g := lE) (vs := [up1]) en16 (.cons rfl .nil) (wk16 j2 dD) fun nE kG g7 hs hr => ?_)
  have hfr := hfr.ext hs
  have j2 := j2.ext hs
  have z2 := z2.ext hs
  have b9 := b9.ext hs
  have j6 := hr
  refine EL_do .plain rfl (D_allocOc (g := nE) 2005 (⟨[], 0⟩ : LoomMill) Try.zeroValue24 (fun m w => ⟨_, (rep_two rep_nil rep_int), rfl⟩) fun tC oE pE hs b21 cb => ?_)
  have hfr := hfr.stp hs
  have j2 := j2.stp hs
  have z2 := z2.stp hs
  have b9 := b9.stp hs
  have j6 := j6.stp hs
  have jF : OSF 2005 60500 0 tC oE 3 24 ([] : List Int) pE := cb.osf (by rfl)
  clear cb
  refine EL_do .plain rfl (D_storeOc (g := tC) (v := mE) Try.sizeOf24 rfl b21 rfl b9 fun uC uH hs b22 cb => ?_)
  clear cb
  have hfr := hfr.stp hs
  have j2 := j2.stp hs
  have z2 := z2.stp hs
  have j6 := j6.stp hs
  refine EL_at g7 rfl rfl ?_
  refine EL_nil (thn_n (E_seq (E_region (EL_do .plain rfl (D_loadO (g := uC) Try.isAgg24 Try.sizeOf24 rfl b22 fun qE rE => ?_)))))
  refine EL_mw g7 rfl rfl ?_
  obtain ⟨o0, eD, h⟩ := bsome h
  refine EL_do .plain rfl (D_call (g := uC) (vs := [qE, g7]) en23 (.cons rfl (.cons rfl .nil)) (wk23 rE j6 eD) fun vC lG vH hs hr => ?_)
  have hfr := hfr.ext hs
  have j2 := j2.ext hs
  have z2 := z2.ext hs
  have j6 := j6.ext hs
  have b22 := b22.ext hs
  obtain ⟨z3, kF, rfl, z5, rfl⟩ := hr
  refine EL_mw (.tuple #[z3, .int .i64 (o0.2)]) rfl rfl ?_
  refine EL_pur (v := z3) (P_extract rfl rfl) .plain rfl ?_
  refine EL_pur (v := .int .i64 (o0.2)) (P_extract rfl rfl) .plain rfl ?_
  refine EL_at z3 rfl rfl ?_
  refine EL_at (.int .i64 (o0.2)) rfl rfl ?_
  refine EL_nil (thn_n (E_seq (E_region (EL_do .plain rfl (D_loadO (g := vC) Try.isAgg24 Try.sizeOf24 rfl b22 fun sE tE => ?_)))))
  refine EL_mw g7 rfl rfl ?_
  obtain ⟨j1, gD, h⟩ := bsome h
  refine EL_do .plain rfl (D_call (g := vC) (vs := [sE, g7]) en24 (.cons rfl (.cons rfl .nil)) (wk24 tE j6 gD) fun xC mG xH hs hr => ?_)
  have hfr := hfr.ext hs
  have j2 := j2.ext hs
  have z2 := z2.ext hs
  have j6 := j6.ext hs
  have b22 := b22.ext hs
  have z5 := z5.ext hs
  obtain ⟨j3, lF, rfl, y6, rfl⟩ := hr
  refine EL_mw (.tuple #[j3, .int .i64 (j1.2)]) rfl rfl ?_
  refine EL_pur (v := j3) (P_extract rfl rfl) .plain rfl ?_
  refine EL_pur (v := .int .i64 (j1.2)) (P_extract rfl rfl) .plain rfl ?_
  refine EL_at j3 rfl rfl ?_
  refine EL_at (.int .i64 (j1.2)) rfl rfl ?_
  refine EL_nil (thn_n (E_seq (E_region (EL_do .plain rfl (D_loadO (g := xC) Try.isAgg24 Try.sizeOf24 rfl b22 fun uE vE => ?_)))))
  refine EL_mw g7 rfl rfl ?_
  obtain ⟨j0, iD, h⟩ := bsome h
  refine EL_do .plain rfl (D_call (g := xC) (vs := [uE, g7]) en25 (.cons rfl (.cons rfl .nil)) (wk25 vE j6 iD) fun mA nG yH hs hr => ?_)
  have hfr := hfr.ext hs
  have j2 := j2.ext hs
  have z2 := z2.ext hs
  have j6 := j6.ext hs
  have b22 := b22.ext hs
  have z5 := z5.ext hs
  have y6 := y6.ext hs
  obtain ⟨u3, mF, rfl, c7, rfl⟩ := hr
  refine EL_mw (.tuple #[u3, .int .i64 (j0.2)]) rfl rfl ?_
  refine EL_pur (v := u3) (P_extract rfl rfl) .plain rfl ?_
  refine EL_pur (v := .int .i64 (j0.2)) (P_extract rfl rfl) .plain rfl ?_
  refine EL_at u3 rfl rfl ?_
  refine EL_at (.int .i64 (j0.2)) rfl rfl ?_
  refine EL_nil (thn_n (E_joinC h (fun (s : Unit) e w => ∃ (g : Gh) , Fr gI wI g w ∧ e 1 = up1 ∧ RV g.m w (x1 : List LoomOrder) up1 ∧ e 2 = p1 ∧ PT g.m w (x0 : LoomMill) p1 ∧ e 7 = z3 ∧ RV g.m w (o0.1 : List Int) z3 ∧ e 8 = .int .i64 (o0.2) ∧ e 9 = j3 ∧ RV g.m w (j1.1 : List Int) j3 ∧ e 10 = .int .i64 (j1.2) ∧ e 11 = u3 ∧ RV g.m w (j0.1 : List Int) u3 ∧ e 12 = .int .i64 (j0.2)) (fun X48 k48 jD h => ?_) ?_))
  ·obtain ⟨z6, hx, h⟩ := bsome h
   refine E_join (fun e w => ∃ (g : Gh) , Fr gI wI g w ∧ e 1 = up1 ∧ RV g.m w (x1 : List LoomOrder) up1 ∧ e 2 = p1 ∧ PT g.m w (x0 : LoomMill) p1 ∧ e 7 = z3 ∧ RV g.m w (o0.1 : List Int) z3 ∧ e 8 = .int .i64 (o0.2) ∧ e 9 = j3 ∧ RV g.m w (j1.1 : List Int) j3 ∧ e 10 = .int .i64 (j1.2) ∧ e 11 = u3 ∧ RV g.m w (j0.1 : List Int) u3 ∧ e 12 = .int .i64 (j0.2) ∧ e 53 = .bool (z6)) (fun Q' hQ => ?_) (fun oG zH hR => ?_)
   ·replace h := hx
    clear hx
    refine E_region (EL_do .plain rfl (D_loadO (g := mA) Try.isAgg24 Try.sizeOf24 rfl b22 fun xE yE => ?_))
    refine EL_do .plain rfl (D_load (g := mA) Try.isAgg24 Try.sizeOf24 c8 z2 fun zE aF => ?_)
    obtain ⟨p8, kD, h⟩ := bsome h
    refine EL_do .plain rfl (D_call (g := mA) (vs := [xE, zE]) en18 (.cons rfl (.cons rfl .nil)) (wk18 yE aF kD) fun yC pG aI hs hr => ?_)
    have hfr := hfr.ext hs
    have j2 := j2.ext hs
    have z2 := z2.ext hs
    have j6 := j6.ext hs
    have z5 := z5.ext hs
    have y6 := y6.ext hs
    have c7 := c7.ext hs
    subst hr
    refine EL_pur (v := .bool (!p8)) (P_not rfl) .plain rfl ?_
    refine EL_mw (.bool (!p8)) rfl rfl ?_
    rcases csome h with ⟨u6, h⟩ | ⟨u6, h⟩
    ·refine EL_skip (.no2 rfl rfl u6 rfl) rfl ?_
     refine EL_skip (.no2 rfl rfl u6 rfl) rfl ?_
     refine EL_skip (.no2 rfl rfl u6 rfl) rfl ?_
     refine EL_skip (.no2 rfl rfl u6 rfl) rfl ?_
     refine EL_pur (v := .bool true) (P_pick (b := (!p8)) rfl (pick_t u6 rfl)) .plain rfl ?_
     refine EL_nil ?_
     obtain rfl := sinj h
     exact hQ _ _ ⟨yC, hfr, b8, j2, c8, z2, rfl, z5, rfl, rfl, y6, rfl, rfl, c7, rfl, rfl⟩
    ·refine EL_pur (v := g7) (P_move rfl) (.yes2 rfl rfl u6) rfl ?_
     refine EL_pur (v := up1) (P_move b8) (.yes2 rfl rfl u6) rfl ?_
     obtain ⟨m9, lD, h⟩ := bsome h
     refine EL_do (.yes2 rfl rfl u6) rfl (D_call (g := yC) (vs := [g7, up1]) en19 (.cons rfl (.cons rfl .nil)) (wk19 j6 j2 lD) fun bF qG bI hs hr => ?_)
     have hfr := hfr.ext hs
     have j2 := j2.ext hs
     have z2 := z2.ext hs
     have z5 := z5.ext hs
     have y6 := y6.ext hs
     have c7 := c7.ext hs
     subst hr
     refine EL_pur (v := .bool (!m9)) (P_not rfl) (.yes2 rfl rfl u6) rfl ?_
     refine EL_pur (v := .bool (!m9)) (P_pick (b := (!p8)) rfl (pick_f u6 rfl)) .plain rfl ?_
     refine EL_nil ?_
     obtain rfl := sinj h
     exact hQ _ _ ⟨bF, hfr, b8, j2, c8, z2, rfl, z5, rfl, rfl, y6, rfl, rfl, c7, rfl, rfl⟩
   ·clear hx
    obtain ⟨cF, hfr, rB, sB, tB, uB, vB, xB, yB, zB, aC, nA, oA, pA, qA, c9⟩ := hR
    rcases csome h with ⟨j9, h⟩ | ⟨j9, h⟩
    ·refine E_cond_true (Eq.trans (show ev _ _ = .bool (z6) from c9) (congrArg Value.bool j9)) ?_
     refine E_seq (E_region (EL_at (.bool false) rfl rfl ?_))
     refine EL_nil (thn_n (E_ret (thn_r ?_)))
     obtain rfl := sinj h
     exact end1 rfl rfl (show _ = .bool false from rfl) ⟨_, hfr, rfl⟩
    ·refine E_cond_false (Eq.trans (show ev _ _ = .bool (z6) from c9) (congrArg Value.bool j9)) ?_
     exact E_skip (thn_n (jD () _ _ ⟨cF, hfr, rB, sB, tB, uB, vB, xB, yB, zB, aC, nA, oA, pA, qA⟩ h))
  ·rintro _ rG cI ⟨zC, hfr, o9, d8, p9, e8, q9, g8, t9, u9, i8, d9, e9, i7, g9⟩ h
   refine E_joinC h (fun (s : Unit) e w => ∃ (g : Gh) , Fr gI wI g w ∧ e 1 = up1 ∧ RV g.m w (x1 : List LoomOrder) up1 ∧ e 2 = p1 ∧ PT g.m w (x0 : LoomMill) p1 ∧ e 7 = z3 ∧ RV g.m w (o0.1 : List Int) z3 ∧ e 8 = .int .i64 (o0.2) ∧ e 9 = j3 ∧ RV g.m w (j1.1 : List Int) j3 ∧ e 10 = .int .i64 (j1.2) ∧ e 11 = u3 ∧ RV g.m w (j0.1 : List Int) u3 ∧ e 12 = .int .i64 (j0.2)) (fun X87 qC mD h => ?_) ?_
   ·refine E_seq (E_region (EL_do .plain rfl (D_load (g := zC) Try.isAgg24 Try.sizeOf24 p9 e8 fun dF eF => ?_)))
    refine EL_mv o9 rfl ?_
    obtain ⟨c4, nD, h⟩ := bsome h
    refine EL_do .plain rfl (D_call (g := zC) (vs := [dF, up1]) en20 (.cons rfl (.cons rfl .nil)) (wk20 eF d8 nD) fun a8 sG dI hs hr => ?_)
    have hfr := hfr.ext hs
    have d8 := d8.ext hs
    have e8 := e8.ext hs
    have g8 := g8.ext hs
    have i8 := i8.ext hs
    have i7 := i7.ext hs
    subst hr
    refine EL_at (.int .i64 (c4)) rfl rfl ?_
    refine EL_nil (thn_n (E_seq (E_region (EL_mw (.int .i64 (c4)) rfl rfl ?_))))
    refine EL_in (.bool ((c4 != (0 : Int)))) rfl rfl rfl rfl ?_
    refine EL_nil (thn_n ?_)
    rcases csome h with ⟨k9, h⟩ | ⟨k9, h⟩
    ·refine E_ct k9 rfl ?_
     obtain ⟨e7, hx, h⟩ := bsome h
     refine E_join (fun e w => ∃ (g : Gh) , Fr gI wI g w ∧ e 4 = .bool (e7)) (fun Q' hQ => ?_) (fun nF tG hR => ?_)
     ·replace h := hx
      clear hx
      refine E_region (EL_mv t9 rfl ?_)
      refine EL_mw (.int .i64 (c4)) rfl rfl ?_
      refine EL_in (.bool ((o0.2 == c4))) rfl rfl rfl rfl ?_
      refine EL_mw (.bool ((o0.2 == c4))) rfl rfl ?_
      rcases csome h with ⟨k6, h⟩ | ⟨k6, h⟩
      ·refine EL_pur (v := .int .i64 (j1.2)) (P_move d9) (.yes2 rfl rfl k6) rfl ?_
       refine EL_pur (v := .int .i64 (c4)) (P_move rfl) (.yes2 rfl rfl k6) rfl ?_
       refine EL_pur (v := .bool ((j1.2 == c4))) (P_int rfl rfl rfl) (.yes2 rfl rfl k6) rfl ?_
       refine EL_pur (v := .bool ((j1.2 == c4))) (P_pick (b := (o0.2 == c4)) rfl (pick_t k6 rfl)) .plain rfl ?_
       refine EL_mw (.bool ((j1.2 == c4))) rfl rfl ?_
       rcases csome h with ⟨l6, h⟩ | ⟨l6, h⟩
       ·refine EL_pur (v := .int .i64 (j0.2)) (P_move g9) (.yes2 rfl rfl l6) rfl ?_
        refine EL_pur (v := .int .i64 (c4)) (P_move rfl) (.yes2 rfl rfl l6) rfl ?_
        refine EL_pur (v := .bool ((j0.2 == c4))) (P_int rfl rfl rfl) (.yes2 rfl rfl l6) rfl ?_
        refine EL_pur (v := .bool ((j0.2 == c4))) (P_pick (b := (j1.2 == c4)) rfl (pick_t l6 rfl)) .plain rfl ?_
        refine EL_mw (.bool ((j0.2 == c4))) rfl rfl ?_
        rcases csome h with ⟨m6, h⟩ | ⟨m6, h⟩
        ·refine EL_pur (v := z3) (P_move q9) (.yes2 rfl rfl m6) rfl ?_
         refine EL_pur (v := .int .i64 ((o0.1).length : Int)) (P_len Try.underlying22 rfl g8) (.yes2 rfl rfl m6) rfl ?_
         refine EL_pur (v := .bool ((((o0.1).length : Int) == (0 : Int)))) (P_int rfl rfl rfl) (.yes2 rfl rfl m6) rfl ?_
         refine EL_pur (v := .bool ((((o0.1).length : Int) == (0 : Int)))) (P_pick (b := (j0.2 == c4)) rfl (pick_t m6 rfl)) .plain rfl ?_
         refine EL_mw (.bool ((((o0.1).length : Int) == (0 : Int)))) rfl rfl ?_
         rcases csome h with ⟨n6, h⟩ | ⟨n6, h⟩
         ·refine EL_pur (v := j3) (P_move u9) (.yes2 rfl rfl n6) rfl ?_
          refine EL_pur (v := .int .i64 ((j1.1).length : Int)) (P_len Try.underlying22 rfl i8) (.yes2 rfl rfl n6) rfl ?_
          refine EL_pur (v := .bool ((((j1.1).length : Int) == (0 : Int)))) (P_int rfl rfl rfl) (.yes2 rfl rfl n6) rfl ?_
          refine EL_pur (v := .bool ((((j1.1).length : Int) == (0 : Int)))) (P_pick (b := (((o0.1).length : Int) == (0 : Int))) rfl (pick_t n6 rfl)) .plain rfl ?_
          refine EL_mw (.bool ((((j1.1).length : Int) == (0 : Int)))) rfl rfl ?_
          rcases csome h with ⟨o6, h⟩ | ⟨o6, h⟩
          ·refine EL_pur (v := u3) (P_move e9) (.yes2 rfl rfl o6) rfl ?_
           refine EL_pur (v := .int .i64 ((j0.1).length : Int)) (P_len Try.underlying22 rfl i7) (.yes2 rfl rfl o6) rfl ?_
           refine EL_pur (v := .bool ((((j0.1).length : Int) == (0 : Int)))) (P_int rfl rfl rfl) (.yes2 rfl rfl o6) rfl ?_
           refine EL_pur (v := .bool ((((j0.1).length : Int) == (0 : Int)))) (P_pick (b := (((j1.1).length : Int) == (0 : Int))) rfl (pick_t o6 rfl)) .plain rfl ?_
           refine EL_mw (.bool ((((j0.1).length : Int) == (0 : Int)))) rfl rfl ?_
           rcases csome h with ⟨j7, h⟩ | ⟨j7, h⟩
           ·obtain ⟨v8, bC, h⟩ := bsome h
            refine EL_do (.yes2 rfl rfl j7) rfl (D_call (g := a8) (vs := []) en14 .nil (wk14  bC) fun oD oF uG hs hr => ?_)
            have hfr := hfr.ext hs
            subst hr
            refine EL_pur (v := .bool (v8)) (P_pick (b := (((j0.1).length : Int) == (0 : Int))) rfl (pick_t j7 rfl)) .plain rfl ?_
            refine EL_at (.bool (v8)) rfl rfl ?_
            refine EL_nil ?_
            obtain rfl := sinj h
            exact hQ _ _ ⟨oD, hfr, rfl⟩
           ·refine EL_skip (.no2 rfl rfl j7 rfl) rfl ?_
            refine EL_pur (v := .bool false) (P_pick (b := (((j0.1).length : Int) == (0 : Int))) rfl (pick_f j7 rfl)) .plain rfl ?_
            refine EL_at (.bool false) rfl rfl ?_
            refine EL_nil ?_
            obtain rfl := sinj h
            exact hQ _ _ ⟨a8, hfr, rfl⟩
          ·refine EL_skip (.no2 rfl rfl o6 rfl) rfl ?_
           refine EL_skip (.no2 rfl rfl o6 rfl) rfl ?_
           refine EL_skip (.no2 rfl rfl o6 rfl) rfl ?_
           refine EL_pur (v := .bool false) (P_pick (b := (((j1.1).length : Int) == (0 : Int))) rfl (pick_f o6 rfl)) .plain rfl ?_
           refine EL_dead 3 rfl ?_
           refine EL_at (.bool false) rfl rfl ?_
           refine EL_nil ?_
           obtain rfl := sinj h
           exact hQ _ _ ⟨a8, hfr, rfl⟩
         ·refine EL_skip (.no2 rfl rfl n6 rfl) rfl ?_
          refine EL_skip (.no2 rfl rfl n6 rfl) rfl ?_
          refine EL_skip (.no2 rfl rfl n6 rfl) rfl ?_
          refine EL_pur (v := .bool false) (P_pick (b := (((o0.1).length : Int) == (0 : Int))) rfl (pick_f n6 rfl)) .plain rfl ?_
          refine EL_dead 8 rfl ?_
          refine EL_at (.bool false) rfl rfl ?_
          refine EL_nil ?_
          obtain rfl := sinj h
          exact hQ _ _ ⟨a8, hfr, rfl⟩
        ·refine EL_skip (.no2 rfl rfl m6 rfl) rfl ?_
         refine EL_skip (.no2 rfl rfl m6 rfl) rfl ?_
         refine EL_skip (.no2 rfl rfl m6 rfl) rfl ?_
         refine EL_pur (v := .bool false) (P_pick (b := (j0.2 == c4)) rfl (pick_f m6 rfl)) .plain rfl ?_
         refine EL_dead 13 rfl ?_
         refine EL_at (.bool false) rfl rfl ?_
         refine EL_nil ?_
         obtain rfl := sinj h
         exact hQ _ _ ⟨a8, hfr, rfl⟩
       ·refine EL_skip (.no2 rfl rfl l6 rfl) rfl ?_
        refine EL_skip (.no2 rfl rfl l6 rfl) rfl ?_
        refine EL_skip (.no2 rfl rfl l6 rfl) rfl ?_
        refine EL_pur (v := .bool false) (P_pick (b := (j1.2 == c4)) rfl (pick_f l6 rfl)) .plain rfl ?_
        refine EL_dead 18 rfl ?_
        refine EL_at (.bool false) rfl rfl ?_
        refine EL_nil ?_
        obtain rfl := sinj h
        exact hQ _ _ ⟨a8, hfr, rfl⟩
      ·refine EL_skip (.no2 rfl rfl k6 rfl) rfl ?_
       refine EL_skip (.no2 rfl rfl k6 rfl) rfl ?_
       refine EL_skip (.no2 rfl rfl k6 rfl) rfl ?_
       refine EL_pur (v := .bool false) (P_pick (b := (o0.2 == c4)) rfl (pick_f k6 rfl)) .plain rfl ?_
       refine EL_dead 23 rfl ?_
       refine EL_at (.bool false) rfl rfl ?_
       refine EL_nil ?_
       obtain rfl := sinj h
       exact hQ _ _ ⟨a8, hfr, rfl⟩
     ·clear hx
      obtain ⟨vG, hfr, rA⟩ := hR
      refine E_ret (thn_r ?_)
      obtain rfl := sinj h
      exact end1 rfl rfl (show _ = .bool (e7) from rA) ⟨_, hfr, rfl⟩
    ·refine E_cf k9 rfl ?_
     exact E_skip (thn_n (mD () _ _ ⟨a8, hfr, o9, d8, p9, e8, q9, g8, t9, u9, i8, d9, e9, i7, g9⟩ h))
   ·rintro _ pF xG ⟨sA, hfr, l5, d3, m5, i3, j8, v6, l8, b6, p3, n5, o5, u0, p5⟩ h
    refine E_seq (E_region (EL_do .plain rfl (D_load (g := sA) Try.isAgg24 Try.sizeOf24 m5 i3 fun pD qD => ?_)))
    refine EL_mv l5 rfl ?_
    obtain ⟨o3, cC, h⟩ := bsome h
    refine EL_do .plain rfl (D_call (g := sA) (vs := [pD, up1]) en26 (.cons rfl (.cons rfl .nil)) (wk26 qD d3 cC) fun tA qF yG hs hr => ?_)
    have hfr := hfr.ext hs
    have d3 := d3.ext hs
    have i3 := i3.ext hs
    have v6 := v6.ext hs
    have p3 := p3.ext hs
    have u0 := u0.ext hs
    obtain ⟨x6, gF, rfl, m7, rfl⟩ := hr
    refine EL_mw (.tuple #[x6, .bool (o3.2)]) rfl rfl ?_
    refine EL_pur (v := x6) (P_extract rfl rfl) .plain rfl ?_
    refine EL_pur (v := .bool (o3.2)) (P_extract rfl rfl) .plain rfl ?_
    refine EL_at x6 rfl rfl ?_
    refine EL_at (.bool (o3.2)) rfl rfl ?_
    refine EL_nil (thn_n (E_seq (E_region (EL_do .plain rfl (D_load (g := tA) Try.isAgg24 Try.sizeOf24 m5 i3 fun rD sD => ?_)))))
    refine EL_mv l5 rfl ?_
    obtain ⟨z1, dC, h⟩ := bsome h
    refine EL_do .plain rfl (D_call (g := tA) (vs := [rD, up1]) en27 (.cons rfl (.cons rfl .nil)) (wk27 sD d3 dC) fun a7 rF zG hs hr => ?_)
    have hfr := hfr.ext hs
    have d3 := d3.ext hs
    have i3 := i3.ext hs
    have v6 := v6.ext hs
    have p3 := p3.ext hs
    have u0 := u0.ext hs
    have m7 := m7.ext hs
    obtain ⟨n4, iF, rfl, d4, rfl⟩ := hr
    refine EL_mw (.tuple #[n4, .bool (z1.2)]) rfl rfl ?_
    refine EL_pur (v := n4) (P_extract rfl rfl) .plain rfl ?_
    refine EL_pur (v := .bool (z1.2)) (P_extract rfl rfl) .plain rfl ?_
    refine EL_at n4 rfl rfl ?_
    refine EL_at (.bool (z1.2)) rfl rfl ?_
    refine EL_nil (thn_n (E_joinC h (fun (s : Unit) e w => ∃ (g : Gh) , Fr gI wI g w ∧ e 1 = up1 ∧ RV g.m w (x1 : List LoomOrder) up1 ∧ e 2 = p1 ∧ PT g.m w (x0 : LoomMill) p1 ∧ e 9 = j3 ∧ RV g.m w (j1.1 : List Int) j3 ∧ e 10 = .int .i64 (j1.2) ∧ e 11 = u3 ∧ RV g.m w (j0.1 : List Int) u3 ∧ e 12 = .int .i64 (j0.2) ∧ e 16 = n4 ∧ RV g.m w (z1.1 : List Int) n4 ∧ e 17 = .bool (z1.2)) (fun X140 lA eC h => ?_) ?_))
    ·obtain ⟨t6, hx, h⟩ := bsome h
     refine E_join (fun e w => ∃ (g : Gh) , Fr gI wI g w ∧ e 1 = up1 ∧ RV g.m w (x1 : List LoomOrder) up1 ∧ e 2 = p1 ∧ PT g.m w (x0 : LoomMill) p1 ∧ e 9 = j3 ∧ RV g.m w (j1.1 : List Int) j3 ∧ e 10 = .int .i64 (j1.2) ∧ e 11 = u3 ∧ RV g.m w (j0.1 : List Int) u3 ∧ e 12 = .int .i64 (j0.2) ∧ e 16 = n4 ∧ RV g.m w (z1.1 : List Int) n4 ∧ e 17 = .bool (z1.2) ∧ e 125 = .bool (t6)) (fun Q' hQ => ?_) (fun sF aH hR => ?_)
     ·replace h := hx
      clear hx
      refine E_region (EL_mw (.bool (o3.2)) rfl rfl ?_)
      refine EL_pur (v := .bool (!o3.2)) (P_not rfl) .plain rfl ?_
      refine EL_mw (.bool (!o3.2)) rfl rfl ?_
      rcases csome h with ⟨o4, h⟩ | ⟨o4, h⟩
      ·refine EL_pur (v := .int .i64 (o0.2)) (P_move l8) (.yes2 rfl rfl o4) rfl ?_
       refine EL_pur (v := .bool ((o0.2 != (7 : Int)))) (P_int rfl rfl rfl) (.yes2 rfl rfl o4) rfl ?_
       refine EL_pur (v := .bool ((o0.2 != (7 : Int)))) (P_move rfl) (.yes2 rfl rfl o4) rfl ?_
       rcases csome h with ⟨p6, h⟩ | ⟨p6, h⟩
       ·refine EL_skip (.no2 rfl rfl p6 rfl) rfl ?_
        refine EL_skip (.no2 rfl rfl p6 rfl) rfl ?_
        refine EL_skip (.no2 rfl rfl p6 rfl) rfl ?_
        refine EL_pur (v := .bool true) (P_pick (b := (o0.2 != (7 : Int))) rfl (pick_t p6 rfl)) (.yes2 rfl rfl o4) rfl ?_
        refine EL_pur (v := .bool true) (P_pick (b := (!o3.2)) rfl (pick_t o4 rfl)) .plain rfl ?_
        refine EL_dead 13 rfl ?_
        refine EL_nil ?_
        obtain rfl := sinj h
        exact hQ _ _ ⟨a7, hfr, l5, d3, m5, i3, b6, p3, n5, o5, u0, p5, rfl, d4, rfl, rfl⟩
       ·refine EL_pur (v := z3) (P_move j8) (.yes2 rfl rfl p6) rfl ?_
        refine EL_pur (v := .int .i64 ((o0.1).length : Int)) (P_len Try.underlying22 rfl v6) (.yes2 rfl rfl p6) rfl ?_
        refine EL_pur (v := .bool ((((o0.1).length : Int) != (0 : Int)))) (P_int rfl rfl rfl) (.yes2 rfl rfl p6) rfl ?_
        refine EL_pur (v := .bool ((((o0.1).length : Int) != (0 : Int)))) (P_pick (b := (o0.2 != (7 : Int))) rfl (pick_f p6 rfl)) (.yes2 rfl rfl o4) rfl ?_
        refine EL_pur (v := .bool ((((o0.1).length : Int) != (0 : Int)))) (P_pick (b := (!o3.2)) rfl (pick_t o4 rfl)) .plain rfl ?_
        refine EL_mw (.bool ((((o0.1).length : Int) != (0 : Int)))) rfl rfl ?_
        rcases csome h with ⟨p4, h⟩ | ⟨p4, h⟩
        ·refine EL_skip (.no2 rfl rfl p4 rfl) rfl ?_
         refine EL_skip (.no2 rfl rfl p4 rfl) rfl ?_
         refine EL_dead 8 rfl ?_
         refine EL_skip (.no2 rfl rfl p4 rfl) rfl ?_
         refine EL_pur (v := .bool true) (P_pick (b := (((o0.1).length : Int) != (0 : Int))) rfl (pick_t p4 rfl)) .plain rfl ?_
         refine EL_nil ?_
         obtain rfl := sinj h
         exact hQ _ _ ⟨a7, hfr, l5, d3, m5, i3, b6, p3, n5, o5, u0, p5, rfl, d4, rfl, rfl⟩
        ·refine EL_pur (v := .bool (o3.2)) (P_move rfl) (.yes2 rfl rfl p4) rfl ?_
         refine EL_pur (v := .bool (o3.2)) (P_move rfl) (.yes2 rfl rfl p4) rfl ?_
         rcases csome h with ⟨u4, h⟩ | ⟨u4, h⟩
         ·refine EL_pur (v := .int .i64 (o0.2)) (P_move l8) (.yes2 rfl rfl u4) rfl ?_
          refine EL_pur (v := .bool ((o0.2 != (0 : Int)))) (P_int rfl rfl rfl) (.yes2 rfl rfl u4) rfl ?_
          refine EL_pur (v := .bool ((o0.2 != (0 : Int)))) (P_move rfl) (.yes2 rfl rfl u4) rfl ?_
          rcases csome h with ⟨t5, h⟩ | ⟨t5, h⟩
          ·refine EL_skip (.no2 rfl rfl t5 rfl) rfl ?_
           refine EL_skip (.no2 rfl rfl t5 rfl) rfl ?_
           refine EL_skip (.no2 rfl rfl t5 rfl) rfl ?_
           refine EL_skip (.no2 rfl rfl t5 rfl) rfl ?_
           refine EL_pur (v := .bool true) (P_pick (b := (o0.2 != (0 : Int))) rfl (pick_t t5 rfl)) (.yes2 rfl rfl u4) rfl ?_
           refine EL_pur (v := .bool true) (P_pick (b := o3.2) rfl (pick_t u4 rfl)) (.yes2 rfl rfl p4) rfl ?_
           refine EL_pur (v := .bool true) (P_pick (b := (((o0.1).length : Int) != (0 : Int))) rfl (pick_f p4 rfl)) .plain rfl ?_
           refine EL_nil ?_
           obtain rfl := sinj h
           exact hQ _ _ ⟨a7, hfr, l5, d3, m5, i3, b6, p3, n5, o5, u0, p5, rfl, d4, rfl, rfl⟩
          ·refine EL_pur (v := z3) (P_move j8) (.yes2 rfl rfl t5) rfl ?_
           refine EL_pur (v := x6) (P_move rfl) (.yes2 rfl rfl t5) rfl ?_
           obtain ⟨y158, iC, h⟩ := bsome h
           refine EL_do (.yes2 rfl rfl t5) rfl (D_call (g := a7) (vs := [z3, x6]) en28 (.cons rfl (.cons rfl .nil)) (wk28 v6 m7 iC) fun tD tF bH hs hr => ?_)
           have hfr := hfr.ext hs
           have d3 := d3.ext hs
           have i3 := i3.ext hs
           have p3 := p3.ext hs
           have u0 := u0.ext hs
           have d4 := d4.ext hs
           subst hr
           refine EL_pur (v := .bool (!y158)) (P_not rfl) (.yes2 rfl rfl t5) rfl ?_
           refine EL_pur (v := .bool (!y158)) (P_pick (b := (o0.2 != (0 : Int))) rfl (pick_f t5 rfl)) (.yes2 rfl rfl u4) rfl ?_
           refine EL_pur (v := .bool (!y158)) (P_pick (b := o3.2) rfl (pick_t u4 rfl)) (.yes2 rfl rfl p4) rfl ?_
           refine EL_pur (v := .bool (!y158)) (P_pick (b := (((o0.1).length : Int) != (0 : Int))) rfl (pick_f p4 rfl)) .plain rfl ?_
           refine EL_nil ?_
           obtain rfl := sinj h
           exact hQ _ _ ⟨tD, hfr, l5, d3, m5, i3, b6, p3, n5, o5, u0, p5, rfl, d4, rfl, rfl⟩
         ·refine EL_skip (.no2 rfl rfl u4 rfl) rfl ?_
          refine EL_skip (.no2 rfl rfl u4 rfl) rfl ?_
          refine EL_skip (.no2 rfl rfl u4 rfl) rfl ?_
          refine EL_dead 4 rfl ?_
          refine EL_skip (.no2 rfl rfl u4 rfl) rfl ?_
          refine EL_pur (v := .bool false) (P_pick (b := o3.2) rfl (pick_f u4 rfl)) (.yes2 rfl rfl p4) rfl ?_
          refine EL_pur (v := .bool false) (P_pick (b := (((o0.1).length : Int) != (0 : Int))) rfl (pick_f p4 rfl)) .plain rfl ?_
          refine EL_nil ?_
          obtain rfl := sinj h
          exact hQ _ _ ⟨a7, hfr, l5, d3, m5, i3, b6, p3, n5, o5, u0, p5, rfl, d4, rfl, rfl⟩
      ·refine EL_skip (.no2 rfl rfl o4 rfl) rfl ?_
       refine EL_skip (.no2 rfl rfl o4 rfl) rfl ?_
       refine EL_skip (.no2 rfl rfl o4 rfl) rfl ?_
       refine EL_dead 3 rfl ?_
       refine EL_skip (.no2 rfl rfl o4 rfl) rfl ?_
       refine EL_pur (v := .bool false) (P_pick (b := (!o3.2)) rfl (pick_f o4 rfl)) .plain rfl ?_
       refine EL_mw (.bool false) rfl rfl ?_
       refine EL_pur (v := .bool (o3.2)) (P_move rfl) (.yes2 rfl rfl rfl) rfl ?_
       refine EL_pur (v := .bool (o3.2)) (P_move rfl) (.yes2 rfl rfl rfl) rfl ?_
       rcases csome h with ⟨x4, h⟩ | ⟨x4, h⟩
       ·refine EL_pur (v := .int .i64 (o0.2)) (P_move l8) (.yes2 rfl rfl x4) rfl ?_
        refine EL_pur (v := .bool ((o0.2 != (0 : Int)))) (P_int rfl rfl rfl) (.yes2 rfl rfl x4) rfl ?_
        refine EL_pur (v := .bool ((o0.2 != (0 : Int)))) (P_move rfl) (.yes2 rfl rfl x4) rfl ?_
        rcases csome h with ⟨u5, h⟩ | ⟨u5, h⟩
        ·refine EL_skip (.no2 rfl rfl u5 rfl) rfl ?_
         refine EL_skip (.no2 rfl rfl u5 rfl) rfl ?_
         refine EL_skip (.no2 rfl rfl u5 rfl) rfl ?_
         refine EL_skip (.no2 rfl rfl u5 rfl) rfl ?_
         refine EL_pur (v := .bool true) (P_pick (b := (o0.2 != (0 : Int))) rfl (pick_t u5 rfl)) (.yes2 rfl rfl x4) rfl ?_
         refine EL_pur (v := .bool true) (P_pick (b := o3.2) rfl (pick_t x4 rfl)) (.yes2 rfl rfl rfl) rfl ?_
         refine EL_pur (v := .bool true) (P_pick (b := false) rfl (pick_f rfl rfl)) .plain rfl ?_
         refine EL_nil ?_
         obtain rfl := sinj h
         exact hQ _ _ ⟨a7, hfr, l5, d3, m5, i3, b6, p3, n5, o5, u0, p5, rfl, d4, rfl, rfl⟩
        ·refine EL_pur (v := z3) (P_move j8) (.yes2 rfl rfl u5) rfl ?_
         refine EL_pur (v := x6) (P_move rfl) (.yes2 rfl rfl u5) rfl ?_
         obtain ⟨t7, jC, h⟩ := bsome h
         refine EL_do (.yes2 rfl rfl u5) rfl (D_call (g := a7) (vs := [z3, x6]) en28 (.cons rfl (.cons rfl .nil)) (wk28 v6 m7 jC) fun uD uF cH hs hr => ?_)
         have hfr := hfr.ext hs
         have d3 := d3.ext hs
         have i3 := i3.ext hs
         have p3 := p3.ext hs
         have u0 := u0.ext hs
         have d4 := d4.ext hs
         subst hr
         refine EL_pur (v := .bool (!t7)) (P_not rfl) (.yes2 rfl rfl u5) rfl ?_
         refine EL_pur (v := .bool (!t7)) (P_pick (b := (o0.2 != (0 : Int))) rfl (pick_f u5 rfl)) (.yes2 rfl rfl x4) rfl ?_
         refine EL_pur (v := .bool (!t7)) (P_pick (b := o3.2) rfl (pick_t x4 rfl)) (.yes2 rfl rfl rfl) rfl ?_
         refine EL_pur (v := .bool (!t7)) (P_pick (b := false) rfl (pick_f rfl rfl)) .plain rfl ?_
         refine EL_nil ?_
         obtain rfl := sinj h
         exact hQ _ _ ⟨uD, hfr, l5, d3, m5, i3, b6, p3, n5, o5, u0, p5, rfl, d4, rfl, rfl⟩
       ·refine EL_skip (.no2 rfl rfl x4 rfl) rfl ?_
        refine EL_skip (.no2 rfl rfl x4 rfl) rfl ?_
        refine EL_skip (.no2 rfl rfl x4 rfl) rfl ?_
        refine EL_dead 4 rfl ?_
        refine EL_skip (.no2 rfl rfl x4 rfl) rfl ?_
        refine EL_pur (v := .bool false) (P_pick (b := o3.2) rfl (pick_f x4 rfl)) (.yes2 rfl rfl rfl) rfl ?_
        refine EL_pur (v := .bool false) (P_pick (b := false) rfl (pick_f rfl rfl)) .plain rfl ?_
        refine EL_nil ?_
        obtain rfl := sinj h
        exact hQ _ _ ⟨a7, hfr, l5, d3, m5, i3, b6, p3, n5, o5, u0, p5, rfl, d4, rfl, rfl⟩
     ·clear hx
      obtain ⟨vD, hfr, uA, vA, xA, yA, zA, aB, x9, y9, z9, bA, cA, dA, eA, m8⟩ := hR
      rcases csome h with ⟨x8, h⟩ | ⟨x8, h⟩
      ·refine E_cond_true (Eq.trans (show ev _ _ = .bool (t6) from m8) (congrArg Value.bool x8)) ?_
       refine E_seq (E_region (EL_at (.bool false) rfl rfl ?_))
       refine EL_nil (thn_n (E_ret (thn_r ?_)))
       obtain rfl := sinj h
       exact end1 rfl rfl (show _ = .bool false from rfl) ⟨_, hfr, rfl⟩
      ·refine E_cond_false (Eq.trans (show ev _ _ = .bool (t6) from m8) (congrArg Value.bool x8)) ?_
       exact E_skip (thn_n (eC () _ _ ⟨vD, hfr, uA, vA, xA, yA, zA, aB, x9, y9, z9, bA, cA, dA, eA⟩ h))
    ·rintro _ vF dH ⟨b7, hfr, c6, i4, d6, j4, i6, m4, q5, u7, v7, x7, q8, r8, y7⟩ h
     refine E_joinC h (fun (s : Unit) e w => ∃ (g : Gh) , Fr gI wI g w ∧ e 1 = up1 ∧ RV g.m w (x1 : List LoomOrder) up1 ∧ e 2 = p1 ∧ PT g.m w (x0 : LoomMill) p1 ∧ e 9 = j3 ∧ RV g.m w (j1.1 : List Int) j3 ∧ e 10 = .int .i64 (j1.2)) (fun X190 kA kC h => ?_) ?_
     ·obtain ⟨r6, hx, h⟩ := bsome h
      refine E_join (fun e w => ∃ (g : Gh) , Fr gI wI g w ∧ e 1 = up1 ∧ RV g.m w (x1 : List LoomOrder) up1 ∧ e 2 = p1 ∧ PT g.m w (x0 : LoomMill) p1 ∧ e 9 = j3 ∧ RV g.m w (j1.1 : List Int) j3 ∧ e 10 = .int .i64 (j1.2) ∧ e 149 = .bool (r6)) (fun Q' hQ => ?_) (fun xF gH hR => ?_)
      ·replace h := hx
       clear hx
       refine E_region (EL_mv y7 rfl ?_)
       refine EL_pur (v := .bool (!z1.2)) (P_not rfl) .plain rfl ?_
       refine EL_mw (.bool (!z1.2)) rfl rfl ?_
       rcases csome h with ⟨z4, h⟩ | ⟨z4, h⟩
       ·refine EL_pur (v := .int .i64 (j0.2)) (P_move x7) (.yes2 rfl rfl z4) rfl ?_
        refine EL_pur (v := .bool ((j0.2 != (9 : Int)))) (P_int rfl rfl rfl) (.yes2 rfl rfl z4) rfl ?_
        refine EL_pur (v := .bool ((j0.2 != (9 : Int)))) (P_move rfl) (.yes2 rfl rfl z4) rfl ?_
        rcases csome h with ⟨q6, h⟩ | ⟨q6, h⟩
        ·refine EL_skip (.no2 rfl rfl q6 rfl) rfl ?_
         refine EL_skip (.no2 rfl rfl q6 rfl) rfl ?_
         refine EL_skip (.no2 rfl rfl q6 rfl) rfl ?_
         refine EL_pur (v := .bool true) (P_pick (b := (j0.2 != (9 : Int))) rfl (pick_t q6 rfl)) (.yes2 rfl rfl z4) rfl ?_
         refine EL_pur (v := .bool true) (P_pick (b := (!z1.2)) rfl (pick_t z4 rfl)) .plain rfl ?_
         refine EL_dead 13 rfl ?_
         refine EL_nil ?_
         obtain rfl := sinj h
         exact hQ _ _ ⟨b7, hfr, c6, i4, d6, j4, i6, m4, q5, rfl⟩
        ·refine EL_pur (v := u3) (P_move u7) (.yes2 rfl rfl q6) rfl ?_
         refine EL_pur (v := .int .i64 ((j0.1).length : Int)) (P_len Try.underlying22 rfl v7) (.yes2 rfl rfl q6) rfl ?_
         refine EL_pur (v := .bool ((((j0.1).length : Int) != (0 : Int)))) (P_int rfl rfl rfl) (.yes2 rfl rfl q6) rfl ?_
         refine EL_pur (v := .bool ((((j0.1).length : Int) != (0 : Int)))) (P_pick (b := (j0.2 != (9 : Int))) rfl (pick_f q6 rfl)) (.yes2 rfl rfl z4) rfl ?_
         refine EL_pur (v := .bool ((((j0.1).length : Int) != (0 : Int)))) (P_pick (b := (!z1.2)) rfl (pick_t z4 rfl)) .plain rfl ?_
         refine EL_mw (.bool ((((j0.1).length : Int) != (0 : Int)))) rfl rfl ?_
         rcases csome h with ⟨c5, h⟩ | ⟨c5, h⟩
         ·refine EL_skip (.no2 rfl rfl c5 rfl) rfl ?_
          refine EL_skip (.no2 rfl rfl c5 rfl) rfl ?_
          refine EL_dead 8 rfl ?_
          refine EL_skip (.no2 rfl rfl c5 rfl) rfl ?_
          refine EL_pur (v := .bool true) (P_pick (b := (((j0.1).length : Int) != (0 : Int))) rfl (pick_t c5 rfl)) .plain rfl ?_
          refine EL_nil ?_
          obtain rfl := sinj h
          exact hQ _ _ ⟨b7, hfr, c6, i4, d6, j4, i6, m4, q5, rfl⟩
         ·refine EL_pur (v := .bool (z1.2)) (P_move y7) (.yes2 rfl rfl c5) rfl ?_
          refine EL_pur (v := .bool (z1.2)) (P_move rfl) (.yes2 rfl rfl c5) rfl ?_
          rcases csome h with ⟨d5, h⟩ | ⟨d5, h⟩
          ·refine EL_pur (v := .int .i64 (j0.2)) (P_move x7) (.yes2 rfl rfl d5) rfl ?_
           refine EL_pur (v := .bool ((j0.2 != (0 : Int)))) (P_int rfl rfl rfl) (.yes2 rfl rfl d5) rfl ?_
           refine EL_pur (v := .bool ((j0.2 != (0 : Int)))) (P_move rfl) (.yes2 rfl rfl d5) rfl ?_
           rcases csome h with ⟨x5, h⟩ | ⟨x5, h⟩
           ·refine EL_skip (.no2 rfl rfl x5 rfl) rfl ?_
            refine EL_skip (.no2 rfl rfl x5 rfl) rfl ?_
            refine EL_skip (.no2 rfl rfl x5 rfl) rfl ?_
            refine EL_skip (.no2 rfl rfl x5 rfl) rfl ?_
            refine EL_pur (v := .bool true) (P_pick (b := (j0.2 != (0 : Int))) rfl (pick_t x5 rfl)) (.yes2 rfl rfl d5) rfl ?_
            refine EL_pur (v := .bool true) (P_pick (b := z1.2) rfl (pick_t d5 rfl)) (.yes2 rfl rfl c5) rfl ?_
            refine EL_pur (v := .bool true) (P_pick (b := (((j0.1).length : Int) != (0 : Int))) rfl (pick_f c5 rfl)) .plain rfl ?_
            refine EL_nil ?_
            obtain rfl := sinj h
            exact hQ _ _ ⟨b7, hfr, c6, i4, d6, j4, i6, m4, q5, rfl⟩
           ·refine EL_pur (v := u3) (P_move u7) (.yes2 rfl rfl x5) rfl ?_
            refine EL_pur (v := n4) (P_move q8) (.yes2 rfl rfl x5) rfl ?_
            obtain ⟨p7, lC, h⟩ := bsome h
            refine EL_do (.yes2 rfl rfl x5) rfl (D_call (g := b7) (vs := [u3, n4]) en28 (.cons rfl (.cons rfl .nil)) (wk28 v7 r8 lC) fun xD yF iH hs hr => ?_)
            have hfr := hfr.ext hs
            have i4 := i4.ext hs
            have j4 := j4.ext hs
            have m4 := m4.ext hs
            subst hr
            refine EL_pur (v := .bool (!p7)) (P_not rfl) (.yes2 rfl rfl x5) rfl ?_
            refine EL_pur (v := .bool (!p7)) (P_pick (b := (j0.2 != (0 : Int))) rfl (pick_f x5 rfl)) (.yes2 rfl rfl d5) rfl ?_
            refine EL_pur (v := .bool (!p7)) (P_pick (b := z1.2) rfl (pick_t d5 rfl)) (.yes2 rfl rfl c5) rfl ?_
            refine EL_pur (v := .bool (!p7)) (P_pick (b := (((j0.1).length : Int) != (0 : Int))) rfl (pick_f c5 rfl)) .plain rfl ?_
            refine EL_nil ?_
            obtain rfl := sinj h
            exact hQ _ _ ⟨xD, hfr, c6, i4, d6, j4, i6, m4, q5, rfl⟩
          ·refine EL_skip (.no2 rfl rfl d5 rfl) rfl ?_
           refine EL_skip (.no2 rfl rfl d5 rfl) rfl ?_
           refine EL_skip (.no2 rfl rfl d5 rfl) rfl ?_
           refine EL_dead 4 rfl ?_
           refine EL_skip (.no2 rfl rfl d5 rfl) rfl ?_
           refine EL_pur (v := .bool false) (P_pick (b := z1.2) rfl (pick_f d5 rfl)) (.yes2 rfl rfl c5) rfl ?_
           refine EL_pur (v := .bool false) (P_pick (b := (((j0.1).length : Int) != (0 : Int))) rfl (pick_f c5 rfl)) .plain rfl ?_
           refine EL_nil ?_
           obtain rfl := sinj h
           exact hQ _ _ ⟨b7, hfr, c6, i4, d6, j4, i6, m4, q5, rfl⟩
       ·refine EL_skip (.no2 rfl rfl z4 rfl) rfl ?_
        refine EL_skip (.no2 rfl rfl z4 rfl) rfl ?_
        refine EL_skip (.no2 rfl rfl z4 rfl) rfl ?_
        refine EL_dead 3 rfl ?_
        refine EL_skip (.no2 rfl rfl z4 rfl) rfl ?_
        refine EL_pur (v := .bool false) (P_pick (b := (!z1.2)) rfl (pick_f z4 rfl)) .plain rfl ?_
        refine EL_mw (.bool false) rfl rfl ?_
        refine EL_pur (v := .bool (z1.2)) (P_move y7) (.yes2 rfl rfl rfl) rfl ?_
        refine EL_pur (v := .bool (z1.2)) (P_move rfl) (.yes2 rfl rfl rfl) rfl ?_
        rcases csome h with ⟨i5, h⟩ | ⟨i5, h⟩
        ·refine EL_pur (v := .int .i64 (j0.2)) (P_move x7) (.yes2 rfl rfl i5) rfl ?_
         refine EL_pur (v := .bool ((j0.2 != (0 : Int)))) (P_int rfl rfl rfl) (.yes2 rfl rfl i5) rfl ?_
         refine EL_pur (v := .bool ((j0.2 != (0 : Int)))) (P_move rfl) (.yes2 rfl rfl i5) rfl ?_
         rcases csome h with ⟨y5, h⟩ | ⟨y5, h⟩
         ·refine EL_skip (.no2 rfl rfl y5 rfl) rfl ?_
          refine EL_skip (.no2 rfl rfl y5 rfl) rfl ?_
          refine EL_skip (.no2 rfl rfl y5 rfl) rfl ?_
          refine EL_skip (.no2 rfl rfl y5 rfl) rfl ?_
          refine EL_pur (v := .bool true) (P_pick (b := (j0.2 != (0 : Int))) rfl (pick_t y5 rfl)) (.yes2 rfl rfl i5) rfl ?_
          refine EL_pur (v := .bool true) (P_pick (b := z1.2) rfl (pick_t i5 rfl)) (.yes2 rfl rfl rfl) rfl ?_
          refine EL_pur (v := .bool true) (P_pick (b := false) rfl (pick_f rfl rfl)) .plain rfl ?_
          refine EL_nil ?_
          obtain rfl := sinj h
          exact hQ _ _ ⟨b7, hfr, c6, i4, d6, j4, i6, m4, q5, rfl⟩
         ·refine EL_pur (v := u3) (P_move u7) (.yes2 rfl rfl y5) rfl ?_
          refine EL_pur (v := n4) (P_move q8) (.yes2 rfl rfl y5) rfl ?_
          obtain ⟨q7, mC, h⟩ := bsome h
          refine EL_do (.yes2 rfl rfl y5) rfl (D_call (g := b7) (vs := [u3, n4]) en28 (.cons rfl (.cons rfl .nil)) (wk28 v7 r8 mC) fun yD zF jH hs hr => ?_)
          have hfr := hfr.ext hs
          have i4 := i4.ext hs
          have j4 := j4.ext hs
          have m4 := m4.ext hs
          subst hr
          refine EL_pur (v := .bool (!q7)) (P_not rfl) (.yes2 rfl rfl y5) rfl ?_
          refine EL_pur (v := .bool (!q7)) (P_pick (b := (j0.2 != (0 : Int))) rfl (pick_f y5 rfl)) (.yes2 rfl rfl i5) rfl ?_
          refine EL_pur (v := .bool (!q7)) (P_pick (b := z1.2) rfl (pick_t i5 rfl)) (.yes2 rfl rfl rfl) rfl ?_
          refine EL_pur (v := .bool (!q7)) (P_pick (b := false) rfl (pick_f rfl rfl)) .plain rfl ?_
          refine EL_nil ?_
          obtain rfl := sinj h
          exact hQ _ _ ⟨yD, hfr, c6, i4, d6, j4, i6, m4, q5, rfl⟩
        ·refine EL_skip (.no2 rfl rfl i5 rfl) rfl ?_
         refine EL_skip (.no2 rfl rfl i5 rfl) rfl ?_
         refine EL_skip (.no2 rfl rfl i5 rfl) rfl ?_
         refine EL_dead 4 rfl ?_
         refine EL_skip (.no2 rfl rfl i5 rfl) rfl ?_
         refine EL_pur (v := .bool false) (P_pick (b := z1.2) rfl (pick_f i5 rfl)) (.yes2 rfl rfl rfl) rfl ?_
         refine EL_pur (v := .bool false) (P_pick (b := false) rfl (pick_f rfl rfl)) .plain rfl ?_
         refine EL_nil ?_
         obtain rfl := sinj h
         exact hQ _ _ ⟨b7, hfr, c6, i4, d6, j4, i6, m4, q5, rfl⟩
      ·clear hx
       obtain ⟨zD, hfr, bB, cB, dB, eB, iB, jB, gA, n8⟩ := hR
       rcases csome h with ⟨y8, h⟩ | ⟨y8, h⟩
       ·refine E_cond_true (Eq.trans (show ev _ _ = .bool (r6) from n8) (congrArg Value.bool y8)) ?_
        refine E_seq (E_region (EL_at (.bool false) rfl rfl ?_))
        refine EL_nil (thn_n (E_ret (thn_r ?_)))
        obtain rfl := sinj h
        exact end1 rfl rfl (show _ = .bool false from rfl) ⟨_, hfr, rfl⟩
       ·refine E_cond_false (Eq.trans (show ev _ _ = .bool (r6) from n8) (congrArg Value.bool y8)) ?_
        exact E_skip (thn_n (kC () _ _ ⟨zD, hfr, bB, cB, dB, eB, iB, jB, gA⟩ h))
     ·rintro _ aG kH ⟨l9, hfr, kB, lB, mB, nB, oB, o8, iA⟩ h
      obtain ⟨d7, hx, h⟩ := bsome h
      refine E_join (fun e w => ∃ (g : Gh) , Fr gI wI g w ∧ e 4 = .bool (d7)) (fun Q' hQ => ?_) (fun bG lH hR => ?_)
      ·replace h := hx
       clear hx
       refine E_region (EL_mv iA rfl ?_)
       refine EL_in (.bool ((j1.2 == (0 : Int)))) rfl rfl rfl rfl ?_
       refine EL_mw (.bool ((j1.2 == (0 : Int)))) rfl rfl ?_
       rcases csome h with ⟨j5, h⟩ | ⟨j5, h⟩
       ·refine EL_pur (v := j3) (P_move oB) (.yes2 rfl rfl j5) rfl ?_
        refine EL_do (.yes2 rfl rfl j5) rfl (D_load (g := l9) Try.isAgg24 Try.sizeOf24 mB nB fun aE bE => ?_)
        refine EL_pur (v := up1) (P_move kB) (.yes2 rfl rfl j5) rfl ?_
        obtain ⟨jA, nC, h⟩ := bsome h
        refine EL_do (.yes2 rfl rfl j5) rfl (D_call (g := l9) (vs := [aE, up1]) en29 (.cons rfl (.cons rfl .nil)) (wk29 bE lB nC) fun cE cG dE hs hr => ?_)
        have hfr := hfr.ext hs
        have o8 := o8.ext hs
        have eE := hr
        obtain ⟨o7, oC, h⟩ := bsome h
        refine EL_do (.yes2 rfl rfl j5) rfl (D_call (g := cE) (vs := [j3, dE]) en28 (.cons rfl (.cons rfl .nil)) (wk28 o8 eE oC) fun pB dG mH hs hr => ?_)
        have hfr := hfr.ext hs
        subst hr
        refine EL_pur (v := .bool (o7)) (P_pick (b := (j1.2 == (0 : Int))) rfl (pick_t j5 rfl)) .plain rfl ?_
        refine EL_mw (.bool (o7)) rfl rfl ?_
        rcases csome h with ⟨n7, h⟩ | ⟨n7, h⟩
        ·obtain ⟨t8, pC, h⟩ := bsome h
         refine EL_do (.yes2 rfl rfl n7) rfl (D_call (g := pB) (vs := []) en14 .nil (wk14  pC) fun gE eG nH hs hr => ?_)
         have hfr := hfr.ext hs
         subst hr
         refine EL_pur (v := .bool (t8)) (P_pick (b := o7) rfl (pick_t n7 rfl)) .plain rfl ?_
         refine EL_at (.bool (t8)) rfl rfl ?_
         refine EL_nil ?_
         obtain rfl := sinj h
         exact hQ _ _ ⟨gE, hfr, rfl⟩
        ·refine EL_skip (.no2 rfl rfl n7 rfl) rfl ?_
         refine EL_pur (v := .bool false) (P_pick (b := o7) rfl (pick_f n7 rfl)) .plain rfl ?_
         refine EL_at (.bool false) rfl rfl ?_
         refine EL_nil ?_
         obtain rfl := sinj h
         exact hQ _ _ ⟨pB, hfr, rfl⟩
       ·refine EL_skip (.no2 rfl rfl j5 rfl) rfl ?_
        refine EL_skip (.no2 rfl rfl j5 rfl) rfl ?_
        refine EL_skip (.no2 rfl rfl j5 rfl) rfl ?_
        refine EL_skip (.no2 rfl rfl j5 rfl) rfl ?_
        refine EL_skip (.no2 rfl rfl j5 rfl) rfl ?_
        refine EL_pur (v := .bool false) (P_pick (b := (j1.2 == (0 : Int))) rfl (pick_f j5 rfl)) .plain rfl ?_
        refine EL_dead 3 rfl ?_
        refine EL_at (.bool false) rfl rfl ?_
        refine EL_nil ?_
        obtain rfl := sinj h
        exact hQ _ _ ⟨l9, hfr, rfl⟩
      ·clear hx
       obtain ⟨oH, hfr, qB⟩ := hR
       refine E_ret ?_
       obtain rfl := sinj h
       exact end1 rfl rfl (show _ = .bool (d7) from qB) ⟨_, hfr, rfl⟩
end Go.Proofs.Ytnfjhdagbknlbaa
