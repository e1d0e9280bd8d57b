import Derived.Test.YtnfjhdagbknlbaaCode5
set_option maxRecDepth 8000
set_option maxHeartbeats 4000000
namespace Go.Proofs.Ytnfjhdagbknlbaa
open Go.RowKit
/-- griffe/griffelaw08.LoomPushes -/
def f6 (x0 : LoomMill) (x1 : List LoomOrder) (x2 : Standing) : Option (Bool) :=
 jn (σ := Unit) (fun (_ : Unit) =>
  (f15 x0).bind fun j8 =>
  (f16 x1).bind fun k8 =>
  (f32 ((x2).Plan)).bind fun l8 =>
  (f33 j8 k8 l8 ((x2).Stop)).bind fun z2 =>
  (f34 j8 k8 l8 ((x2).Stop)).bind fun j0 =>
  jn (σ := Unit) (fun (_ : Unit) =>
   (f20 x0 x1).bind fun y7 =>
   Option.bind (α := Int) (
    bif (y7 == (0 : Int)) then
     (f35 x0 x1 ((x2).Plan)).bind fun d7 =>
     some (d7.2)
    else
     some (y7)
    ) fun m4 =>
   Option.bind (α := Int) (
    bif (m4 != (0 : Int)) then
     some (m4)
    else
     (f36 (((x2).Stop).Loom) ((0 : Int)) ((w64 ((((x0).Widths).length : Int) - (1 : Int))))).bind fun aA =>
     bif (!aA) then
      some ((7 : Int))
     else
      Option.bind (α := Bool) (
       (f36 ((((x2).Stop).Days).Low) ((0 : Int)) ((((x2).Stop).Days).High)).bind fun z7 =>
       bif (!z7) then
        some (true)
       else
        some ((decide ((((x2).Stop).Days).High > (300 : Int))))
       ) fun a6 =>
      bif a6 then
       some ((2 : Int))
      else
       some (m4)
    ) fun z1 =>
   jn (σ := Unit) (fun (_ : Unit) =>
    jn (σ := Unit) (fun (_ : Unit) =>
     (f38 x0 x1 ((x2).Plan) ((x2).Stop)).bind fun b6 =>
     jn (σ := Unit) (fun (_ : Unit) =>
      Option.bind (α := Bool) (
       bif (j0.2.2 == (0 : Int)) then
        (f22 (j0.1) (b6.1)).bind fun y324 =>
        bif y324 then
         (f28 (j0.2.1) (b6.2.1)).bind fun y327 =>
         bif y327 then
          (f14).bind fun bA =>
          some (bA)
         else
          some (false)
        else
         some (false)
       else
        some (false)
       ) fun i7 =>
      some (i7)
      ) fun qC =>
     bif (!b6.2.2) then
      Option.bind (α := Bool) (
       bif (j0.2.2 == (8 : Int)) then
        bif (((j0.1).length : Int) == (0 : Int)) then
         bif (((j0.2.1).length : Int) == (0 : Int)) then
          (f14).bind fun cA =>
          some (cA)
         else
          some (false)
        else
         some (false)
       else
        some (false)
       ) fun j7 =>
      some (j7)
     else
      qC ()
     ) fun rC =>
    Option.bind (α := Bool) (
     bif (z2.2 != (0 : Int)) then
      some (true)
     else
      (f37 x1 ((x2).Plan) ((x2).Stop)).bind fun sC =>
      (f28 (z2.1) sC).bind fun dA =>
      some ((!dA))
     ) fun c6 =>
    bif c6 then
     some (false)
    else
     rC ()
    ) fun tC =>
   bif (z1 != (0 : Int)) then
    Option.bind (α := Bool) (
     bif (z2.2 == z1) then
      bif (j0.2.2 == z1) then
       bif (((z2.1).length : Int) == (0 : Int)) then
        bif (((j0.1).length : Int) == (0 : Int)) then
         bif (((j0.2.1).length : Int) == (0 : Int)) then
          (f14).bind fun eA =>
          some (eA)
         else
          some (false)
        else
         some (false)
       else
        some (false)
      else
       some (false)
     else
      some (false)
     ) fun l7 =>
    some (l7)
   else
    tC ()
   ) fun pF =>
  Option.bind (α := Bool) (
   (f18 j8 x0).bind fun a8 =>
   bif (!a8) then
    some (true)
   else
    (f19 k8 x1).bind fun e7 =>
    bif (!e7) then
     some (true)
    else
     (f22 l8 ((x2).Plan)).bind fun gA =>
     some ((!gA))
   ) fun l6 =>
  bif l6 then
   some (false)
  else
   pF ()
  ) fun k19 =>
 Option.bind (α := Bool) (
  (f12 x0 x1 ((7 : Int))).bind fun vA =>
  bif vA then
   some (true)
  else
   some ((decide ((((x2).Plan).length : Int) > (10 : Int))))
  ) fun q6 =>
 bif q6 then
  (f14).bind fun oB =>
  some (oB)
 else
  k19 ()
theorem wk6 {gI : Gh} {wI : World} {x0 : LoomMill} {x1 : List LoomOrder} {x2 : Standing} {up0 : Value} (rp0 : RV gI.m wI x0 up0) {up1 : Value} (rp1 : RV gI.m wI x1 up1) {up2 : Value} (rp2 : RV gI.m wI x2 up2) {r : Bool} (h : f6 x0 x1 x2 = some r) : Fn Try.prog 6 #[up0, up1, up2] gI wI (fun _ _ v => v = .bool (r)) := by
 unfold f6 at h
 refine fn_of_E Try.func6 rfl (Nat.le_of_ble_eq_true rfl) fun g0 hm hfr => ?_
 have rp0 : RV g0.m wI x0 up0 := hm ▸ rp0
 have rp1 : RV g0.m wI x1 up1 := hm ▸ rp1
 have rp2 : RV g0.m wI x2 up2 := hm ▸ rp2
 show E _ 198 none _ _ _ _ _
 refine E_seq (E_region (EL_do .plain rfl (D_box (g := g0) rfl rp0 fun g1 w1 p1 hs q1 => ?_)))
 have hfr := hfr.ext hs
 have rp1 := rp1.ext hs
 have rp2 := rp2.ext hs
 refine EL_do .plain rfl (D_box (g := g1) rfl rp2 fun g2 w2 p2 hs q2 => ?_)
 have hfr := hfr.ext hs
 have rp1 := rp1.ext hs
 have q1 := q1.ext hs
 refine EL_at (.bool false) rfl rfl ?_
 refine EL_nil (thn_n (E_joinC h (fun (s : Unit) e w => ∃ (g : Gh) , Fr gI wI g w ∧ e 1 = up1 ∧ RV g.m w (x1 : List LoomOrder) up1 ∧ e 3 = p1 ∧ PT g.m w (x0 : LoomMill) p1 ∧ e 5 = p2 ∧ PT g.m w (x2 : Standing) p2) (fun X19 k19 uF h => ?_) ?_))
 ·obtain ⟨q6, hx, h⟩ := bsome h
  refine E_join (fun e w => ∃ (g : Gh) , Fr gI wI g w ∧ e 1 = up1 ∧ RV g.m w (x1 : List LoomOrder) up1 ∧ e 3 = p1 ∧ PT g.m w (x0 : LoomMill) p1 ∧ e 5 = p2 ∧ PT g.m w (x2 : Standing) p2 ∧ e 28 = .bool (q6)) (fun Q' hQ => ?_) (fun uK sM hR => ?_)
  ·replace h := hx
   clear hx
   refine E_region (EL_do .plain rfl (D_load (g := g2) Try.isAgg24 Try.sizeOf24 rfl q1 fun nI oI => ?_))
   refine EL_mw up1 rfl rfl ?_
   obtain ⟨vA, vF, h⟩ := bsome h
   refine EL_do .plain rfl (D_call (g := g2) (vs := [nI, up1, .int .i64 (7)]) en12 (.cons rfl (.cons rfl (.cons rfl .nil))) (wk12 oI rp1 vF) fun uC vK tM hs hr => ?_)
   have hfr := hfr.ext hs
   have rp1 := rp1.ext hs
   have q1 := q1.ext hs
   have q2 := q2.ext hs
   subst hr
   refine EL_mw (.bool (vA)) rfl rfl ?_
   rcases csome h with ⟨d6, h⟩ | ⟨d6, h⟩
   ·refine EL_skip (.no2 rfl rfl d6 rfl) rfl ?_
    refine EL_skip (.no2 rfl rfl d6 rfl) rfl ?_
    refine EL_skip (.no2 rfl rfl d6 rfl) rfl ?_
    refine EL_skip (.no2 rfl rfl d6 rfl) rfl ?_
    refine EL_pur (v := .bool true) (P_pick (b := vA) rfl (pick_t d6 rfl)) .plain rfl ?_
    refine EL_nil ?_
    obtain rfl := sinj h
    exact hQ _ _ ⟨uC, hfr, rfl, rp1, rfl, q1, rfl, q2, rfl⟩
   ·refine EL_pur (v := fPtr p2 0) (P_fieldAddr at_56_0 rfl (PT.ptr q2)) (.yes2 rfl rfl d6) rfl ?_
    have pI := PT_field (part_Standing_0).1 q2
    refine EL_do (.yes2 rfl rfl d6) rfl (D_load (g := uC) Try.isAgg31 Try.sizeOf31 rfl pI fun uM qI => ?_)
    refine EL_pur (v := .int .i64 (((x2).Plan).length : Int)) (P_len Try.underlying31 rfl qI) (.yes2 rfl rfl d6) rfl ?_
    refine EL_pur (v := .bool ((decide ((((x2).Plan).length : Int) > (10 : Int))))) (P_int rfl rfl rfl) (.yes2 rfl rfl d6) rfl ?_
    refine EL_pur (v := .bool ((decide ((((x2).Plan).length : Int) > (10 : Int))))) (P_pick (b := vA) rfl (pick_f d6 rfl)) .plain rfl ?_
    refine EL_nil ?_
    obtain rfl := sinj h
    exact hQ _ _ ⟨uC, hfr, rfl, rp1, rfl, q1, rfl, q2, rfl⟩
  ·clear hx
   obtain ⟨qF, hfr, oE, pE, qE, rE, sE, tE, xA⟩ := hR
   rcases csome h with ⟨jB, h⟩ | ⟨jB, h⟩
   ·refine E_cond_true (Eq.trans (show ev _ _ = .bool (q6) from xA) (congrArg Value.bool jB)) ?_
    refine E_seq (E_region ?_)
    obtain ⟨oB, xF, h⟩ := bsome h
    refine EL_do .plain rfl (D_call (g := qF) (vs := []) en14 .nil (wk14  xF) fun vM xK xM hs hr => ?_)
    have hfr := hfr.ext hs
    subst hr
    refine EL_at (.bool (oB)) rfl rfl ?_
    refine EL_nil (thn_n (E_ret (thn_r ?_)))
    obtain rfl := sinj h
    exact end1 rfl rfl (show _ = .bool (oB) from rfl) ⟨_, hfr, rfl⟩
   ·refine E_cond_false (Eq.trans (show ev _ _ = .bool (q6) from xA) (congrArg Value.bool jB)) ?_
    exact E_skip (thn_n (uF () _ _ ⟨qF, hfr, oE, pE, qE, rE, sE, tE⟩ h))
 ·rintro _ yK yM ⟨rI, hfr, m7, i3, n7, j3, p6, o0⟩ h
  refine E_seq (L_load (x := .tmp 3) Try.isAgg24 Try.sizeOf24 j3 fun rF sI yF => ?_)
  obtain ⟨j8, zF, h⟩ := bsome h
  obtain ⟨k8, aG, h⟩ := bsome h
  have tI := PT_field (part_Standing_0).1 o0
  refine L_load (x := .tmp 34) Try.isAgg31 Try.sizeOf31 tI fun sF uI bG => ?_
  obtain ⟨l8, cG, h⟩ := bsome h
  refine E_drawL (g := rI) (n := 8) [(1, (fun v g w => RV g.m w j8 v)), (3, (fun v g w => RV g.m w k8 v)), (6, (fun v g w => RV g.m w l8 v)), (7, (fun v g w => OB 2007 g w 24 (⟨[], 0⟩ : LoomMill) v))] [0, 1, 2, 3, 4, 5, 6, 7] rfl mixed (by kernel_rfl) (⟨fun _ => up_rv, fun _ => up_rv, fun _ => up_rv, fun _ => up_ob, trivial⟩) ?_
  refine L_ld (c := rF) rfl rfl .plain (fun _ _ h => h.ch) yF n7 ?_
  refine L_do (φ := fun v g w => RV g.m w j8 v) rfl rfl .plain (fun g w hd => D_call (g := g) (vs := [rF]) en15 (.cons rfl .nil) (wk15 (sI.ext hd.1) zF) fun g' w' v hs hr => ⟨g', hs, hr⟩) (fun tF hv => ?_)
  obtain ⟨_, _, _, rq38⟩ := hv
  refine L_pur (c := up1) rfl rfl .plain (fun _ _ hd => P_move m7) ?_
  refine L_do (φ := fun v g w => RV g.m w k8 v) rfl rfl .plain (fun g w hd => D_call (g := g) (vs := [up1]) en16 (.cons rfl .nil) (wk16 (i3.ext hd.1) aG) fun g' w' v hs hr => ⟨g', hs, hr⟩) (fun g8 hv => ?_)
  obtain ⟨_, _, _, rq40⟩ := hv
  refine L_pur (c := fPtr p2 0) rfl rfl .plain (fun _ _ hd => P_fieldAddr at_56_0 p6 (PT.ptr o0)) ?_
  refine L_ld (c := sF) rfl rfl .plain (fun _ _ h => h.ch) bG rfl ?_
  refine L_do (φ := fun v g w => RV g.m w l8 v) rfl rfl .plain (fun g w hd => D_call (g := g) (vs := [sF]) en32 (.cons rfl .nil) (wk32 (uI.ext hd.1) cG) fun g' w' v hs hr => ⟨g', hs, hr⟩) (fun i8 hv => ?_)
  obtain ⟨_, _, _, rq44⟩ := hv
  refine L_do (φ := fun v g w => OB 2007 g w 24 (⟨[], 0⟩ : LoomMill) v) rfl rfl .plain (fun g w hd => D_allocX (g := g) 2007 (⟨[], 0⟩ : LoomMill) Try.zeroValue24 (fun m w => ⟨_, (rep_two rep_nil rep_int), rfl⟩) fun g' w' v hs b => ⟨g', hs, b⟩) (fun vI hv => ?_)
  clear hv
  refine L_nil fun xI zM hall => ?_
  have hs := hall.1
  have hfr := hfr.ext hs
  have i3 := i3.ext hs
  have j3 := j3.ext hs
  have o0 := o0.ext hs
  have yI := (word_all (A := fun g w => RV g.m w j8 tF) 1 rfl hall)
  have r6 := (word_all (A := fun g w => RV g.m w k8 g8) 3 rfl hall)
  have m6 := (word_all (A := fun g w => RV g.m w l8 i8) 6 rfl hall)
  have b58 := (word_all (A := fun g w => OB 2007 g w 24 (⟨[], 0⟩ : LoomMill) vI) 7 rfl hall)
  clear hs hall
  refine EL_do .plain rfl (D_storeOc (g := xI) (v := tF) Try.sizeOf24 rfl b58 rfl yI fun vC aN hs b59 cb => ?_)
  clear cb
  have hfr := hfr.stp hs
  have i3 := i3.stp hs
  have j3 := j3.stp hs
  have o0 := o0.stp hs
  have r6 := r6.stp hs
  have m6 := m6.stp hs
  refine EL_at g8 rfl rfl ?_
  refine EL_at i8 rfl rfl ?_
  refine EL_nil (thn_n (E_seq (E_region (EL_do .plain rfl (D_loadO (g := vC) Try.isAgg24 Try.sizeOf24 rfl b59 fun zI aJ => ?_)))))
  refine EL_mw g8 rfl rfl ?_
  refine EL_mw i8 rfl rfl ?_
  refine EL_pur (v := fPtr p2 1) (P_fieldAddr at_56_1 p6 (PT.ptr o0)) .plain rfl ?_
  have bJ := PT_field (part_Standing_1).1 o0
  refine EL_do .plain rfl (D_load (g := vC) Try.isAgg54 Try.sizeOf54 rfl bJ fun v62 cJ => ?_)
  obtain ⟨z2, dG, h⟩ := bsome h
  refine EL_do .plain rfl (D_call (g := vC) (vs := [zI, g8, i8, v62]) en33 (.cons rfl (.cons rfl (.cons rfl (.cons rfl .nil)))) (wk33 aJ r6 m6 cJ dG) fun xC zK bN hs hr => ?_)
  have hfr := hfr.ext hs
  have i3 := i3.ext hs
  have j3 := j3.ext hs
  have o0 := o0.ext hs
  have r6 := r6.ext hs
  have m6 := m6.ext hs
  have b59 := b59.ext hs
  obtain ⟨o3, nJ, rfl, n4, rfl⟩ := hr
  refine EL_mw (.tuple #[o3, .int .i64 (z2.2)]) rfl rfl ?_
  refine EL_pur (v := o3) (P_extract rfl rfl) .plain rfl ?_
  refine EL_pur (v := .int .i64 (z2.2)) (P_extract rfl rfl) .plain rfl ?_
  refine EL_at o3 rfl rfl ?_
  refine EL_at (.int .i64 (z2.2)) rfl rfl ?_
  refine EL_nil (thn_n (E_seq (E_region (EL_do .plain rfl (D_loadO (g := xC) Try.isAgg24 Try.sizeOf24 rfl b59 fun dJ eJ => ?_)))))
  refine EL_mw g8 rfl rfl ?_
  refine EL_mw i8 rfl rfl ?_
  refine EL_pur (v := fPtr p2 1) (P_fieldAddr at_56_1 p6 (PT.ptr o0)) .plain rfl ?_
  have gJ := PT_field (part_Standing_1).1 o0
  refine EL_do .plain rfl (D_load (g := xC) Try.isAgg54 Try.sizeOf54 rfl gJ fun iJ jJ => ?_)
  obtain ⟨j0, eG, h⟩ := bsome h
  refine EL_do .plain rfl (D_call (g := xC) (vs := [dJ, g8, i8, iJ]) en34 (.cons rfl (.cons rfl (.cons rfl (.cons rfl .nil)))) (wk34 eJ r6 m6 jJ eG) fun yC aL cN hs hr => ?_)
  have hfr := hfr.ext hs
  have i3 := i3.ext hs
  have j3 := j3.ext hs
  have o0 := o0.ext hs
  have r6 := r6.ext hs
  have m6 := m6.ext hs
  have b59 := b59.ext hs
  have n4 := n4.ext hs
  obtain ⟨u0, j1, oJ, rfl, z4, c5, rfl⟩ := hr
  refine EL_mw (.tuple #[u0, j1, .int .i64 (j0.2.2)]) rfl rfl ?_
  refine EL_pur (v := u0) (P_extract rfl rfl) .plain rfl ?_
  refine EL_pur (v := j1) (P_extract rfl rfl) .plain rfl ?_
  refine EL_pur (v := .int .i64 (j0.2.2)) (P_extract rfl rfl) .plain rfl ?_
  refine EL_at u0 rfl rfl ?_
  refine EL_at j1 rfl rfl ?_
  refine EL_at (.int .i64 (j0.2.2)) rfl rfl ?_
  refine EL_nil (thn_n (E_joinC h (fun (s : Unit) e w => ∃ (g : Gh) , Fr gI wI g w ∧ e 1 = up1 ∧ RV g.m w (x1 : List LoomOrder) up1 ∧ e 3 = p1 ∧ PT g.m w (x0 : LoomMill) p1 ∧ e 5 = p2 ∧ PT g.m w (x2 : Standing) p2 ∧ e 10 = o3 ∧ RV g.m w (z2.1 : List Int) o3 ∧ e 11 = .int .i64 (z2.2) ∧ e 12 = u0 ∧ RV g.m w (j0.1 : List LoomRun) u0 ∧ e 13 = j1 ∧ RV g.m w (j0.2.1 : List Int) j1 ∧ e 14 = .int .i64 (j0.2.2)) (fun X96 pF gG h => ?_) ?_))
  ·obtain ⟨l6, hx, h⟩ := bsome h
   refine E_join (fun e w => ∃ (g : Gh) , Fr gI wI g w ∧ e 1 = up1 ∧ RV g.m w (x1 : List LoomOrder) up1 ∧ e 3 = p1 ∧ PT g.m w (x0 : LoomMill) p1 ∧ e 5 = p2 ∧ PT g.m w (x2 : Standing) p2 ∧ e 10 = o3 ∧ RV g.m w (z2.1 : List Int) o3 ∧ e 11 = .int .i64 (z2.2) ∧ e 12 = u0 ∧ RV g.m w (j0.1 : List LoomRun) u0 ∧ e 13 = j1 ∧ RV g.m w (j0.2.1 : List Int) j1 ∧ e 14 = .int .i64 (j0.2.2) ∧ e 72 = .bool (l6)) (fun Q' hQ => ?_) (fun pJ bL hR => ?_)
   ·replace h := hx
    clear hx
    refine E_region (EL_do .plain rfl (D_loadO (g := yC) Try.isAgg24 Try.sizeOf24 rfl b59 fun hG iG => ?_))
    refine EL_do .plain rfl (D_load (g := yC) Try.isAgg24 Try.sizeOf24 n7 j3 fun jG kG => ?_)
    obtain ⟨a8, uE, h⟩ := bsome h
    refine EL_do .plain rfl (D_call (g := yC) (vs := [hG, jG]) en18 (.cons rfl (.cons rfl .nil)) (wk18 iG kG uE) fun zC qJ cL hs hr => ?_)
    have hfr := hfr.ext hs
    have i3 := i3.ext hs
    have j3 := j3.ext hs
    have o0 := o0.ext hs
    have r6 := r6.ext hs
    have m6 := m6.ext hs
    have n4 := n4.ext hs
    have z4 := z4.ext hs
    have c5 := c5.ext hs
    subst hr
    refine EL_pur (v := .bool (!a8)) (P_not rfl) .plain rfl ?_
    refine EL_mw (.bool (!a8)) rfl rfl ?_
    rcases csome h with ⟨o4, h⟩ | ⟨o4, h⟩
    ·refine EL_skip (.no2 rfl rfl o4 rfl) rfl ?_
     refine EL_skip (.no2 rfl rfl o4 rfl) rfl ?_
     refine EL_skip (.no2 rfl rfl o4 rfl) rfl ?_
     refine EL_skip (.no2 rfl rfl o4 rfl) rfl ?_
     refine EL_pur (v := .bool true) (P_pick (b := (!a8)) rfl (pick_t o4 rfl)) .plain rfl ?_
     refine EL_dead 7 rfl ?_
     refine EL_nil ?_
     obtain rfl := sinj h
     exact hQ _ _ ⟨zC, hfr, m7, i3, n7, j3, p6, o0, rfl, n4, rfl, rfl, z4, rfl, c5, rfl, rfl⟩
    ·refine EL_pur (v := g8) (P_move rfl) (.yes2 rfl rfl o4) rfl ?_
     refine EL_pur (v := up1) (P_move m7) (.yes2 rfl rfl o4) rfl ?_
     obtain ⟨e7, vE, h⟩ := bsome h
     refine EL_do (.yes2 rfl rfl o4) rfl (D_call (g := zC) (vs := [g8, up1]) en19 (.cons rfl (.cons rfl .nil)) (wk19 r6 i3 vE) fun kB rJ dL hs hr => ?_)
     have hfr := hfr.ext hs
     have i3 := i3.ext hs
     have j3 := j3.ext hs
     have o0 := o0.ext hs
     have m6 := m6.ext hs
     have n4 := n4.ext hs
     have z4 := z4.ext hs
     have c5 := c5.ext hs
     subst hr
     refine EL_pur (v := .bool (!e7)) (P_not rfl) (.yes2 rfl rfl o4) rfl ?_
     refine EL_pur (v := .bool (!e7)) (P_pick (b := (!a8)) rfl (pick_f o4 rfl)) .plain rfl ?_
     refine EL_mw (.bool (!e7)) rfl rfl ?_
     rcases csome h with ⟨i4, h⟩ | ⟨i4, h⟩
     ·refine EL_skip (.no2 rfl rfl i4 rfl) rfl ?_
      refine EL_skip (.no2 rfl rfl i4 rfl) rfl ?_
      refine EL_skip (.no2 rfl rfl i4 rfl) rfl ?_
      refine EL_skip (.no2 rfl rfl i4 rfl) rfl ?_
      refine EL_skip (.no2 rfl rfl i4 rfl) rfl ?_
      refine EL_pur (v := .bool true) (P_pick (b := (!e7)) rfl (pick_t i4 rfl)) .plain rfl ?_
      refine EL_nil ?_
      obtain rfl := sinj h
      exact hQ _ _ ⟨kB, hfr, m7, i3, n7, j3, p6, o0, rfl, n4, rfl, rfl, z4, rfl, c5, rfl, rfl⟩
     ·refine EL_pur (v := i8) (P_move rfl) (.yes2 rfl rfl i4) rfl ?_
      refine EL_pur (v := fPtr p2 0) (P_fieldAddr at_56_0 p6 (PT.ptr o0)) (.yes2 rfl rfl i4) rfl ?_
      have lG := PT_field (part_Standing_0).1 o0
      refine EL_do (.yes2 rfl rfl i4) rfl (D_load (g := kB) Try.isAgg31 Try.sizeOf31 rfl lG fun mG nG => ?_)
      obtain ⟨gA, xE, h⟩ := bsome h
      refine EL_do (.yes2 rfl rfl i4) rfl (D_call (g := kB) (vs := [i8, mG]) en22 (.cons rfl (.cons rfl .nil)) (wk22 m6 nG xE) fun oG sJ eL hs hr => ?_)
      have hfr := hfr.ext hs
      have i3 := i3.ext hs
      have j3 := j3.ext hs
      have o0 := o0.ext hs
      have n4 := n4.ext hs
      have z4 := z4.ext hs
      have c5 := c5.ext hs
      subst hr
      refine EL_pur (v := .bool (!gA)) (P_not rfl) (.yes2 rfl rfl i4) rfl ?_
      refine EL_pur (v := .bool (!gA)) (P_pick (b := (!e7)) rfl (pick_f i4 rfl)) .plain rfl ?_
      refine EL_nil ?_
      obtain rfl := sinj h
      exact hQ _ _ ⟨oG, hfr, m7, i3, n7, j3, p6, o0, rfl, n4, rfl, rfl, z4, rfl, c5, rfl, rfl⟩
   ·clear hx
    obtain ⟨pG, hfr, aD, bD, cD, dD, eD, gD, pB, qB, rB, sB, tB, uB, vB, xB, r8⟩ := hR
    rcases csome h with ⟨iA, h⟩ | ⟨iA, h⟩
    ·refine E_cond_true (Eq.trans (show ev _ _ = .bool (l6) from r8) (congrArg Value.bool iA)) ?_
     refine E_seq (E_region (EL_at (.bool false) rfl rfl ?_))
     refine EL_nil (thn_n (E_ret (thn_r ?_)))
     obtain rfl := sinj h
     exact end1 rfl rfl (show _ = .bool false from rfl) ⟨_, hfr, rfl⟩
    ·refine E_cond_false (Eq.trans (show ev _ _ = .bool (l6) from r8) (congrArg Value.bool iA)) ?_
     exact E_skip (thn_n (gG () _ _ ⟨pG, hfr, aD, bD, cD, dD, eD, gD, pB, qB, rB, sB, tB, uB, vB, xB⟩ h))
  ·rintro _ tJ gL ⟨iD, hfr, o7, p4, p7, u4, m8, x4, t8, t5, v8, x8, u5, y8, x5, z8⟩ h
   refine E_seq (E_region (EL_do .plain rfl (D_load (g := iD) Try.isAgg24 Try.sizeOf24 p7 u4 fun qG rG => ?_)))
   refine EL_mv o7 rfl ?_
   obtain ⟨y7, yE, h⟩ := bsome h
   refine EL_do .plain rfl (D_call (g := iD) (vs := [qG, up1]) en20 (.cons rfl (.cons rfl .nil)) (wk20 rG p4 yE) fun jA uJ iL hs hr => ?_)
   have hfr := hfr.ext hs
   have p4 := p4.ext hs
   have u4 := u4.ext hs
   have x4 := x4.ext hs
   have t5 := t5.ext hs
   have u5 := u5.ext hs
   have x5 := x5.ext hs
   subst hr
   refine EL_at (.int .i64 (y7)) rfl rfl ?_
   refine EL_nil (thn_n ?_)
   obtain ⟨m4, hx, h⟩ := bsome h
   refine E_join (fun e w => ∃ (g : Gh) , Fr gI wI g w ∧ e 1 = up1 ∧ RV g.m w (x1 : List LoomOrder) up1 ∧ e 3 = p1 ∧ PT g.m w (x0 : LoomMill) p1 ∧ e 5 = p2 ∧ PT g.m w (x2 : Standing) p2 ∧ e 10 = o3 ∧ RV g.m w (z2.1 : List Int) o3 ∧ e 11 = .int .i64 (z2.2) ∧ e 12 = u0 ∧ RV g.m w (j0.1 : List LoomRun) u0 ∧ e 13 = j1 ∧ RV g.m w (j0.2.1 : List Int) j1 ∧ e 14 = .int .i64 (j0.2.2) ∧ e 15 = .int .i64 (m4)) (fun Q' hQ => ?_) (fun vJ jL hR => ?_)
   ·replace h := hx
    clear hx
    refine E_seq (E_region (EL_mw (.int .i64 (y7)) rfl rfl ?_))
    refine EL_in (.bool ((y7 == (0 : Int)))) rfl rfl rfl rfl ?_
    refine EL_nil (thn_n ?_)
    rcases csome h with ⟨kA, h⟩ | ⟨kA, h⟩
    ·refine E_ct kA rfl ?_
     refine E_region (EL_do .plain rfl (D_load (g := jA) Try.isAgg24 Try.sizeOf24 p7 u4 fun sG tG => ?_))
     refine EL_mv o7 rfl ?_
     refine EL_pur (v := fPtr p2 0) (P_fieldAddr at_56_0 m8 (PT.ptr x4)) .plain rfl ?_
     have uG := PT_field (part_Standing_0).1 x4
     refine EL_do .plain rfl (D_load (g := jA) Try.isAgg31 Try.sizeOf31 rfl uG fun vG xG => ?_)
     obtain ⟨d7, zE, h⟩ := bsome h
     refine EL_do .plain rfl (D_call (g := jA) (vs := [sG, up1, vG]) en35 (.cons rfl (.cons rfl (.cons rfl .nil))) (wk35 tG p4 xG zE) fun yG xJ kL hs hr => ?_)
     have hfr := hfr.ext hs
     have p4 := p4.ext hs
     have u4 := u4.ext hs
     have x4 := x4.ext hs
     have t5 := t5.ext hs
     have u5 := u5.ext hs
     have x5 := x5.ext hs
     obtain ⟨kJ, lJ, rfl, rfl, rfl⟩ := hr
     refine EL_mw (.tuple #[.int .i64 (d7.1), .int .i64 (d7.2)]) rfl rfl ?_
     refine EL_pur (v := .int .i64 (d7.1)) (P_extract rfl rfl) .plain rfl ?_
     refine EL_pur (v := .int .i64 (d7.2)) (P_extract rfl rfl) .plain rfl ?_
     refine EL_at (.int .i64 (d7.2)) rfl rfl ?_
     refine EL_nil ?_
     obtain rfl := sinj h
     exact hQ _ _ ⟨yG, hfr, o7, p4, p7, u4, m8, x4, t8, t5, v8, x8, u5, y8, x5, z8, rfl⟩
    ·refine E_cf kA rfl ?_
     refine E_skip ?_
     obtain rfl := sinj h
     exact hQ _ _ ⟨jA, hfr, o7, p4, p7, u4, m8, x4, t8, t5, v8, x8, u5, y8, x5, z8, rfl⟩
   ·clear hx
    obtain ⟨jD, hfr, q7, d4, t6, c4, n6, d3, u6, p3, v6, x6, u3, y6, z3, z6, a7⟩ := hR
    refine E_seq (E_region (EL_pur (v := fPtr p2 1) (P_fieldAddr at_56_1 n6 (PT.ptr d3)) .plain rfl ?_))
    have kD := PT_field (part_Standing_1).1 d3
    refine EL_pur (v := fPtr (fPtr p2 1) 1) (P_fieldAddr at_54_1 rfl (PT.ptr kD)) .plain rfl ?_
    have zG := PT_field (part_LoomStop_1).1 kD
    refine EL_do .plain rfl (D_load (g := jD) Try.isAgg48 Try.sizeOf48 rfl zG fun aH lB => ?_)
    refine EL_do .plain rfl (D_allocOc (g := jD) 2016 (⟨0, 0⟩ : Span) Try.zeroValue48 (fun m w => ⟨_, (rep_two rep_int rep_int), rfl⟩) fun bH lL mB hs b143 cb => ?_)
    have hfr := hfr.stp hs
    have d4 := d4.stp hs
    have c4 := c4.stp hs
    have d3 := d3.stp hs
    have p3 := p3.stp hs
    have u3 := u3.stp hs
    have z3 := z3.stp hs
    have lB := lB.stp hs
    clear cb
    refine EL_do .plain rfl (D_storeOc (g := bH) (v := aH) Try.sizeOf48 rfl b143 rfl lB fun lA mL hs b144 cb => ?_)
    clear cb
    have hfr := hfr.stp hs
    have d4 := d4.stp hs
    have c4 := c4.stp hs
    have d3 := d3.stp hs
    have p3 := p3.stp hs
    have u3 := u3.stp hs
    have z3 := z3.stp hs
    refine EL_nil (thn_n ?_)
    obtain ⟨z1, hx, h⟩ := bsome h
    refine E_join (fun e w => ∃ (g : Gh) , Fr gI wI g w ∧ e 1 = up1 ∧ RV g.m w (x1 : List LoomOrder) up1 ∧ e 3 = p1 ∧ PT g.m w (x0 : LoomMill) p1 ∧ e 5 = p2 ∧ PT g.m w (x2 : Standing) p2 ∧ e 10 = o3 ∧ RV g.m w (z2.1 : List Int) o3 ∧ e 11 = .int .i64 (z2.2) ∧ e 12 = u0 ∧ RV g.m w (j0.1 : List LoomRun) u0 ∧ e 13 = j1 ∧ RV g.m w (j0.2.1 : List Int) j1 ∧ e 14 = .int .i64 (j0.2.2) ∧ e 15 = .int .i64 (z1)) (fun Q' hQ => ?_) (fun yJ nL hR => ?_)
    ·replace h := hx
     clear hx
     refine E_block ?_
     refine E_seq (E_region (EL_mv a7 rfl ?_))
     refine EL_in (.bool ((m4 != (0 : Int)))) rfl rfl rfl rfl ?_
     refine EL_at (.bool ((m4 != (0 : Int)))) rfl rfl ?_
     refine EL_nil (thn_n ?_)
     rcases csome h with ⟨mA, h⟩ | ⟨mA, h⟩
     ·refine E_ct mA rfl ?_
      refine E_skip (blk_n ?_)
      obtain rfl := sinj h
      exact hQ _ _ ⟨lA, hfr, q7, d4, t6, c4, n6, d3, u6, p3, v6, x6, u3, y6, z3, z6, a7⟩
     ·refine E_cf mA rfl ?_
      refine E_seq (E_region (EL_pur (v := fPtr p2 1) (P_fieldAddr at_56_1 n6 (PT.ptr d3)) .plain rfl ?_))
      have lD := PT_field (part_Standing_1).1 d3
      refine EL_pur (v := fPtr (fPtr p2 1) 0) (P_fieldAddr at_54_0 rfl (PT.ptr lD)) .plain rfl ?_
      have cH := PT_field (part_LoomStop_0).1 lD
      refine EL_do .plain rfl (D_load (g := lA) Try.isAgg3 Try.sizeOf3 rfl cH fun oL dH => ?_)
      obtain rfl := RV_int.1 dH
      refine EL_pur (v := fPtr p1 0) (P_fieldAddr at_24_0 t6 (PT.ptr c4)) .plain rfl ?_
      have gH := PT_field (part_LoomMill_0).1 c4
      refine EL_do .plain rfl (D_load (g := lA) Try.isAgg22 Try.sizeOf22 rfl gH fun pL iH => ?_)
      refine EL_pur (v := .int .i64 (((x0).Widths).length : Int)) (P_len Try.underlying22 rfl iH) .plain rfl ?_
      refine EL_pur (v := .int .i64 ((w64 ((((x0).Widths).length : Int) - (1 : Int))))) (P_int rfl rfl rfl) .plain rfl ?_
      obtain ⟨aA, aF, h⟩ := bsome h
      refine EL_do .plain rfl (D_call (g := lA) (vs := [.int .i64 (((x2).Stop).Loom), .int .i64 (0), .int .i64 ((w64 ((((x0).Widths).length : Int) - (1 : Int))))]) en36 (.cons rfl (.cons rfl (.cons rfl .nil))) (wk36  aF) fun nA zJ qL hs hr => ?_)
      have hfr := hfr.ext hs
      have d4 := d4.ext hs
      have c4 := c4.ext hs
      have d3 := d3.ext hs
      have p3 := p3.ext hs
      have u3 := u3.ext hs
      have z3 := z3.ext hs
      have b144 := b144.ext hs
      subst hr
      refine EL_pur (v := .bool (!aA)) (P_not rfl) .plain rfl ?_
      refine EL_at (.bool (!aA)) rfl rfl ?_
      refine EL_nil (thn_n ?_)
      rcases csome h with ⟨oA, h⟩ | ⟨oA, h⟩
      ·refine E_ct oA rfl ?_
       refine E_region (EL_at (.int .i64 (7)) rfl rfl ?_)
       refine EL_nil (blk_n ?_)
       obtain rfl := sinj h
       exact hQ _ _ ⟨nA, hfr, q7, d4, t6, c4, n6, d3, u6, p3, v6, x6, u3, y6, z3, z6, rfl⟩
      ·refine E_cf oA rfl ?_
       obtain ⟨a6, hx, h⟩ := bsome h
       refine E_join (fun e w => ∃ (g : Gh) , Fr gI wI g w ∧ e 1 = up1 ∧ RV g.m w (x1 : List LoomOrder) up1 ∧ e 3 = p1 ∧ PT g.m w (x0 : LoomMill) p1 ∧ e 5 = p2 ∧ PT g.m w (x2 : Standing) p2 ∧ e 10 = o3 ∧ RV g.m w (z2.1 : List Int) o3 ∧ e 11 = .int .i64 (z2.2) ∧ e 12 = u0 ∧ RV g.m w (j0.1 : List LoomRun) u0 ∧ e 13 = j1 ∧ RV g.m w (j0.2.1 : List Int) j1 ∧ e 14 = .int .i64 (j0.2.2) ∧ e 15 = .int .i64 (m4) ∧ e 102 = .bool (a6)) (fun Q' hQ => ?_) (fun aK rL hR => ?_)
       ·replace h := hx
        clear hx
        refine E_region (EL_pur (v := fPtr mB 0) (P_fieldAddr at_48_0 rfl (OB.ptr b144)) .plain rfl ?_)
        refine EL_do .plain rfl (D_loadF (g := nA) part_Span_0.1 Try.isAgg3 Try.sizeOf3 rfl b144 fun tL jH => ?_)
        obtain rfl := RV_int.1 jH
        refine EL_pur (v := fPtr mB 1) (P_fieldAddr at_48_1 rfl (OB.ptr b144)) .plain rfl ?_
        refine EL_do .plain rfl (D_loadF (g := nA) part_Span_1.1 Try.isAgg3 Try.sizeOf3 rfl b144 fun uL kH => ?_)
        obtain rfl := RV_int.1 kH
        obtain ⟨z7, bF, h⟩ := bsome h
        refine EL_do .plain rfl (D_call (g := nA) (vs := [.int .i64 ((((x2).Stop).Days).Low), .int .i64 (0), .int .i64 ((((x2).Stop).Days).High)]) en36 (.cons rfl (.cons rfl (.cons rfl .nil))) (wk36  bF) fun nB bK vL hs hr => ?_)
        have hfr := hfr.ext hs
        have d4 := d4.ext hs
        have c4 := c4.ext hs
        have d3 := d3.ext hs
        have p3 := p3.ext hs
        have u3 := u3.ext hs
        have z3 := z3.ext hs
        have b144 := b144.ext hs
        subst hr
        refine EL_pur (v := .bool (!z7)) (P_not rfl) .plain rfl ?_
        refine EL_mw (.bool (!z7)) rfl rfl ?_
        rcases csome h with ⟨d5, h⟩ | ⟨d5, h⟩
        ·refine EL_skip (.no2 rfl rfl d5 rfl) rfl ?_
         refine EL_skip (.no2 rfl rfl d5 rfl) rfl ?_
         refine EL_skip (.no2 rfl rfl d5 rfl) rfl ?_
         refine EL_pur (v := .bool true) (P_pick (b := (!z7)) rfl (pick_t d5 rfl)) .plain rfl ?_
         refine EL_at (.bool true) rfl rfl ?_
         refine EL_nil ?_
         obtain rfl := sinj h
         exact hQ _ _ ⟨nB, hfr, q7, d4, t6, c4, n6, d3, u6, p3, v6, x6, u3, y6, z3, z6, a7, rfl⟩
        ·refine EL_pur (v := fPtr mB 1) (P_fieldAddr at_48_1 rfl (OB.ptr b144)) (.yes2 rfl rfl d5) rfl ?_
         refine EL_do (.yes2 rfl rfl d5) rfl (D_loadF (g := nB) part_Span_1.1 Try.isAgg3 Try.sizeOf3 rfl b144 fun xL lH => ?_)
         obtain rfl := RV_int.1 lH
         refine EL_pur (v := .bool ((decide ((((x2).Stop).Days).High > (300 : Int))))) (P_int rfl rfl rfl) (.yes2 rfl rfl d5) rfl ?_
         refine EL_pur (v := .bool ((decide ((((x2).Stop).Days).High > (300 : Int))))) (P_pick (b := (!z7)) rfl (pick_f d5 rfl)) .plain rfl ?_
         refine EL_pur (v := .bool ((decide ((((x2).Stop).Days).High > (300 : Int))))) (P_assign rfl) .plain rfl ?_
         refine EL_nil ?_
         obtain rfl := sinj h
         exact hQ _ _ ⟨nB, hfr, q7, d4, t6, c4, n6, d3, u6, p3, v6, x6, u3, y6, z3, z6, a7, rfl⟩
       ·clear hx
        obtain ⟨mD, hfr, yA, zA, aB, bB, cB, dB, a9, b9, c9, d9, e9, g9, i9, j9, yB, n8⟩ := hR
        rcases csome h with ⟨pA, h⟩ | ⟨pA, h⟩
        ·refine E_cond_true (Eq.trans (show ev _ _ = .bool (a6) from n8) (congrArg Value.bool pA)) ?_
         refine E_region (EL_at (.int .i64 (2)) rfl rfl ?_)
         refine EL_nil (blk_n ?_)
         obtain rfl := sinj h
         exact hQ _ _ ⟨mD, hfr, yA, zA, aB, bB, cB, dB, a9, b9, c9, d9, e9, g9, i9, j9, rfl⟩
        ·refine E_cond_false (Eq.trans (show ev _ _ = .bool (a6) from n8) (congrArg Value.bool pA)) ?_
         refine E_skip (blk_n ?_)
         obtain rfl := sinj h
         exact hQ _ _ ⟨mD, hfr, yA, zA, aB, bB, cB, dB, a9, b9, c9, d9, e9, g9, i9, j9, yB⟩
    ·clear hx
     obtain ⟨g7, hfr, nD, oD, pD, qD, rD, sD, k9, l9, m9, n9, o9, p9, q9, r9, b8⟩ := hR
     refine E_joinC h (fun (s : Unit) e w => ∃ (g : Gh) , Fr gI wI g w ∧ e 1 = up1 ∧ RV g.m w (x1 : List LoomOrder) up1 ∧ e 3 = p1 ∧ PT g.m w (x0 : LoomMill) p1 ∧ e 5 = p2 ∧ PT g.m w (x2 : Standing) p2 ∧ e 10 = o3 ∧ RV g.m w (z2.1 : List Int) o3 ∧ e 11 = .int .i64 (z2.2) ∧ e 12 = u0 ∧ RV g.m w (j0.1 : List LoomRun) u0 ∧ e 13 = j1 ∧ RV g.m w (j0.2.1 : List Int) j1 ∧ e 14 = .int .i64 (j0.2.2)) (fun X220 tC cF h => ?_) ?_
     ·refine E_seq (E_region (EL_mv b8 rfl ?_))
      refine EL_in (.bool ((z1 != (0 : Int)))) rfl rfl rfl rfl ?_
      refine EL_nil (thn_n ?_)
      rcases csome h with ⟨qA, h⟩ | ⟨qA, h⟩
      ·refine E_ct qA rfl ?_
       obtain ⟨l7, hx, h⟩ := bsome h
       refine E_join (fun e w => ∃ (g : Gh) , Fr gI wI g w ∧ e 6 = .bool (l7)) (fun Q' hQ => ?_) (fun cK yL hR => ?_)
       ·replace h := hx
        clear hx
        refine E_region (EL_mv m9 rfl ?_)
        refine EL_mv b8 rfl ?_
        refine EL_in (.bool ((z2.2 == z1))) rfl rfl rfl rfl ?_
        refine EL_mw (.bool ((z2.2 == z1))) rfl rfl ?_
        rcases csome h with ⟨i5, h⟩ | ⟨i5, h⟩
        ·refine EL_pur (v := .int .i64 (j0.2.2)) (P_move r9) (.yes2 rfl rfl i5) rfl ?_
         refine EL_pur (v := .int .i64 (z1)) (P_move b8) (.yes2 rfl rfl i5) rfl ?_
         refine EL_pur (v := .bool ((j0.2.2 == z1))) (P_int rfl rfl rfl) (.yes2 rfl rfl i5) rfl ?_
         refine EL_pur (v := .bool ((j0.2.2 == z1))) (P_pick (b := (z2.2 == z1)) rfl (pick_t i5 rfl)) .plain rfl ?_
         refine EL_mw (.bool ((j0.2.2 == z1))) rfl rfl ?_
         rcases csome h with ⟨j5, h⟩ | ⟨j5, h⟩
         ·refine EL_pur (v := o3) (P_move k9) (.yes2 rfl rfl j5) rfl ?_
          refine EL_pur (v := .int .i64 ((z2.1).length : Int)) (P_len Try.underlying22 rfl l9) (.yes2 rfl rfl j5) rfl ?_
          refine EL_pur (v := .bool ((((z2.1).length : Int) == (0 : Int)))) (P_int rfl rfl rfl) (.yes2 rfl rfl j5) rfl ?_
          refine EL_pur (v := .bool ((((z2.1).length : Int) == (0 : Int)))) (P_pick (b := (j0.2.2 == z1)) rfl (pick_t j5 rfl)) .plain rfl ?_
          refine EL_mw (.bool ((((z2.1).length : Int) == (0 : Int)))) rfl rfl ?_
          rcases csome h with ⟨l5, h⟩ | ⟨l5, h⟩
          ·refine EL_pur (v := u0) (P_move n9) (.yes2 rfl rfl l5) rfl ?_
           refine EL_pur (v := .int .i64 ((j0.1).length : Int)) (P_len Try.underlying31 rfl o9) (.yes2 rfl rfl l5) rfl ?_
           refine EL_pur (v := .bool ((((j0.1).length : Int) == (0 : Int)))) (P_int rfl rfl rfl) (.yes2 rfl rfl l5) rfl ?_
           refine EL_pur (v := .bool ((((j0.1).length : Int) == (0 : Int)))) (P_pick (b := (((z2.1).length : Int) == (0 : Int))) rfl (pick_t l5 rfl)) .plain rfl ?_
           refine EL_mw (.bool ((((j0.1).length : Int) == (0 : Int)))) rfl rfl ?_
           rcases csome h with ⟨m5, h⟩ | ⟨m5, h⟩
           ·refine EL_pur (v := j1) (P_move p9) (.yes2 rfl rfl m5) rfl ?_
            refine EL_pur (v := .int .i64 ((j0.2.1).length : Int)) (P_len Try.underlying22 rfl q9) (.yes2 rfl rfl m5) rfl ?_
            refine EL_pur (v := .bool ((((j0.2.1).length : Int) == (0 : Int)))) (P_int rfl rfl rfl) (.yes2 rfl rfl m5) rfl ?_
            refine EL_pur (v := .bool ((((j0.2.1).length : Int) == (0 : Int)))) (P_pick (b := (((j0.1).length : Int) == (0 : Int))) rfl (pick_t m5 rfl)) .plain rfl ?_
            refine EL_mw (.bool ((((j0.2.1).length : Int) == (0 : Int)))) rfl rfl ?_
            rcases csome h with ⟨r7, h⟩ | ⟨r7, h⟩
            ·obtain ⟨eA, dF, h⟩ := bsome h
             refine EL_do (.yes2 rfl rfl r7) rfl (D_call (g := g7) (vs := []) en14 .nil (wk14  dF) fun mH dK zL hs hr => ?_)
             have hfr := hfr.ext hs
             subst hr
             refine EL_pur (v := .bool (eA)) (P_pick (b := (((j0.2.1).length : Int) == (0 : Int))) rfl (pick_t r7 rfl)) .plain rfl ?_
             refine EL_at (.bool (eA)) rfl rfl ?_
             refine EL_nil ?_
             obtain rfl := sinj h
             exact hQ _ _ ⟨mH, hfr, rfl⟩
            ·refine EL_skip (.no2 rfl rfl r7 rfl) rfl ?_
             refine EL_pur (v := .bool false) (P_pick (b := (((j0.2.1).length : Int) == (0 : Int))) rfl (pick_f r7 rfl)) .plain rfl ?_
             refine EL_at (.bool false) rfl rfl ?_
             refine EL_nil ?_
             obtain rfl := sinj h
             exact hQ _ _ ⟨g7, hfr, rfl⟩
           ·refine EL_skip (.no2 rfl rfl m5 rfl) rfl ?_
            refine EL_skip (.no2 rfl rfl m5 rfl) rfl ?_
            refine EL_skip (.no2 rfl rfl m5 rfl) rfl ?_
            refine EL_pur (v := .bool false) (P_pick (b := (((j0.1).length : Int) == (0 : Int))) rfl (pick_f m5 rfl)) .plain rfl ?_
            refine EL_dead 3 rfl ?_
            refine EL_at (.bool false) rfl rfl ?_
            refine EL_nil ?_
            obtain rfl := sinj h
            exact hQ _ _ ⟨g7, hfr, rfl⟩
          ·refine EL_skip (.no2 rfl rfl l5 rfl) rfl ?_
           refine EL_skip (.no2 rfl rfl l5 rfl) rfl ?_
           refine EL_skip (.no2 rfl rfl l5 rfl) rfl ?_
           refine EL_pur (v := .bool false) (P_pick (b := (((z2.1).length : Int) == (0 : Int))) rfl (pick_f l5 rfl)) .plain rfl ?_
           refine EL_dead 8 rfl ?_
           refine EL_at (.bool false) rfl rfl ?_
           refine EL_nil ?_
           obtain rfl := sinj h
           exact hQ _ _ ⟨g7, hfr, rfl⟩
         ·refine EL_skip (.no2 rfl rfl j5 rfl) rfl ?_
          refine EL_skip (.no2 rfl rfl j5 rfl) rfl ?_
          refine EL_skip (.no2 rfl rfl j5 rfl) rfl ?_
          refine EL_pur (v := .bool false) (P_pick (b := (j0.2.2 == z1)) rfl (pick_f j5 rfl)) .plain rfl ?_
          refine EL_dead 13 rfl ?_
          refine EL_at (.bool false) rfl rfl ?_
          refine EL_nil ?_
          obtain rfl := sinj h
          exact hQ _ _ ⟨g7, hfr, rfl⟩
        ·refine EL_skip (.no2 rfl rfl i5 rfl) rfl ?_
         refine EL_skip (.no2 rfl rfl i5 rfl) rfl ?_
         refine EL_skip (.no2 rfl rfl i5 rfl) rfl ?_
         refine EL_pur (v := .bool false) (P_pick (b := (z2.2 == z1)) rfl (pick_f i5 rfl)) .plain rfl ?_
         refine EL_dead 18 rfl ?_
         refine EL_at (.bool false) rfl rfl ?_
         refine EL_nil ?_
         obtain rfl := sinj h
         exact hQ _ _ ⟨g7, hfr, rfl⟩
       ·clear hx
        obtain ⟨aM, hfr, tD⟩ := hR
        refine E_ret (thn_r ?_)
        obtain rfl := sinj h
        exact end1 rfl rfl (show _ = .bool (l7) from tD) ⟨_, hfr, rfl⟩
      ·refine E_cf qA rfl ?_
       exact E_skip (thn_n (cF () _ _ ⟨g7, hfr, nD, oD, pD, qD, rD, sD, k9, l9, m9, n9, o9, p9, q9, r9⟩ h))
     ·rintro _ eK bM ⟨rA, hfr, o8, i6, eB, o6, t7, j4, zB, c8, aC, t9, y5, u9, z5, v9⟩ h
      refine E_joinC h (fun (s : Unit) e w => ∃ (g : Gh) , Fr gI wI g w ∧ e 1 = up1 ∧ RV g.m w (x1 : List LoomOrder) up1 ∧ e 3 = p1 ∧ PT g.m w (x0 : LoomMill) p1 ∧ e 5 = p2 ∧ PT g.m w (x2 : Standing) p2 ∧ e 12 = u0 ∧ RV g.m w (j0.1 : List LoomRun) u0 ∧ e 13 = j1 ∧ RV g.m w (j0.2.1 : List Int) j1 ∧ e 14 = .int .i64 (j0.2.2)) (fun X258 rC eF h => ?_) ?_
      ·obtain ⟨c6, hx, h⟩ := bsome h
       refine E_join (fun e w => ∃ (g : Gh) , Fr gI wI g w ∧ e 1 = up1 ∧ RV g.m w (x1 : List LoomOrder) up1 ∧ e 3 = p1 ∧ PT g.m w (x0 : LoomMill) p1 ∧ e 5 = p2 ∧ PT g.m w (x2 : Standing) p2 ∧ e 12 = u0 ∧ RV g.m w (j0.1 : List LoomRun) u0 ∧ e 13 = j1 ∧ RV g.m w (j0.2.1 : List Int) j1 ∧ e 14 = .int .i64 (j0.2.2) ∧ e 154 = .bool (c6)) (fun Q' hQ => ?_) (fun gK cM hR => ?_)
       ·replace h := hx
        clear hx
        refine E_region (EL_mv aC rfl ?_)
        refine EL_in (.bool ((z2.2 != (0 : Int)))) rfl rfl rfl rfl ?_
        refine EL_mw (.bool ((z2.2 != (0 : Int)))) rfl rfl ?_
        rcases csome h with ⟨j2, h⟩ | ⟨j2, h⟩
        ·refine EL_skip (.no2 rfl rfl j2 rfl) rfl ?_
         refine EL_skip (.no2 rfl rfl j2 rfl) rfl ?_
         refine EL_skip (.no2 rfl rfl j2 rfl) rfl ?_
         refine EL_skip (.no2 rfl rfl j2 rfl) rfl ?_
         refine EL_skip (.no2 rfl rfl j2 rfl) rfl ?_
         refine EL_skip (.no2 rfl rfl j2 rfl) rfl ?_
         refine EL_skip (.no2 rfl rfl j2 rfl) rfl ?_
         refine EL_skip (.no2 rfl rfl j2 rfl) rfl ?_
         refine EL_skip (.no2 rfl rfl j2 rfl) rfl ?_
         refine EL_pur (v := .bool true) (P_pick (b := (z2.2 != (0 : Int))) rfl (pick_t j2 rfl)) .plain rfl ?_
         refine EL_nil ?_
         obtain rfl := sinj h
         exact hQ _ _ ⟨rA, hfr, o8, i6, eB, o6, t7, j4, t9, y5, u9, z5, v9, rfl⟩
        ·refine EL_pur (v := o3) (P_move zB) (.yes2 rfl rfl j2) rfl ?_
         refine EL_pur (v := up1) (P_move o8) (.yes2 rfl rfl j2) rfl ?_
         refine EL_pur (v := fPtr p2 0) (P_fieldAddr at_56_0 t7 (PT.ptr j4)) (.yes2 rfl rfl j2) rfl ?_
         have nH := PT_field (part_Standing_0).1 j4
         refine EL_do (.yes2 rfl rfl j2) rfl (D_load (g := rA) Try.isAgg31 Try.sizeOf31 rfl nH fun oH pH => ?_)
         refine EL_pur (v := fPtr p2 1) (P_fieldAddr at_56_1 t7 (PT.ptr j4)) (.yes2 rfl rfl j2) rfl ?_
         have qH := PT_field (part_Standing_1).1 j4
         refine EL_do (.yes2 rfl rfl j2) rfl (D_load (g := rA) Try.isAgg54 Try.sizeOf54 rfl qH fun sH tH => ?_)
         obtain ⟨sC, gF, h⟩ := bsome h
         refine EL_do (.yes2 rfl rfl j2) rfl (D_call (g := rA) (vs := [up1, oH, sH]) en37 (.cons rfl (.cons rfl (.cons rfl .nil))) (wk37 i6 pH tH gF) fun uH iK vH hs hr => ?_)
         have hfr := hfr.ext hs
         have i6 := i6.ext hs
         have o6 := o6.ext hs
         have j4 := j4.ext hs
         have c8 := c8.ext hs
         have y5 := y5.ext hs
         have z5 := z5.ext hs
         have xH := hr
         obtain ⟨dA, iF, h⟩ := bsome h
         refine EL_do (.yes2 rfl rfl j2) rfl (D_call (g := uH) (vs := [o3, vH]) en28 (.cons rfl (.cons rfl .nil)) (wk28 c8 xH iF) fun yH jK dM hs hr => ?_)
         have hfr := hfr.ext hs
         have i6 := i6.ext hs
         have o6 := o6.ext hs
         have j4 := j4.ext hs
         have y5 := y5.ext hs
         have z5 := z5.ext hs
         subst hr
         refine EL_pur (v := .bool (!dA)) (P_not rfl) (.yes2 rfl rfl j2) rfl ?_
         refine EL_pur (v := .bool (!dA)) (P_pick (b := (z2.2 != (0 : Int))) rfl (pick_f j2 rfl)) .plain rfl ?_
         refine EL_nil ?_
         obtain rfl := sinj h
         exact hQ _ _ ⟨yH, hfr, o8, i6, eB, o6, t7, j4, t9, y5, u9, z5, v9, rfl⟩
       ·clear hx
        obtain ⟨zH, hfr, uD, vD, xD, yD, zD, aE, bC, cC, dC, eC, iC, p8⟩ := hR
        rcases csome h with ⟨sA, h⟩ | ⟨sA, h⟩
        ·refine E_cond_true (Eq.trans (show ev _ _ = .bool (c6) from p8) (congrArg Value.bool sA)) ?_
         refine E_seq (E_region (EL_at (.bool false) rfl rfl ?_))
         refine EL_nil (thn_n (E_ret (thn_r ?_)))
         obtain rfl := sinj h
         exact end1 rfl rfl (show _ = .bool false from rfl) ⟨_, hfr, rfl⟩
        ·refine E_cond_false (Eq.trans (show ev _ _ = .bool (c6) from p8) (congrArg Value.bool sA)) ?_
         exact E_skip (thn_n (eF () _ _ ⟨zH, hfr, uD, vD, xD, yD, zD, aE, bC, cC, dC, eC, iC⟩ h))
      ·rintro _ kK eM ⟨tA, hfr, bE, cE, dE, eE, iB, u7, x9, b7, y9, c7, z9⟩ h
       refine E_seq (E_region (EL_do .plain rfl (D_load (g := tA) Try.isAgg24 Try.sizeOf24 dE eE fun aI bI => ?_)))
       refine EL_mv bE rfl ?_
       refine EL_pur (v := fPtr p2 0) (P_fieldAddr at_56_0 iB (PT.ptr u7)) .plain rfl ?_
       have cI := PT_field (part_Standing_0).1 u7
       refine EL_do .plain rfl (D_load (g := tA) Try.isAgg31 Try.sizeOf31 rfl cI fun dI eI => ?_)
       refine EL_pur (v := fPtr p2 1) (P_fieldAddr at_56_1 iB (PT.ptr u7)) .plain rfl ?_
       have iI := PT_field (part_Standing_1).1 u7
       refine EL_do .plain rfl (D_load (g := tA) Try.isAgg54 Try.sizeOf54 rfl iI fun jI kI => ?_)
       obtain ⟨b6, jF, h⟩ := bsome h
       refine EL_do .plain rfl (D_call (g := tA) (vs := [aI, up1, dI, jI]) en38 (.cons rfl (.cons rfl (.cons rfl (.cons rfl .nil)))) (wk38 bI cE eI kI jF) fun q8 lK gM hs hr => ?_)
       have hfr := hfr.ext hs
       have b7 := b7.ext hs
       have c7 := c7.ext hs
       obtain ⟨j6, k6, mJ, rfl, gE, iE, rfl⟩ := hr
       refine EL_mw (.tuple #[j6, k6, .bool (b6.2.2)]) rfl rfl ?_
       refine EL_pur (v := j6) (P_extract rfl rfl) .plain rfl ?_
       refine EL_pur (v := k6) (P_extract rfl rfl) .plain rfl ?_
       refine EL_pur (v := .bool (b6.2.2)) (P_extract rfl rfl) .plain rfl ?_
       refine EL_at j6 rfl rfl ?_
       refine EL_at k6 rfl rfl ?_
       refine EL_at (.bool (b6.2.2)) rfl rfl ?_
       refine EL_nil (thn_n (E_joinC h (fun (s : Unit) e w => ∃ (g : Gh) , Fr gI wI g w ∧ e 12 = u0 ∧ RV g.m w (j0.1 : List LoomRun) u0 ∧ e 13 = j1 ∧ RV g.m w (j0.2.1 : List Int) j1 ∧ e 14 = .int .i64 (j0.2.2) ∧ e 17 = j6 ∧ RV g.m w (b6.1 : List LoomRun) j6 ∧ e 18 = k6 ∧ RV g.m w (b6.2.1 : List Int) k6) (fun X299 qC kF h => ?_) ?_))
       ·refine E_seq (E_region (EL_mw (.bool (b6.2.2)) rfl rfl ?_))
        refine EL_pur (v := .bool (!b6.2.2)) (P_not rfl) .plain rfl ?_
        refine EL_nil (thn_n ?_)
        rcases csome h with ⟨uA, h⟩ | ⟨uA, h⟩
        ·refine E_ct uA rfl ?_
         obtain ⟨j7, hx, h⟩ := bsome h
         refine E_join (fun e w => ∃ (g : Gh) , Fr gI wI g w ∧ e 6 = .bool (j7)) (fun Q' hQ => ?_) (fun mK iM hR => ?_)
         ·replace h := hx
          clear hx
          refine E_region (EL_mv z9 rfl ?_)
          refine EL_in (.bool ((j0.2.2 == (8 : Int)))) rfl rfl rfl rfl ?_
          refine EL_mw (.bool ((j0.2.2 == (8 : Int)))) rfl rfl ?_
          rcases csome h with ⟨n5, h⟩ | ⟨n5, h⟩
          ·refine EL_pur (v := u0) (P_move x9) (.yes2 rfl rfl n5) rfl ?_
           refine EL_pur (v := .int .i64 ((j0.1).length : Int)) (P_len Try.underlying31 rfl b7) (.yes2 rfl rfl n5) rfl ?_
           refine EL_pur (v := .bool ((((j0.1).length : Int) == (0 : Int)))) (P_int rfl rfl rfl) (.yes2 rfl rfl n5) rfl ?_
           refine EL_pur (v := .bool ((((j0.1).length : Int) == (0 : Int)))) (P_pick (b := (j0.2.2 == (8 : Int))) rfl (pick_t n5 rfl)) .plain rfl ?_
           refine EL_mw (.bool ((((j0.1).length : Int) == (0 : Int)))) rfl rfl ?_
           rcases csome h with ⟨o5, h⟩ | ⟨o5, h⟩
           ·refine EL_pur (v := j1) (P_move y9) (.yes2 rfl rfl o5) rfl ?_
            refine EL_pur (v := .int .i64 ((j0.2.1).length : Int)) (P_len Try.underlying22 rfl c7) (.yes2 rfl rfl o5) rfl ?_
            refine EL_pur (v := .bool ((((j0.2.1).length : Int) == (0 : Int)))) (P_int rfl rfl rfl) (.yes2 rfl rfl o5) rfl ?_
            refine EL_pur (v := .bool ((((j0.2.1).length : Int) == (0 : Int)))) (P_pick (b := (((j0.1).length : Int) == (0 : Int))) rfl (pick_t o5 rfl)) .plain rfl ?_
            refine EL_mw (.bool ((((j0.2.1).length : Int) == (0 : Int)))) rfl rfl ?_
            rcases csome h with ⟨v7, h⟩ | ⟨v7, h⟩
            ·obtain ⟨cA, lF, h⟩ := bsome h
             refine EL_do (.yes2 rfl rfl v7) rfl (D_call (g := q8) (vs := []) en14 .nil (wk14  lF) fun lI nK jM hs hr => ?_)
             have hfr := hfr.ext hs
             subst hr
             refine EL_pur (v := .bool (cA)) (P_pick (b := (((j0.2.1).length : Int) == (0 : Int))) rfl (pick_t v7 rfl)) .plain rfl ?_
             refine EL_at (.bool (cA)) rfl rfl ?_
             refine EL_nil ?_
             obtain rfl := sinj h
             exact hQ _ _ ⟨lI, hfr, rfl⟩
            ·refine EL_skip (.no2 rfl rfl v7 rfl) rfl ?_
             refine EL_pur (v := .bool false) (P_pick (b := (((j0.2.1).length : Int) == (0 : Int))) rfl (pick_f v7 rfl)) .plain rfl ?_
             refine EL_at (.bool false) rfl rfl ?_
             refine EL_nil ?_
             obtain rfl := sinj h
             exact hQ _ _ ⟨q8, hfr, rfl⟩
           ·refine EL_skip (.no2 rfl rfl o5 rfl) rfl ?_
            refine EL_skip (.no2 rfl rfl o5 rfl) rfl ?_
            refine EL_skip (.no2 rfl rfl o5 rfl) rfl ?_
            refine EL_pur (v := .bool false) (P_pick (b := (((j0.1).length : Int) == (0 : Int))) rfl (pick_f o5 rfl)) .plain rfl ?_
            refine EL_dead 3 rfl ?_
            refine EL_at (.bool false) rfl rfl ?_
            refine EL_nil ?_
            obtain rfl := sinj h
            exact hQ _ _ ⟨q8, hfr, rfl⟩
          ·refine EL_skip (.no2 rfl rfl n5 rfl) rfl ?_
           refine EL_skip (.no2 rfl rfl n5 rfl) rfl ?_
           refine EL_skip (.no2 rfl rfl n5 rfl) rfl ?_
           refine EL_pur (v := .bool false) (P_pick (b := (j0.2.2 == (8 : Int))) rfl (pick_f n5 rfl)) .plain rfl ?_
           refine EL_dead 8 rfl ?_
           refine EL_at (.bool false) rfl rfl ?_
           refine EL_nil ?_
           obtain rfl := sinj h
           exact hQ _ _ ⟨q8, hfr, rfl⟩
         ·clear hx
          obtain ⟨kM, hfr, jE⟩ := hR
          refine E_ret (thn_r ?_)
          obtain rfl := sinj h
          exact end1 rfl rfl (show _ = .bool (j7) from jE) ⟨_, hfr, rfl⟩
        ·refine E_cf uA rfl ?_
         exact E_skip (thn_n (kF () _ _ ⟨q8, hfr, x9, b7, y9, c7, z9, rfl, gE, rfl, iE⟩ h))
       ·rintro _ oK mM ⟨kE, hfr, jC, kC, lC, d8, mC, nC, oC, pC, e8⟩ h
        obtain ⟨i7, hx, h⟩ := bsome h
        refine E_join (fun e w => ∃ (g : Gh) , Fr gI wI g w ∧ e 6 = .bool (i7)) (fun Q' hQ => ?_) (fun pK nM hR => ?_)
        ·replace h := hx
         clear hx
         refine E_region (EL_mv mC rfl ?_)
         refine EL_in (.bool ((j0.2.2 == (0 : Int)))) rfl rfl rfl rfl ?_
         refine EL_mw (.bool ((j0.2.2 == (0 : Int)))) rfl rfl ?_
         rcases csome h with ⟨p5, h⟩ | ⟨p5, h⟩
         ·refine EL_pur (v := u0) (P_move jC) (.yes2 rfl rfl p5) rfl ?_
          refine EL_pur (v := j6) (P_move nC) (.yes2 rfl rfl p5) rfl ?_
          obtain ⟨y324, mF, h⟩ := bsome h
          refine EL_do (.yes2 rfl rfl p5) rfl (D_call (g := kE) (vs := [u0, j6]) en22 (.cons rfl (.cons rfl .nil)) (wk22 kC oC mF) fun lE qK oM hs hr => ?_)
          have hfr := hfr.ext hs
          have d8 := d8.ext hs
          have e8 := e8.ext hs
          subst hr
          refine EL_pur (v := .bool (y324)) (P_pick (b := (j0.2.2 == (0 : Int))) rfl (pick_t p5 rfl)) .plain rfl ?_
          refine EL_mw (.bool (y324)) rfl rfl ?_
          rcases csome h with ⟨q5, h⟩ | ⟨q5, h⟩
          ·refine EL_pur (v := j1) (P_move lC) (.yes2 rfl rfl q5) rfl ?_
           refine EL_pur (v := k6) (P_move pC) (.yes2 rfl rfl q5) rfl ?_
           obtain ⟨y327, nF, h⟩ := bsome h
           refine EL_do (.yes2 rfl rfl q5) rfl (D_call (g := lE) (vs := [j1, k6]) en28 (.cons rfl (.cons rfl .nil)) (wk28 d8 e8 nF) fun mE sK pM hs hr => ?_)
           have hfr := hfr.ext hs
           subst hr
           refine EL_pur (v := .bool (y327)) (P_pick (b := y324) rfl (pick_t q5 rfl)) .plain rfl ?_
           refine EL_mw (.bool (y327)) rfl rfl ?_
           rcases csome h with ⟨x7, h⟩ | ⟨x7, h⟩
           ·obtain ⟨bA, oF, h⟩ := bsome h
            refine EL_do (.yes2 rfl rfl x7) rfl (D_call (g := mE) (vs := []) en14 .nil (wk14  oF) fun mI tK qM hs hr => ?_)
            have hfr := hfr.ext hs
            subst hr
            refine EL_pur (v := .bool (bA)) (P_pick (b := y327) rfl (pick_t x7 rfl)) .plain rfl ?_
            refine EL_at (.bool (bA)) rfl rfl ?_
            refine EL_nil ?_
            obtain rfl := sinj h
            exact hQ _ _ ⟨mI, hfr, rfl⟩
           ·refine EL_skip (.no2 rfl rfl x7 rfl) rfl ?_
            refine EL_pur (v := .bool false) (P_pick (b := y327) rfl (pick_f x7 rfl)) .plain rfl ?_
            refine EL_at (.bool false) rfl rfl ?_
            refine EL_nil ?_
            obtain rfl := sinj h
            exact hQ _ _ ⟨mE, hfr, rfl⟩
          ·refine EL_skip (.no2 rfl rfl q5 rfl) rfl ?_
           refine EL_skip (.no2 rfl rfl q5 rfl) rfl ?_
           refine EL_skip (.no2 rfl rfl q5 rfl) rfl ?_
           refine EL_pur (v := .bool false) (P_pick (b := y324) rfl (pick_f q5 rfl)) .plain rfl ?_
           refine EL_dead 3 rfl ?_
           refine EL_at (.bool false) rfl rfl ?_
           refine EL_nil ?_
           obtain rfl := sinj h
           exact hQ _ _ ⟨lE, hfr, rfl⟩
         ·refine EL_skip (.no2 rfl rfl p5 rfl) rfl ?_
          refine EL_skip (.no2 rfl rfl p5 rfl) rfl ?_
          refine EL_skip (.no2 rfl rfl p5 rfl) rfl ?_
          refine EL_pur (v := .bool false) (P_pick (b := (j0.2.2 == (0 : Int))) rfl (pick_f p5 rfl)) .plain rfl ?_
          refine EL_dead 8 rfl ?_
          refine EL_at (.bool false) rfl rfl ?_
          refine EL_nil ?_
          obtain rfl := sinj h
          exact hQ _ _ ⟨kE, hfr, rfl⟩
        ·clear hx
         obtain ⟨rM, hfr, nE⟩ := hR
         refine E_ret ?_
         obtain rfl := sinj h
         exact end1 rfl rfl (show _ = .bool (i7) from nE) ⟨_, hfr, rfl⟩
end Go.Proofs.Ytnfjhdagbknlbaa
