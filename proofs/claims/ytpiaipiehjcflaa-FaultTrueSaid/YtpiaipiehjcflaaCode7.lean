import Derived.Test.YtpiaipiehjcflaaCode6
set_option maxRecDepth 8000
set_option maxHeartbeats 4000000
namespace Go.Proofs.Ytpiaipiehjcflaa
open Go.RowKit
/-- griffe/griffelaw05.FaultTrue -/
def f12 (x0 : Mill) (x1 : List (Vector UInt8 2)) : Option (Bool) :=
 (f42 x0).bind fun y4 =>
 (f43 x0 y4 ((1 : Int))).bind fun y10 =>
 (idx y10 (0 : Int)).bind fun y11 =>
 (f45 y4 ((120 : Int)) (([y11] : List FaultDamage))).bind fun u4 =>
 (f44 y4).bind fun y23 =>
 (f47 y23).bind fun i4 =>
 jn (σ := Unit) (fun (_ : Unit) =>
  jn (σ := Unit) (fun (_ : Unit) =>
   (f15).bind fun zD =>
   some (zD)
   ) fun rO =>
  lp (σ := (List FaultSight) × (List FaultDamage) × Int) (fun sO (n0, d2, o0) =>
   jn (σ := Unit) (fun (_ : Unit) =>
    jn (σ := (List FaultSight) × (List FaultDamage)) (fun (xA, yA) =>
     sO (xA, yA, (w64 (o0 + (1 : Int))))
     ) fun dJ =>
    (f44 y4).bind fun tO =>
    (f31 n0).bind fun uO =>
    (f32 tO uO).bind fun j1 =>
    jn (σ := Unit) (fun (_ : Unit) =>
     (f45 y4 ((120 : Int)) ([])).bind fun i3 =>
     jn (σ := Unit) (fun (_ : Unit) =>
      jn (σ := Unit) (fun (_ : Unit) =>
       jn (σ := Unit) (fun (_ : Unit) =>
        jn (σ := (List FaultDamage)) (fun q8 =>
         bif (decide (o0 < ((x1).length : Int))) then
          (idx x1 o0).bind fun vO =>
          (idx (vO).toList (0 : Int)).bind fun aE =>
          (rem64 ((aE).toNat : Int) (120 : Int)).bind fun l6 =>
          (idx x1 o0).bind fun xO =>
          (idx (xO).toList (1 : Int)).bind fun bE =>
          (rem64 ((bE).toNat : Int) ((((y4).Harness).Warps).length : Int)).bind fun r6 =>
          (idx (u4.1) l6).bind fun yO =>
          (idx (yO).b r6).bind fun u7 =>
          (apnd 24 n0 (([(⟨l6, r6, (u7 == (120 : UInt8))⟩ : FaultSight)] : List FaultSight))).bind fun eJ =>
          dJ (eJ, q8)
         else
          dJ (n0, q8)
         ) fun zO =>
        bif (!i3.2) then
         some (false)
        else
         zO (j1.1)
        ) fun aP =>
       lp (σ := Int) (fun bP z2 =>
        jn (σ := Unit) (fun (_ : Unit) =>
         jn (σ := Unit) (fun (_ : Unit) =>
          bP ((w64 (z2 + (1 : Int))))
          ) fun cP =>
         (idx n0 (w64 (((n0).length : Int) - (1 : Int)))).bind fun t6 =>
         (idx d2 z2).bind fun m6 =>
         (f45 y4 ((120 : Int)) (([m6] : List FaultDamage))).bind fun o4 =>
         Option.bind (α := Bool) (
          bif (!o4.2) then
           some (true)
          else
           (idx d2 z2).bind fun dP =>
           (f48 (j1.1) dP).bind fun iA =>
           (idx ((o4.1 : List Str)) (t6).Pick).bind fun gJ =>
           (idx (gJ).b (t6).Warp).bind fun k9 =>
           some ((!(iA == ((k9 == (120 : UInt8)) == (t6).Lifted))))
          ) fun x7 =>
         bif x7 then
          some (false)
         else
          cP ()
         ) fun eP =>
        Option.bind (α := Bool) (
         bif (decide (z2 < ((d2).length : Int))) then
          bif (decide (z2 < (40 : Int))) then
           some ((decide (o0 > (0 : Int))))
          else
           some (false)
         else
          some (false)
         ) fun y7 =>
        bif y7 then
         eP ()
        else
         aP ()
        ) big ((0 : Int))
       ) fun gP =>
      lp (σ := Int) (fun hP q2 =>
       jn (σ := Unit) (fun (_ : Unit) =>
        jn (σ := Unit) (fun (_ : Unit) =>
         hP ((w64 (q2 + (1 : Int))))
         ) fun iP =>
        jn (σ := Unit) (fun (_ : Unit) =>
         (idx (j1.1) q2).bind fun n6 =>
         (f45 y4 ((120 : Int)) (([n6] : List FaultDamage))).bind fun c5 =>
         Option.bind (α := Bool) (
          lp (σ := Bool × Int) (fun jP (l7, o3) =>
           jn (σ := Unit) (fun (_ : Unit) =>
            Option.bind (α := Bool) (
             (idx n0 o3).bind fun cE =>
             (idx ((c5.1 : List Str)) (cE).Pick).bind fun iJ =>
             (idx n0 o3).bind fun jJ =>
             (idx (iJ).b (jJ).Warp).bind fun jA =>
             (idx n0 o3).bind fun zA =>
             some (((jA == (120 : UInt8)) == (zA).Lifted))
             ) fun o9 =>
            jP (o9, (w64 (o3 + (1 : Int))))
            ) fun kP =>
           Option.bind (α := Bool) (
            bif (decide (o3 < ((n0).length : Int))) then
             some (l7)
            else
             some (false)
            ) fun z7 =>
           bif z7 then
            kP ()
           else
            some (l7)
           ) big (c5.2, (0 : Int))
          ) fun p9 =>
         bif (!p9) then
          some (false)
         else
          iP ()
         ) fun lP =>
        Option.bind (α := Bool) (
         (idx (j1.1) q2).bind fun mP =>
         (f48 (i4.1) mP).bind fun l9 =>
         bif (!l9) then
          some (true)
         else
          bif (decide (o0 > (0 : Int))) then
           (idx (j1.1) q2).bind fun nP =>
           (f48 d2 nP).bind fun aB =>
           some ((!aB))
          else
           some (false)
         ) fun a8 =>
        bif a8 then
         some (false)
        else
         lP ()
        ) fun oP =>
       Option.bind (α := Bool) (
        bif (decide (q2 < ((j1.1).length : Int))) then
         some ((decide (q2 < (40 : Int))))
        else
         some (false)
        ) fun b8 =>
       bif b8 then
        oP ()
       else
        gP ()
       ) big ((0 : Int))
      ) fun pP =>
     lp (σ := Int) (fun qP d3 =>
      jn (σ := Unit) (fun (_ : Unit) =>
       jn (σ := Unit) (fun (_ : Unit) =>
        qP ((w64 (d3 + (1 : Int))))
        ) fun sP =>
       Option.bind (α := Bool) (
        bif j1.2.1 then
         (idx n0 d3).bind fun dE =>
         (idx (i3.1) (dE).Pick).bind fun kJ =>
         (idx n0 d3).bind fun lJ =>
         (idx (kJ).b (lJ).Warp).bind fun kA =>
         (idx n0 d3).bind fun bB =>
         some ((!((kA == (120 : UInt8)) == (bB).Lifted)))
        else
         some (false)
        ) fun c8 =>
       bif c8 then
        some (false)
       else
        sP ()
       ) fun tP =>
      Option.bind (α := Bool) (
       bif (decide (d3 < ((n0).length : Int))) then
        some (i3.2)
       else
        some (false)
       ) fun d8 =>
      bif d8 then
       tP ()
      else
       pP ()
      ) big ((0 : Int))
     ) fun uP =>
    Option.bind (α := Bool) (
     bif (j1.2.2 != (0 : Int)) then
      some (true)
     else
      (f48 (j1.1) y11).bind fun d5 =>
      (f48 (i4.1) y11).bind fun i5 =>
      bif (!(d5 == i5)) then
       some (true)
      else
       bif (decide (o0 > (0 : Int))) then
        some ((decide (((j1.1).length : Int) > ((d2).length : Int))))
       else
        some (false)
     ) fun e8 =>
    bif e8 then
     some (false)
    else
     uP ()
    ) fun vP =>
   Option.bind (α := Bool) (
    bif (decide (o0 ≤ ((x1).length : Int))) then
     some ((decide (o0 ≤ (12 : Int))))
    else
     some (false)
    ) fun t8 =>
   bif t8 then
    vP ()
   else
    rO ()
   ) big (([] : List FaultSight), ([] : List FaultDamage), (0 : Int))
  ) fun k32 =>
 Option.bind (α := Bool) (
  bif (!u4.2) then
   some (true)
  else
   bif (i4.2 != (0 : Int)) then
    some (true)
   else
    some ((decide (((i4.1).length : Int) > (1000 : Int))))
  ) fun cB =>
 bif cB then
  some (false)
 else
  k32 ()
theorem wk12 {gI : Gh} {wI : World} {x0 : Mill} {x1 : List (Vector UInt8 2)} {up0 : Value} (rp0 : RV gI.m wI x0 up0) {up1 : Value} (rp1 : RV gI.m wI x1 up1) {r : Bool} (h : f12 x0 x1 = some r) : Fn Try.prog 12 #[up0, up1] gI wI (fun _ _ v => v = .bool (r)) := by
 unfold f12 at h
 refine fn_of_E Try.func12 rfl (Nat.le_of_ble_eq_true rfl) fun g0 hm hfr => ?_
 have rp0 : RV g0.m wI x0 up0 := hm ▸ rp0
 have rp1 : RV g0.m wI x1 up1 := hm ▸ rp1
 show E _ 308 none _ _ _ _ _
 refine E_seq (E_region (EL_do .plain rfl (D_box (g := g0) rfl rp0 fun g1 w1 p1 hs q1 => ?_)))
 have hfr := hfr.ext hs
 have rp1 := rp1.ext hs
 refine EL_at (.bool false) rfl rfl ?_
 refine EL_nil (thn_n (E_seq (E_region (EL_do .plain rfl (D_load (g := g1) Try.isAgg84 Try.sizeOf84 rfl q1 fun v2 r2 => ?_)))))
 obtain ⟨y4, hy4, h⟩ := bsome h
 refine EL_do .plain rfl (D_call (g := g1) (vs := [v2]) en42 (.cons rfl .nil) (wk42 r2 hy4) fun g3 w3_ v3 hs hr => ?_)
 have hfr := hfr.ext hs
 have rp1 := rp1.ext hs
 have q1 := q1.ext hs
 have r3 := hr
 refine EL_do .plain rfl (D_allocOc (g := g3) 2005 (⟨⟨0, []⟩, ⟨0, []⟩⟩ : FaultLoom) Try.zeroValue28 (fun m w => ⟨_, (rep_two (rep_two rep_int rep_nil) (rep_two rep_int rep_nil)), rfl⟩) fun g5 w5 p5 hs b5 cb => ?_)
 have hfr := hfr.stp hs
 have rp1 := rp1.stp hs
 have q1 := q1.stp hs
 have r3 := r3.stp hs
 have l0I : OSF 2005 60501 1 g5 w5 3 28 ([] : List Int) p5 := cb.osf (by rfl)
 have m0I : OSF 2005 60503 3 g5 w5 3 28 ([] : List Int) p5 := cb.osf (by rfl)
 clear cb
 refine EL_do .plain rfl (D_storeOc (g := g5) (v := v3) Try.sizeOf28 rfl b5 rfl r3 fun g6 w6 hs b6 cb => ?_)
 clear cb
 have hfr := hfr.stp hs
 have rp1 := rp1.stp hs
 have q1 := q1.stp hs
 refine EL_nil (thn_n (E_seq (E_region (EL_do .plain rfl (D_load (g := g6) Try.isAgg84 Try.sizeOf84 rfl q1 fun v7 r7 => ?_)))))
 refine EL_do .plain rfl (D_loadO (g := g6) Try.isAgg28 Try.sizeOf28 rfl b6 fun v8 r8 => ?_)
 obtain ⟨y10, k0C, h⟩ := bsome h
 refine EL_do .plain rfl (D_call (g := g6) (vs := [v7, v8, .int .i64 (1)]) en43 (.cons rfl (.cons rfl (.cons rfl .nil))) (wk43 r7 r8 k0C) fun g9 w9_ v9 hs hr => ?_)
 have hfr := hfr.ext hs
 have rp1 := rp1.ext hs
 have b6 := b6.ext hs
 have r9 := hr
 obtain ⟨y11, m07, h⟩ := bsome h
 refine EL_pur (v := ePtr v9 (0 : Int) 5) (P_indexAddr (α := FaultDamage) Try.underlying29 Try.sizeOf62 rfl r9 rfl m07) .plain rfl ?_
 have q12 := PT_idx r9 m07
 refine EL_do .plain rfl (D_load (g := g9) Try.isAgg62 Try.sizeOf62 rfl q12 fun v13 r13 => ?_)
 refine EL_do .plain rfl (D_allocOc (g := g9) 2006 (⟨0, 0, 0, 0, false⟩ : FaultDamage) Try.zeroValue62 (fun m w => ⟨_, (rep_two rep_int (rep_two rep_int (rep_two rep_int (rep_two rep_int rep_bool)))), rfl⟩) fun g14 w14 p3 hs b14 cb => ?_)
 have hfr := hfr.stp hs
 have rp1 := rp1.stp hs
 have b6 := b6.stp hs rfl
 have r13 := r13.stp hs
 clear cb
 refine EL_do .plain rfl (D_storeOc (g := g14) (v := v13) Try.sizeOf62 rfl b14 rfl r13 fun g15 w15 hs b15 cb => ?_)
 clear cb
 have hfr := hfr.stp hs
 have rp1 := rp1.stp hs
 have b6 := b6.stp hs rfl
 refine EL_nil (thn_n (E_seq (E_region (EL_do .plain rfl (D_loadO (g := g15) Try.isAgg28 Try.sizeOf28 rfl b6 fun v16 r16 => ?_)))))
 refine EL_do .plain rfl (D_loadO (g := g15) Try.isAgg62 Try.sizeOf62 rfl b15 fun v17 r17 => ?_)
 refine EL_do .plain rfl (D_buildSlice (g := g15) 3041 (xs := ([y11] : List FaultDamage)) (vs := [v17]) Try.underlying29 Try.sizeOf62 Try.zeroValue62 rfl rfl (.cons rfl .nil) (RVs.cons r17 RVs.nil) rfl rfl fun g18 w18 v18 hs o18 r18 hxt hfl => ?_)
 have hfr := hfr.stp hs
 have rp1 := rp1.stp hs
 have b6 := b6.stp hs rfl
 have b15 := b15.stp hs rfl
 have r16 := r16.stp hs
 obtain ⟨u4, l0C, h⟩ := bsome h
 refine EL_do .plain rfl (D_call (g := g18) (vs := [v16, .int .i64 (120), v18]) en45 (.cons rfl (.cons rfl (.cons rfl .nil))) (wk45 r16 r18 l0C) fun g19 n0I v19 hs hr => ?_)
 have hfr := hfr.ext hs
 have rp1 := rp1.ext hs
 have b6 := b6.ext hs
 have b15 := b15.ext hs
 obtain ⟨i2, j0I, rfl, pA, rfl⟩ := hr
 refine EL_mw (.tuple #[i2, .bool (u4.2)]) rfl rfl ?_
 refine EL_pur (v := i2) (P_extract rfl rfl) .plain rfl ?_
 refine EL_pur (v := .bool (u4.2)) (P_extract rfl rfl) .plain rfl ?_
 refine EL_at i2 rfl rfl ?_
 refine EL_at (.bool (u4.2)) rfl rfl ?_
 refine EL_nil (thn_n (E_seq (E_region (EL_do .plain rfl (D_loadO (g := g19) Try.isAgg28 Try.sizeOf28 rfl b6 fun v21 r21 => ?_)))))
 obtain ⟨y23, m0C, h⟩ := bsome h
 refine EL_do .plain rfl (D_call (g := g19) (vs := [v21]) en44 (.cons rfl .nil) (wk44 r21 m0C) fun g22 o0I v22 hs hr => ?_)
 have hfr := hfr.ext hs
 have rp1 := rp1.ext hs
 have b6 := b6.ext hs
 have b15 := b15.ext hs
 have pA := pA.ext hs
 have r22 := hr
 obtain ⟨i4, n0C, h⟩ := bsome h
 refine EL_do .plain rfl (D_call (g := g22) (vs := [v22]) en47 (.cons rfl .nil) (wk47 r22 n0C) fun g24 p0I v24 hs hr => ?_)
 have hfr := hfr.ext hs
 have rp1 := rp1.ext hs
 have b6 := b6.ext hs
 have b15 := b15.ext hs
 have pA := pA.ext hs
 obtain ⟨z1, k0I, rfl, cJ, rfl⟩ := hr
 refine EL_mw (.tuple #[z1, .int .i64 (i4.2)]) rfl rfl ?_
 refine EL_pur (v := z1) (P_extract rfl rfl) .plain rfl ?_
 refine EL_pur (v := .int .i64 (i4.2)) (P_extract rfl rfl) .plain rfl ?_
 refine EL_at z1 rfl rfl ?_
 refine EL_at (.int .i64 (i4.2)) rfl rfl ?_
 refine EL_nil (thn_n (E_joinC h (fun (s : Unit) e w => ∃ (g : Gh) , Fr gI wI g w ∧ e 1 = up1 ∧ RV g.m w (x1 : List (Vector UInt8 2)) up1 ∧ e 5 = p5 ∧ OB 2005 g w 28 (y4 : FaultLoom) p5 ∧ e 6 = p3 ∧ OB 2006 g w 62 (y11 : FaultDamage) p3 ∧ e 7 = i2 ∧ RV g.m w (u4.1 : List Str) i2 ∧ e 9 = z1 ∧ RV g.m w (i4.1 : List FaultDamage) z1) (fun X32 k32 o0C h => ?_) ?_))
 ·obtain ⟨cB, hx, h⟩ := bsome h
  refine E_join (fun e w => ∃ (g : Gh) , Fr gI wI g w ∧ e 1 = up1 ∧ RV g.m w (x1 : List (Vector UInt8 2)) up1 ∧ e 5 = p5 ∧ OB 2005 g w 28 (y4 : FaultLoom) p5 ∧ e 6 = p3 ∧ OB 2006 g w 62 (y11 : FaultDamage) p3 ∧ e 7 = i2 ∧ RV g.m w (u4.1 : List Str) i2 ∧ e 9 = z1 ∧ RV g.m w (i4.1 : List FaultDamage) z1 ∧ e 61 = .bool (cB)) (fun Q' hQ => ?_) (fun q0I w37 hR => ?_)
  ·replace h := hx
   clear hx
   refine E_region (EL_mw (.bool (u4.2)) rfl rfl ?_)
   refine EL_pur (v := .bool (!u4.2)) (P_not rfl) .plain rfl ?_
   refine EL_mw (.bool (!u4.2)) rfl rfl ?_
   rcases csome h with ⟨oC, h⟩ | ⟨oC, h⟩
   ·refine EL_skip (.no2 rfl rfl oC rfl) rfl ?_
    refine EL_skip (.no2 rfl rfl oC rfl) rfl ?_
    refine EL_pur (v := .bool true) (P_pick (b := (!u4.2)) rfl (pick_t oC rfl)) .plain rfl ?_
    refine EL_dead 5 rfl ?_
    refine EL_nil ?_
    obtain rfl := sinj h
    exact hQ _ _ ⟨g24, hfr, rfl, rp1, rfl, b6, rfl, b15, rfl, pA, rfl, cJ, rfl⟩
   ·refine EL_pur (v := .int .i64 (i4.2)) (P_move rfl) (.yes2 rfl rfl oC) rfl ?_
    refine EL_pur (v := .bool ((i4.2 != (0 : Int)))) (P_int rfl rfl rfl) (.yes2 rfl rfl oC) rfl ?_
    refine EL_pur (v := .bool ((i4.2 != (0 : Int)))) (P_pick (b := (!u4.2)) rfl (pick_f oC rfl)) .plain rfl ?_
    refine EL_mw (.bool ((i4.2 != (0 : Int)))) rfl rfl ?_
    rcases csome h with ⟨qA, h⟩ | ⟨qA, h⟩
    ·refine EL_skip (.no2 rfl rfl qA rfl) rfl ?_
     refine EL_skip (.no2 rfl rfl qA rfl) rfl ?_
     refine EL_skip (.no2 rfl rfl qA rfl) rfl ?_
     refine EL_pur (v := .bool true) (P_pick (b := (i4.2 != (0 : Int))) rfl (pick_t qA rfl)) .plain rfl ?_
     refine EL_nil ?_
     obtain rfl := sinj h
     exact hQ _ _ ⟨g24, hfr, rfl, rp1, rfl, b6, rfl, b15, rfl, pA, rfl, cJ, rfl⟩
    ·refine EL_pur (v := z1) (P_move rfl) (.yes2 rfl rfl qA) rfl ?_
     refine EL_pur (v := .int .i64 ((i4.1).length : Int)) (P_len Try.underlying29 rfl cJ) (.yes2 rfl rfl qA) rfl ?_
     refine EL_pur (v := .bool ((decide (((i4.1).length : Int) > (1000 : Int))))) (P_int rfl rfl rfl) (.yes2 rfl rfl qA) rfl ?_
     refine EL_pur (v := .bool ((decide (((i4.1).length : Int) > (1000 : Int))))) (P_pick (b := (i4.2 != (0 : Int))) rfl (pick_f qA rfl)) .plain rfl ?_
     refine EL_nil ?_
     obtain rfl := sinj h
     exact hQ _ _ ⟨g24, hfr, rfl, rp1, rfl, b6, rfl, b15, rfl, pA, rfl, cJ, rfl⟩
  ·clear hx
   obtain ⟨g37, hfr, m0B, n0B, o0B, p0B, q0B, r0B, s0B, t0B, u0B, v0B, xP⟩ := hR
   rcases csome h with ⟨pY, h⟩ | ⟨pY, h⟩
   ·refine E_cond_true (Eq.trans (show ev _ _ = .bool (cB) from xP) (congrArg Value.bool pY)) ?_
    refine E_seq (E_region (EL_at (.bool false) rfl rfl ?_))
    refine EL_nil (thn_n (E_ret (thn_r ?_)))
    obtain rfl := sinj h
    exact end1 rfl rfl (show _ = .bool false from rfl) ⟨_, hfr, rfl⟩
   ·refine E_cond_false (Eq.trans (show ev _ _ = .bool (cB) from xP) (congrArg Value.bool pY)) ?_
    exact E_skip (thn_n (o0C () _ _ ⟨g37, hfr, m0B, n0B, o0B, p0B, q0B, r0B, s0B, t0B, u0B, v0B⟩ h))
 ·rintro _ r0I w39 ⟨g39, hfr, x0B, eE, y0B, gE, z0B, iE, a0C, jE, b0C, kE⟩ h
  refine E_seq (E_region (EL_do .plain rfl (D_buildSlice (g := g39) 3062 (xs := ([] : List FaultSight)) (vs := []) Try.underlying39 Try.sizeOf56 Try.zeroValue56 rfl rfl .nil RVs.nil rfl rfl fun g40 w40 v40 hs o40 r40 hxt hfl => ?_)))
  have hfr := hfr.stp hs
  have eE := eE.stp hs
  have gE := gE.stp hs rfl
  have iE := iE.stp hs rfl
  have jE := jE.stp hs
  have kE := kE.stp hs
  refine EL_at v40 rfl rfl ?_
  refine EL_nil (thn_n (E_seq (E_region (EL_do .plain rfl (D_buildSlice (g := g40) 3063 (xs := ([] : List FaultDamage)) (vs := []) Try.underlying29 Try.sizeOf62 Try.zeroValue62 rfl rfl .nil RVs.nil rfl rfl fun g41 w41 v41 hs o41 r41 hxt hfl => ?_)))))
  have hfr := hfr.stp hs
  have eE := eE.stp hs
  have gE := gE.stp hs rfl
  have iE := iE.stp hs rfl
  have jE := jE.stp hs
  have kE := kE.stp hs
  have r40 := r40.stp hs
  have o40 := o40.stp hs rfl
  refine EL_at v41 rfl rfl ?_
  refine EL_at (.int .i64 (0)) rfl rfl ?_
  refine EL_nil (thn_n (E_joinC h (fun (s : Unit) e w => ∃ (g : Gh) , Fr gI wI g w) (fun X16626 rO b05 h => ?_) ?_))
  ·refine E_seq (E_region (EL_at (.int .i64 (0)) rfl rfl ?_))
   refine EL_nil (thn_n (E_block ?_))
   refine E_lp h (fun (s : (List FaultSight) × (List FaultDamage) × Int) e w => ∃ (g : Gh) (mJ oF : Value), Fr gI wI g w ∧ e 1 = up1 ∧ RV g.m w (x1 : List (Vector UInt8 2)) up1 ∧ e 5 = p5 ∧ OB 2005 g w 28 (y4 : FaultLoom) p5 ∧ e 6 = p3 ∧ OB 2006 g w 62 (y11 : FaultDamage) p3 ∧ e 7 = i2 ∧ RV g.m w (u4.1 : List Str) i2 ∧ e 9 = z1 ∧ RV g.m w (i4.1 : List FaultDamage) z1 ∧ e 11 = mJ ∧ RV g.m w (s.1 : List FaultSight) mJ ∧ OS 3062 g w 56 (s.1 : List FaultSight) mJ ∧ e 12 = oF ∧ RV g.m w (s.2.1 : List FaultDamage) oF ∧ e 14 = .int .i64 (s.2.2)) ⟨g41, (v40), (v41), hfr, x0B, eE, y0B, gE, z0B, iE, a0C, jE, b0C, kE, rfl, r40, o40, rfl, r41, rfl⟩ (fun X24919 sO c05 => ?_)
   rintro ⟨n0, d2, o0⟩ s0C e0F ⟨yP, j0, i1, hfr, pC, qC, nJ, oJ, pJ, qJ, rJ, sJ, tJ, uJ, pF, qF, rF, sF, tF, q9⟩ h
   refine E_joinC h (fun (s : Unit) e w => ∃ (g : Gh) , Fr gI wI g w ∧ e 1 = up1 ∧ RV g.m w (x1 : List (Vector UInt8 2)) up1 ∧ e 5 = p5 ∧ OB 2005 g w 28 (y4 : FaultLoom) p5 ∧ e 6 = p3 ∧ OB 2006 g w 62 (y11 : FaultDamage) p3 ∧ e 7 = i2 ∧ RV g.m w (u4.1 : List Str) i2 ∧ e 9 = z1 ∧ RV g.m w (i4.1 : List FaultDamage) z1 ∧ e 11 = j0 ∧ RV g.m w (n0 : List FaultSight) j0 ∧ OS 3062 g w 56 (n0 : List FaultSight) j0 ∧ e 12 = i1 ∧ RV g.m w (d2 : List FaultDamage) i1 ∧ e 14 = .int .i64 (o0)) (fun X24925 vP d05 h => ?_) ?_
   ·obtain ⟨t8, hx, h⟩ := bsome h
    refine E_join (fun e w => ∃ (g : Gh) , Fr gI wI g w ∧ e 1 = up1 ∧ RV g.m w (x1 : List (Vector UInt8 2)) up1 ∧ e 5 = p5 ∧ OB 2005 g w 28 (y4 : FaultLoom) p5 ∧ e 6 = p3 ∧ OB 2006 g w 62 (y11 : FaultDamage) p3 ∧ e 7 = i2 ∧ RV g.m w (u4.1 : List Str) i2 ∧ e 9 = z1 ∧ RV g.m w (i4.1 : List FaultDamage) z1 ∧ e 11 = j0 ∧ RV g.m w (n0 : List FaultSight) j0 ∧ OS 3062 g w 56 (n0 : List FaultSight) j0 ∧ e 12 = i1 ∧ RV g.m w (d2 : List FaultDamage) i1 ∧ e 14 = .int .i64 (o0) ∧ e 71 = .bool (t8)) (fun Q' hQ => ?_) (fun t0C g0F hR => ?_)
    ·replace h := hx
     clear hx
     refine E_region (EL_mv q9 rfl ?_)
     refine EL_mv pC rfl ?_
     refine EL_pur (v := .int .i64 ((x1).length : Int)) (P_len Try.underlying94 rfl qC) .plain rfl ?_
     refine EL_in (.bool ((decide (o0 ≤ ((x1).length : Int))))) rfl rfl rfl rfl ?_
     refine EL_mw (.bool ((decide (o0 ≤ ((x1).length : Int))))) rfl rfl ?_
     rcases csome h with ⟨g8, h⟩ | ⟨g8, h⟩
     ·refine EL_pur (v := .int .i64 (o0)) (P_move q9) (.yes2 rfl rfl g8) rfl ?_
      refine EL_pur (v := .bool ((decide (o0 ≤ (12 : Int))))) (P_int rfl rfl rfl) (.yes2 rfl rfl g8) rfl ?_
      refine EL_pur (v := .bool ((decide (o0 ≤ (12 : Int))))) (P_pick (b := (decide (o0 ≤ ((x1).length : Int)))) rfl (pick_t g8 rfl)) .plain rfl ?_
      refine EL_nil ?_
      obtain rfl := sinj h
      exact hQ _ _ ⟨yP, hfr, pC, qC, nJ, oJ, pJ, qJ, rJ, sJ, tJ, uJ, pF, qF, rF, sF, tF, q9, rfl⟩
     ·refine EL_skip (.no2 rfl rfl g8 rfl) rfl ?_
      refine EL_skip (.no2 rfl rfl g8 rfl) rfl ?_
      refine EL_pur (v := .bool false) (P_pick (b := (decide (o0 ≤ ((x1).length : Int)))) rfl (pick_f g8 rfl)) .plain rfl ?_
      refine EL_nil ?_
      obtain rfl := sinj h
      exact hQ _ _ ⟨yP, hfr, pC, qC, nJ, oJ, pJ, qJ, rJ, sJ, tJ, uJ, pF, qF, rF, sF, tF, q9, rfl⟩
    ·clear hx
     obtain ⟨zP, hfr, qY, rY, sY, tY, uY, vY, xY, yY, zY, aZ, aQ, bQ, cQ, dQ, eQ, gQ, uF⟩ := hR
     rcases csome h with ⟨vE, h⟩ | ⟨vE, h⟩
     ·refine E_cond_true (Eq.trans (show ev _ _ = .bool (t8) from uF) (congrArg Value.bool vE)) ?_
      exact E_skip (thn_n (d05 () _ _ ⟨zP, hfr, qY, rY, sY, tY, uY, vY, xY, yY, zY, aZ, aQ, bQ, cQ, dQ, eQ, gQ⟩ h))
     ·refine E_cond_false (Eq.trans (show ev _ _ = .bool (t8) from uF) (congrArg Value.bool vE)) ?_
      refine E_exit ?_
      refine thn_e ?_
      refine thn_e ?_
      refine blk_hit ?_
      exact thn_n (b05 () _ _ ⟨zP, hfr⟩ h)
   ·rintro _ u0C h0F ⟨iQ, hfr, rA, m4, m9, d4, j6, c4, sA, n4, c7, u3, x8, q3, z3, y8, s3, m7⟩ h
    refine E_joinC h (fun (s : (List FaultSight) × (List FaultDamage)) e w => ∃ (g : Gh) (mJ oF : Value), Fr gI wI g w ∧ e 1 = up1 ∧ RV g.m w (x1 : List (Vector UInt8 2)) up1 ∧ e 5 = p5 ∧ OB 2005 g w 28 (y4 : FaultLoom) p5 ∧ e 6 = p3 ∧ OB 2006 g w 62 (y11 : FaultDamage) p3 ∧ e 7 = i2 ∧ RV g.m w (u4.1 : List Str) i2 ∧ e 9 = z1 ∧ RV g.m w (i4.1 : List FaultDamage) z1 ∧ e 11 = mJ ∧ RV g.m w (s.1 : List FaultSight) mJ ∧ OS 3062 g w 56 (s.1 : List FaultSight) mJ ∧ e 12 = oF ∧ RV g.m w (s.2 : List FaultDamage) oF ∧ e 14 = .int .i64 (o0)) (fun X29070 dJ uN h => ?_) ?_
    ·refine E_block ?_
     refine E_seq (E_region (EL_do .plain rfl (D_loadO (g := iQ) Try.isAgg28 Try.sizeOf28 m9 d4 fun s07 t07 => ?_)))
     obtain ⟨tO, e05, h⟩ := bsome h
     refine EL_do .plain rfl (D_call (g := iQ) (vs := [s07]) en44 (.cons rfl .nil) (wk44 t07 e05) fun u07 v0C v07 hs hr => ?_)
     have hfr := hfr.ext hs
     have m4 := m4.ext hs
     have d4 := d4.ext hs
     have c4 := c4.ext hs
     have n4 := n4.ext hs
     have u3 := u3.ext hs
     have q3 := q3.ext hs
     have z3 := z3.ext hs
     have s3 := s3.ext hs
     have vJ := hr
     refine EL_mv x8 rfl ?_
     obtain ⟨uO, g05, h⟩ := bsome h
     refine EL_do .plain rfl (D_call (g := u07) (vs := [j0]) en31 (.cons rfl .nil) (wk31 q3 g05) fun x07 x0C y07 hs hr => ?_)
     have hfr := hfr.ext hs
     have m4 := m4.ext hs
     have d4 := d4.ext hs
     have c4 := c4.ext hs
     have n4 := n4.ext hs
     have u3 := u3.ext hs
     have q3 := q3.ext hs
     have z3 := z3.ext hs
     have s3 := s3.ext hs
     have vJ := vJ.ext hs
     have z07 := hr
     obtain ⟨j1, h05, h⟩ := bsome h
     refine EL_do .plain rfl (D_call (g := x07) (vs := [v07, y07]) en32 (.cons rfl (.cons rfl .nil)) (wk32 vJ z07 h05) fun lE y0C i0F hs hr => ?_)
     have hfr := hfr.ext hs
     have m4 := m4.ext hs
     have d4 := d4.ext hs
     have c4 := c4.ext hs
     have n4 := n4.ext hs
     have u3 := u3.ext hs
     have q3 := q3.ext hs
     have z3 := z3.ext hs
     have s3 := s3.ext hs
     obtain ⟨u0, p0C, q0C, rfl, q4, rfl, rfl⟩ := hr
     refine EL_mw (.tuple #[u0, .bool (j1.2.1), .int .i64 (j1.2.2)]) rfl rfl ?_
     refine EL_pur (v := u0) (P_extract rfl rfl) .plain rfl ?_
     refine EL_pur (v := .bool (j1.2.1)) (P_extract rfl rfl) .plain rfl ?_
     refine EL_pur (v := .int .i64 (j1.2.2)) (P_extract rfl rfl) .plain rfl ?_
     refine EL_at u0 rfl rfl ?_
     refine EL_at (.bool (j1.2.1)) rfl rfl ?_
     refine EL_at (.int .i64 (j1.2.2)) rfl rfl ?_
     refine EL_nil (thn_n (E_joinC h (fun (s : Unit) e w => ∃ (g : Gh) , Fr gI wI g w ∧ e 1 = up1 ∧ RV g.m w (x1 : List (Vector UInt8 2)) up1 ∧ e 5 = p5 ∧ OB 2005 g w 28 (y4 : FaultLoom) p5 ∧ e 6 = p3 ∧ OB 2006 g w 62 (y11 : FaultDamage) p3 ∧ e 7 = i2 ∧ RV g.m w (u4.1 : List Str) i2 ∧ e 9 = z1 ∧ RV g.m w (i4.1 : List FaultDamage) z1 ∧ e 11 = j0 ∧ RV g.m w (n0 : List FaultSight) j0 ∧ OS 3062 g w 56 (n0 : List FaultSight) j0 ∧ e 12 = i1 ∧ RV g.m w (d2 : List FaultDamage) i1 ∧ e 14 = .int .i64 (o0) ∧ e 15 = u0 ∧ RV g.m w (j1.1 : List FaultDamage) u0 ∧ e 16 = .bool (j1.2.1)) (fun X29458 uP i05 h => ?_) ?_))
     ·refine E_seq (E_region (EL_mw (.int .i64 (j1.2.2)) rfl rfl ?_))
      refine EL_at (.int .i64 (j1.2.2)) rfl rfl ?_
      refine EL_nil (thn_n ?_)
      obtain ⟨e8, hx, h⟩ := bsome h
      refine E_join (fun e w => ∃ (g : Gh) , Fr gI wI g w ∧ e 1 = up1 ∧ RV g.m w (x1 : List (Vector UInt8 2)) up1 ∧ e 5 = p5 ∧ OB 2005 g w 28 (y4 : FaultLoom) p5 ∧ e 6 = p3 ∧ OB 2006 g w 62 (y11 : FaultDamage) p3 ∧ e 7 = i2 ∧ RV g.m w (u4.1 : List Str) i2 ∧ e 9 = z1 ∧ RV g.m w (i4.1 : List FaultDamage) z1 ∧ e 11 = j0 ∧ RV g.m w (n0 : List FaultSight) j0 ∧ OS 3062 g w 56 (n0 : List FaultSight) j0 ∧ e 12 = i1 ∧ RV g.m w (d2 : List FaultDamage) i1 ∧ e 14 = .int .i64 (o0) ∧ e 15 = u0 ∧ RV g.m w (j1.1 : List FaultDamage) u0 ∧ e 16 = .bool (j1.2.1) ∧ e 105 = .bool (e8)) (fun Q' hQ => ?_) (fun z0C j0F hR => ?_)
      ·replace h := hx
       clear hx
       rcases csome h with ⟨j3, h⟩ | ⟨j3, h⟩
       ·refine E_drawL (g := lE) (n := 22) [] [0, 1, 2, 3, 4, 5, 6, 7, 8, 9, 10, 11, 12, 13, 14, 15, 16, 17, 18, 19, 20, 21] rfl mixed (by kernel_rfl) trivial ?_
        refine L_pur (c := .int .i64 (j1.2.2)) rfl rfl .plain (fun _ _ hd => P_move rfl) ?_
        refine L_pur (c := .bool ((j1.2.2 != (0 : Int)))) rfl rfl .plain (fun _ _ hd => P_int rfl rfl rfl) ?_
        refine L_pur (c := .bool ((j1.2.2 != (0 : Int)))) rfl rfl .plain (fun _ _ hd => P_move rfl) ?_
        refine L_skip rfl (.no2 rfl rfl j3 rfl) ?_
        refine L_skip rfl (.no2 rfl rfl j3 rfl) ?_
        refine L_skip rfl (.no2 rfl rfl j3 rfl) ?_
        refine L_skip rfl (.no2 rfl rfl j3 rfl) ?_
        refine L_skip rfl (.no2 rfl rfl j3 rfl) ?_
        refine L_skip rfl (.no2 rfl rfl j3 rfl) ?_
        refine L_skip rfl (.no2 rfl rfl j3 rfl) ?_
        refine L_pur (c := .bool true) rfl rfl .plain (fun _ _ hd => P_pick (b := (j1.2.2 != (0 : Int))) rfl (pick_t j3 rfl)) ?_
        refine L_dead (fun _ => rfl) 11 rfl ?_
        refine L_nil fun a08 k0F hall => ?_
        have hs := hall.1
        have hfr := hfr.ext hs
        have m4 := m4.ext hs
        have d4 := d4.ext hs
        have c4 := c4.ext hs
        have n4 := n4.ext hs
        have u3 := u3.ext hs
        have q3 := q3.ext hs
        have z3 := z3.ext hs
        have s3 := s3.ext hs
        have q4 := q4.ext hs
        clear hs hall
        refine EL_nil ?_
        obtain rfl := sinj h
        exact hQ _ _ ⟨a08, hfr, rA, m4, m9, d4, j6, c4, sA, n4, c7, u3, x8, q3, z3, y8, s3, m7, rfl, q4, rfl, rfl⟩
       ·refine L_loadO0 (x := .tmp 6) Try.isAgg62 Try.sizeOf62 c4 fun lA xJ xE => ?_
        obtain ⟨d5, yE, h⟩ := bsome h
        refine L_loadO0 (x := .tmp 6) Try.isAgg62 Try.sizeOf62 c4 fun mA yJ zE => ?_
        obtain ⟨i5, aF, h⟩ := bsome h
        rcases csome h with ⟨m5, h⟩ | ⟨m5, h⟩
        ·refine E_drawL (g := lE) (n := 22) [(5, (fun v g w => v = .bool (d5))), (8, (fun v g w => v = .bool (i5)))] [0, 1, 2, 3, 4, 5, 6, 7, 8, 9, 10, 11, 12, 13, 14, 15, 16, 17, 18, 19, 20, 21] rfl mixed (by kernel_rfl) (⟨fun _ => up_eq _, fun _ => up_eq _, trivial⟩) ?_
         refine L_pur (c := .int .i64 (j1.2.2)) rfl rfl .plain (fun _ _ hd => P_move rfl) ?_
         refine L_pur (c := .bool ((j1.2.2 != (0 : Int)))) rfl rfl .plain (fun _ _ hd => P_int rfl rfl rfl) ?_
         refine L_pur (c := .bool ((j1.2.2 != (0 : Int)))) rfl rfl .plain (fun _ _ hd => P_move rfl) ?_
         refine L_pur (c := u0) rfl rfl (.yes2 rfl rfl j3) (fun _ _ hd => P_move rfl) ?_
         refine L_ld (c := lA) rfl rfl (.yes2 rfl rfl j3) (fun _ _ h => ⟨h.ch, fun b hb _ => h.below.block b hb⟩) xE j6 ?_
         refine L_do (φ := fun v g w => v = .bool (d5)) rfl rfl (.yes2 rfl rfl j3) (fun g w hd => D_call (g := g) (vs := [u0, lA]) en48 (.cons rfl (.cons rfl .nil)) (wk48 (q4.ext hd.1) (xJ.ext hd.1) yE) fun g' w' v hs hr => ⟨g', hs, hr⟩) (fun jQ hv => ?_)
         obtain ⟨_, _, _, rfl⟩ := hv
         refine L_pur (c := z1) rfl rfl (.yes2 rfl rfl j3) (fun _ _ hd => P_move c7) ?_
         refine L_ld (c := mA) rfl rfl (.yes2 rfl rfl j3) (fun _ _ h => ⟨h.ch, fun b hb _ => h.below.block b hb⟩) zE j6 ?_
         refine L_do (φ := fun v g w => v = .bool (i5)) rfl rfl (.yes2 rfl rfl j3) (fun g w hd => D_call (g := g) (vs := [z1, mA]) en48 (.cons rfl (.cons rfl .nil)) (wk48 (u3.ext hd.1) (yJ.ext hd.1) aF) fun g' w' v hs hr => ⟨g', hs, hr⟩) (fun kQ hv => ?_)
         obtain ⟨_, _, _, rfl⟩ := hv
         refine L_pur (c := .bool ((!(d5 == i5)))) rfl rfl (.yes2 rfl rfl j3) (fun _ _ hd => P_bool Try.underlying4 rfl rfl rfl) ?_
         refine L_pur (c := .bool ((!(d5 == i5)))) rfl rfl .plain (fun _ _ hd => P_pick (b := (j1.2.2 != (0 : Int))) rfl (pick_f j3 rfl)) ?_
         refine L_pur (c := .bool ((!(d5 == i5)))) rfl rfl .plain (fun _ _ hd => P_move rfl) ?_
         refine L_skip rfl (.no2 rfl rfl m5 rfl) ?_
         refine L_skip rfl (.no2 rfl rfl m5 rfl) ?_
         refine L_skip rfl (.no2 rfl rfl m5 rfl) ?_
         refine L_dead (fun _ => rfl) 5 rfl ?_
         refine L_skip rfl (.no2 rfl rfl m5 rfl) ?_
         refine L_pur (c := .bool true) rfl rfl .plain (fun _ _ hd => P_pick (b := (!(d5 == i5))) rfl (pick_t m5 rfl)) ?_
         refine L_nil fun b08 l0F hall => ?_
         have hs := hall.1
         have hfr := hfr.ext hs
         have m4 := m4.ext hs
         have d4 := d4.ext hs
         have c4 := c4.ext hs
         have n4 := n4.ext hs
         have u3 := u3.ext hs
         have q3 := q3.ext hs
         have z3 := z3.ext hs
         have s3 := s3.ext hs
         have q4 := q4.ext hs
         clear hs hall
         refine EL_nil ?_
         obtain rfl := sinj h
         exact hQ _ _ ⟨b08, hfr, rA, m4, m9, d4, j6, c4, sA, n4, c7, u3, x8, q3, z3, y8, s3, m7, rfl, q4, rfl, rfl⟩
        ·rcases csome h with ⟨c6, h⟩ | ⟨c6, h⟩
         ·refine E_drawL (g := lE) (n := 22) [(5, (fun v g w => v = .bool (d5))), (8, (fun v g w => v = .bool (i5)))] [0, 1, 2, 3, 4, 5, 6, 7, 8, 9, 10, 11, 12, 13, 14, 15, 16, 17, 18, 19, 20, 21] rfl mixed (by kernel_rfl) (⟨fun _ => up_eq _, fun _ => up_eq _, trivial⟩) ?_
          refine L_pur (c := .int .i64 (j1.2.2)) rfl rfl .plain (fun _ _ hd => P_move rfl) ?_
          refine L_pur (c := .bool ((j1.2.2 != (0 : Int)))) rfl rfl .plain (fun _ _ hd => P_int rfl rfl rfl) ?_
          refine L_pur (c := .bool ((j1.2.2 != (0 : Int)))) rfl rfl .plain (fun _ _ hd => P_move rfl) ?_
          refine L_pur (c := u0) rfl rfl (.yes2 rfl rfl j3) (fun _ _ hd => P_move rfl) ?_
          refine L_ld (c := lA) rfl rfl (.yes2 rfl rfl j3) (fun _ _ h => ⟨h.ch, fun b hb _ => h.below.block b hb⟩) xE j6 ?_
          refine L_do (φ := fun v g w => v = .bool (d5)) rfl rfl (.yes2 rfl rfl j3) (fun g w hd => D_call (g := g) (vs := [u0, lA]) en48 (.cons rfl (.cons rfl .nil)) (wk48 (q4.ext hd.1) (xJ.ext hd.1) yE) fun g' w' v hs hr => ⟨g', hs, hr⟩) (fun jQ hv => ?_)
          obtain ⟨_, _, _, rfl⟩ := hv
          refine L_pur (c := z1) rfl rfl (.yes2 rfl rfl j3) (fun _ _ hd => P_move c7) ?_
          refine L_ld (c := mA) rfl rfl (.yes2 rfl rfl j3) (fun _ _ h => ⟨h.ch, fun b hb _ => h.below.block b hb⟩) zE j6 ?_
          refine L_do (φ := fun v g w => v = .bool (i5)) rfl rfl (.yes2 rfl rfl j3) (fun g w hd => D_call (g := g) (vs := [z1, mA]) en48 (.cons rfl (.cons rfl .nil)) (wk48 (u3.ext hd.1) (yJ.ext hd.1) aF) fun g' w' v hs hr => ⟨g', hs, hr⟩) (fun kQ hv => ?_)
          obtain ⟨_, _, _, rfl⟩ := hv
          refine L_pur (c := .bool ((!(d5 == i5)))) rfl rfl (.yes2 rfl rfl j3) (fun _ _ hd => P_bool Try.underlying4 rfl rfl rfl) ?_
          refine L_pur (c := .bool ((!(d5 == i5)))) rfl rfl .plain (fun _ _ hd => P_pick (b := (j1.2.2 != (0 : Int))) rfl (pick_f j3 rfl)) ?_
          refine L_pur (c := .bool ((!(d5 == i5)))) rfl rfl .plain (fun _ _ hd => P_move rfl) ?_
          refine L_pur (c := .int .i64 (o0)) rfl rfl (.yes2 rfl rfl m5) (fun _ _ hd => P_move m7) ?_
          refine L_pur (c := .bool ((decide (o0 > (0 : Int))))) rfl rfl (.yes2 rfl rfl m5) (fun _ _ hd => P_int rfl rfl rfl) ?_
          refine L_pur (c := .bool ((decide (o0 > (0 : Int))))) rfl rfl (.yes2 rfl rfl m5) (fun _ _ hd => P_move rfl) ?_
          refine L_pur (c := u0) rfl rfl (.yes2 rfl rfl c6) (fun _ _ hd => P_move rfl) ?_
          refine L_pur (c := .int .i64 ((j1.1).length : Int)) rfl rfl (.yes2 rfl rfl c6) (fun _ _ hd => P_len Try.underlying29 rfl q4) ?_
          refine L_pur (c := i1) rfl rfl (.yes2 rfl rfl c6) (fun _ _ hd => P_move y8) ?_
          refine L_pur (c := .int .i64 ((d2).length : Int)) rfl rfl (.yes2 rfl rfl c6) (fun _ _ hd => P_len Try.underlying29 rfl s3) ?_
          refine L_pur (c := .bool ((decide (((j1.1).length : Int) > ((d2).length : Int))))) rfl rfl (.yes2 rfl rfl c6) (fun _ _ hd => P_int rfl rfl rfl) ?_
          refine L_pur (c := .bool ((decide (((j1.1).length : Int) > ((d2).length : Int))))) rfl rfl (.yes2 rfl rfl m5) (fun _ _ hd => P_pick (b := (decide (o0 > (0 : Int)))) rfl (pick_t c6 rfl)) ?_
          refine L_pur (c := .bool ((decide (((j1.1).length : Int) > ((d2).length : Int))))) rfl rfl .plain (fun _ _ hd => P_pick (b := (!(d5 == i5))) rfl (pick_f m5 rfl)) ?_
          refine L_nil fun c08 m0F hall => ?_
          have hs := hall.1
          have hfr := hfr.ext hs
          have m4 := m4.ext hs
          have d4 := d4.ext hs
          have c4 := c4.ext hs
          have n4 := n4.ext hs
          have u3 := u3.ext hs
          have q3 := q3.ext hs
          have z3 := z3.ext hs
          have s3 := s3.ext hs
          have q4 := q4.ext hs
          clear hs hall
          refine EL_nil ?_
          obtain rfl := sinj h
          exact hQ _ _ ⟨c08, hfr, rA, m4, m9, d4, j6, c4, sA, n4, c7, u3, x8, q3, z3, y8, s3, m7, rfl, q4, rfl, rfl⟩
         ·refine E_drawL (g := lE) (n := 22) [(5, (fun v g w => v = .bool (d5))), (8, (fun v g w => v = .bool (i5)))] [0, 1, 2, 3, 4, 5, 6, 7, 8, 9, 10, 11, 12, 13, 14, 15, 16, 17, 18, 19, 20, 21] rfl mixed (by kernel_rfl) (⟨fun _ => up_eq _, fun _ => up_eq _, trivial⟩) ?_
          refine L_pur (c := .int .i64 (j1.2.2)) rfl rfl .plain (fun _ _ hd => P_move rfl) ?_
          refine L_pur (c := .bool ((j1.2.2 != (0 : Int)))) rfl rfl .plain (fun _ _ hd => P_int rfl rfl rfl) ?_
          refine L_pur (c := .bool ((j1.2.2 != (0 : Int)))) rfl rfl .plain (fun _ _ hd => P_move rfl) ?_
          refine L_pur (c := u0) rfl rfl (.yes2 rfl rfl j3) (fun _ _ hd => P_move rfl) ?_
          refine L_ld (c := lA) rfl rfl (.yes2 rfl rfl j3) (fun _ _ h => ⟨h.ch, fun b hb _ => h.below.block b hb⟩) xE j6 ?_
          refine L_do (φ := fun v g w => v = .bool (d5)) rfl rfl (.yes2 rfl rfl j3) (fun g w hd => D_call (g := g) (vs := [u0, lA]) en48 (.cons rfl (.cons rfl .nil)) (wk48 (q4.ext hd.1) (xJ.ext hd.1) yE) fun g' w' v hs hr => ⟨g', hs, hr⟩) (fun jQ hv => ?_)
          obtain ⟨_, _, _, rfl⟩ := hv
          refine L_pur (c := z1) rfl rfl (.yes2 rfl rfl j3) (fun _ _ hd => P_move c7) ?_
          refine L_ld (c := mA) rfl rfl (.yes2 rfl rfl j3) (fun _ _ h => ⟨h.ch, fun b hb _ => h.below.block b hb⟩) zE j6 ?_
          refine L_do (φ := fun v g w => v = .bool (i5)) rfl rfl (.yes2 rfl rfl j3) (fun g w hd => D_call (g := g) (vs := [z1, mA]) en48 (.cons rfl (.cons rfl .nil)) (wk48 (u3.ext hd.1) (yJ.ext hd.1) aF) fun g' w' v hs hr => ⟨g', hs, hr⟩) (fun kQ hv => ?_)
          obtain ⟨_, _, _, rfl⟩ := hv
          refine L_pur (c := .bool ((!(d5 == i5)))) rfl rfl (.yes2 rfl rfl j3) (fun _ _ hd => P_bool Try.underlying4 rfl rfl rfl) ?_
          refine L_pur (c := .bool ((!(d5 == i5)))) rfl rfl .plain (fun _ _ hd => P_pick (b := (j1.2.2 != (0 : Int))) rfl (pick_f j3 rfl)) ?_
          refine L_pur (c := .bool ((!(d5 == i5)))) rfl rfl .plain (fun _ _ hd => P_move rfl) ?_
          refine L_pur (c := .int .i64 (o0)) rfl rfl (.yes2 rfl rfl m5) (fun _ _ hd => P_move m7) ?_
          refine L_pur (c := .bool ((decide (o0 > (0 : Int))))) rfl rfl (.yes2 rfl rfl m5) (fun _ _ hd => P_int rfl rfl rfl) ?_
          refine L_pur (c := .bool ((decide (o0 > (0 : Int))))) rfl rfl (.yes2 rfl rfl m5) (fun _ _ hd => P_move rfl) ?_
          refine L_skip rfl (.no2 rfl rfl c6 rfl) ?_
          refine L_skip rfl (.no2 rfl rfl c6 rfl) ?_
          refine L_skip rfl (.no2 rfl rfl c6 rfl) ?_
          refine L_skip rfl (.no2 rfl rfl c6 rfl) ?_
          refine L_skip rfl (.no2 rfl rfl c6 rfl) ?_
          refine L_pur (c := .bool false) rfl rfl (.yes2 rfl rfl m5) (fun _ _ hd => P_pick (b := (decide (o0 > (0 : Int)))) rfl (pick_f c6 rfl)) ?_
          refine L_pur (c := .bool false) rfl rfl .plain (fun _ _ hd => P_pick (b := (!(d5 == i5))) rfl (pick_f m5 rfl)) ?_
          refine L_nil fun d08 n0F hall => ?_
          have hs := hall.1
          have hfr := hfr.ext hs
          have m4 := m4.ext hs
          have d4 := d4.ext hs
          have c4 := c4.ext hs
          have n4 := n4.ext hs
          have u3 := u3.ext hs
          have q3 := q3.ext hs
          have z3 := z3.ext hs
          have s3 := s3.ext hs
          have q4 := q4.ext hs
          clear hs hall
          refine EL_nil ?_
          obtain rfl := sinj h
          exact hQ _ _ ⟨d08, hfr, rA, m4, m9, d4, j6, c4, sA, n4, c7, u3, x8, q3, z3, y8, s3, m7, rfl, q4, rfl, rfl⟩
      ·clear hx
       obtain ⟨e08, hfr, bZ, cZ, dZ, eZ, gZ, hZ, iZ, jZ, kZ, lZ, lQ, mQ, nQ, oQ, pQ, qQ, rQ, sQ, tQ, mE⟩ := hR
       rcases csome h with ⟨bF, h⟩ | ⟨bF, h⟩
       ·refine E_cond_true (Eq.trans (show ev _ _ = .bool (e8) from mE) (congrArg Value.bool bF)) ?_
        refine E_seq (E_region (EL_at (.bool false) rfl rfl ?_))
        refine EL_nil (thn_n (E_ret (thn_r ?_)))
        refine blk_r ?_
        refine thn_r ?_
        refine thn_r ?_
        refine blk_r ?_
        refine thn_r ?_
        obtain rfl := sinj h
        exact end1 rfl rfl (show _ = .bool false from rfl) ⟨_, hfr, rfl⟩
       ·refine E_cond_false (Eq.trans (show ev _ _ = .bool (e8) from mE) (congrArg Value.bool bF)) ?_
        exact E_skip (thn_n (i05 () _ _ ⟨e08, hfr, bZ, cZ, dZ, eZ, gZ, hZ, iZ, jZ, kZ, lZ, lQ, mQ, nQ, oQ, pQ, qQ, rQ, sQ, tQ⟩ h))
     ·rintro _ a0D o0F ⟨uQ, hfr, mZ, rC, zJ, tA, nZ, sC, oZ, tC, pZ, uC, vQ, dB, eB, xQ, iB, yQ, zQ, jB, aR⟩ h
      refine E_seq (E_region (EL_do .plain rfl (D_loadO (g := uQ) Try.isAgg28 Try.sizeOf28 zJ tA fun g08 h08 => ?_)))
      obtain ⟨i3, j05, h⟩ := bsome h
      refine EL_do .plain rfl (D_call (g := uQ) (vs := [g08, .int .i64 (120), .slice none 0 0]) en45 (.cons rfl (.cons rfl (.cons rfl .nil))) (wk45 h08 RV_nil j05) fun i08 b0D p0F hs hr => ?_)
      have hfr := hfr.ext hs
      have rC := rC.ext hs
      have tA := tA.ext hs
      have sC := sC.ext hs
      have tC := tC.ext hs
      have uC := uC.ext hs
      have dB := dB.ext hs
      have eB := eB.ext hs
      have iB := iB.ext hs
      have jB := jB.ext hs
      obtain ⟨x4, r0C, rfl, qZ, rfl⟩ := hr
      refine EL_mw (.tuple #[x4, .bool (i3.2)]) rfl rfl ?_
      refine EL_pur (v := x4) (P_extract rfl rfl) .plain rfl ?_
      refine EL_pur (v := .bool (i3.2)) (P_extract rfl rfl) .plain rfl ?_
      refine EL_at x4 rfl rfl ?_
      refine EL_at (.bool (i3.2)) rfl rfl ?_
      refine EL_nil (thn_n (E_joinC h (fun (s : Unit) e w => ∃ (g : Gh) , Fr gI wI g w ∧ e 1 = up1 ∧ RV g.m w (x1 : List (Vector UInt8 2)) up1 ∧ e 5 = p5 ∧ OB 2005 g w 28 (y4 : FaultLoom) p5 ∧ e 6 = p3 ∧ OB 2006 g w 62 (y11 : FaultDamage) p3 ∧ e 7 = i2 ∧ RV g.m w (u4.1 : List Str) i2 ∧ e 9 = z1 ∧ RV g.m w (i4.1 : List FaultDamage) z1 ∧ e 11 = j0 ∧ RV g.m w (n0 : List FaultSight) j0 ∧ OS 3062 g w 56 (n0 : List FaultSight) j0 ∧ e 12 = i1 ∧ RV g.m w (d2 : List FaultDamage) i1 ∧ e 14 = .int .i64 (o0) ∧ e 15 = u0 ∧ RV g.m w (j1.1 : List FaultDamage) u0 ∧ e 19 = .bool (i3.2)) (fun X30233 pP k05 h => ?_) ?_))
      ·refine E_seq (E_region (EL_at (.int .i64 (0)) rfl rfl ?_))
       refine EL_nil (thn_n (E_block ?_))
       refine E_lp h (fun (s : Int) e w => ∃ (g : Gh) , Fr gI wI g w ∧ e 1 = up1 ∧ RV g.m w (x1 : List (Vector UInt8 2)) up1 ∧ e 5 = p5 ∧ OB 2005 g w 28 (y4 : FaultLoom) p5 ∧ e 6 = p3 ∧ OB 2006 g w 62 (y11 : FaultDamage) p3 ∧ e 7 = i2 ∧ RV g.m w (u4.1 : List Str) i2 ∧ e 9 = z1 ∧ RV g.m w (i4.1 : List FaultDamage) z1 ∧ e 11 = j0 ∧ RV g.m w (n0 : List FaultSight) j0 ∧ OS 3062 g w 56 (n0 : List FaultSight) j0 ∧ e 12 = i1 ∧ RV g.m w (d2 : List FaultDamage) i1 ∧ e 14 = .int .i64 (o0) ∧ e 15 = u0 ∧ RV g.m w (j1.1 : List FaultDamage) u0 ∧ e 16 = .bool (j1.2.1) ∧ e 18 = x4 ∧ RV g.m w (i3.1 : List Str) x4 ∧ e 19 = .bool (i3.2) ∧ e 20 = .int .i64 (s)) ⟨i08, hfr, mZ, rC, zJ, tA, nZ, sC, oZ, tC, pZ, uC, vQ, dB, eB, xQ, iB, yQ, zQ, jB, aR, rfl, qZ, rfl, rfl⟩ (fun X30234 qP l05 => ?_)
       rintro d3 c0D q0F ⟨bR, hfr, aK, bK, cK, dK, eK, gK, iK, jK, kK, lK, kB, lB, vF, xF, yF, zF, aG, bG, cG, dG, eG, mB, nB⟩ h
       refine E_joinC h (fun (s : Unit) e w => ∃ (g : Gh) , Fr gI wI g w ∧ e 1 = up1 ∧ RV g.m w (x1 : List (Vector UInt8 2)) up1 ∧ e 5 = p5 ∧ OB 2005 g w 28 (y4 : FaultLoom) p5 ∧ e 6 = p3 ∧ OB 2006 g w 62 (y11 : FaultDamage) p3 ∧ e 7 = i2 ∧ RV g.m w (u4.1 : List Str) i2 ∧ e 9 = z1 ∧ RV g.m w (i4.1 : List FaultDamage) z1 ∧ e 11 = j0 ∧ RV g.m w (n0 : List FaultSight) j0 ∧ OS 3062 g w 56 (n0 : List FaultSight) j0 ∧ e 12 = i1 ∧ RV g.m w (d2 : List FaultDamage) i1 ∧ e 14 = .int .i64 (o0) ∧ e 15 = u0 ∧ RV g.m w (j1.1 : List FaultDamage) u0 ∧ e 16 = .bool (j1.2.1) ∧ e 18 = x4 ∧ RV g.m w (i3.1 : List Str) x4 ∧ e 19 = .bool (i3.2) ∧ e 20 = .int .i64 (d3)) (fun X30240 tP m05 h => ?_) ?_
       ·obtain ⟨d8, hx, h⟩ := bsome h
        refine E_join (fun e w => ∃ (g : Gh) , Fr gI wI g w ∧ e 1 = up1 ∧ RV g.m w (x1 : List (Vector UInt8 2)) up1 ∧ e 5 = p5 ∧ OB 2005 g w 28 (y4 : FaultLoom) p5 ∧ e 6 = p3 ∧ OB 2006 g w 62 (y11 : FaultDamage) p3 ∧ e 7 = i2 ∧ RV g.m w (u4.1 : List Str) i2 ∧ e 9 = z1 ∧ RV g.m w (i4.1 : List FaultDamage) z1 ∧ e 11 = j0 ∧ RV g.m w (n0 : List FaultSight) j0 ∧ OS 3062 g w 56 (n0 : List FaultSight) j0 ∧ e 12 = i1 ∧ RV g.m w (d2 : List FaultDamage) i1 ∧ e 14 = .int .i64 (o0) ∧ e 15 = u0 ∧ RV g.m w (j1.1 : List FaultDamage) u0 ∧ e 16 = .bool (j1.2.1) ∧ e 18 = x4 ∧ RV g.m w (i3.1 : List Str) x4 ∧ e 19 = .bool (i3.2) ∧ e 20 = .int .i64 (d3) ∧ e 117 = .bool (d8)) (fun Q' hQ => ?_) (fun d0D r0F hR => ?_)
        ·replace h := hx
         clear hx
         refine E_region (EL_mv nB rfl ?_)
         refine EL_mv kB rfl ?_
         refine EL_pur (v := .int .i64 ((n0).length : Int)) (P_len Try.underlying39 rfl lB) .plain rfl ?_
         refine EL_in (.bool ((decide (d3 < ((n0).length : Int))))) rfl rfl rfl rfl ?_
         refine EL_mw (.bool ((decide (d3 < ((n0).length : Int))))) rfl rfl ?_
         rcases csome h with ⟨nA, h⟩ | ⟨nA, h⟩
         ·refine EL_pur (v := .bool (i3.2)) (P_move mB) (.yes2 rfl rfl nA) rfl ?_
          refine EL_pur (v := .bool (i3.2)) (P_pick (b := (decide (d3 < ((n0).length : Int)))) rfl (pick_t nA rfl)) .plain rfl ?_
          refine EL_nil ?_
          obtain rfl := sinj h
          exact hQ _ _ ⟨bR, hfr, aK, bK, cK, dK, eK, gK, iK, jK, kK, lK, kB, lB, vF, xF, yF, zF, aG, bG, cG, dG, eG, mB, nB, rfl⟩
         ·refine EL_skip (.no2 rfl rfl nA rfl) rfl ?_
          refine EL_pur (v := .bool false) (P_pick (b := (decide (d3 < ((n0).length : Int)))) rfl (pick_f nA rfl)) .plain rfl ?_
          refine EL_nil ?_
          obtain rfl := sinj h
          exact hQ _ _ ⟨bR, hfr, aK, bK, cK, dK, eK, gK, iK, jK, kK, lK, kB, lB, vF, xF, yF, zF, aG, bG, cG, dG, eG, mB, nB, rfl⟩
        ·clear hx
         obtain ⟨cR, hfr, mK, nK, oK, pK, qK, sK, tK, uK, vK, xK, gG, hG, iG, jG, kG, lG, mG, nG, dR, eR, gR, oG, iR, nE⟩ := hR
         rcases csome h with ⟨cF, h⟩ | ⟨cF, h⟩
         ·refine E_cond_true (Eq.trans (show ev _ _ = .bool (d8) from nE) (congrArg Value.bool cF)) ?_
          exact E_skip (thn_n (m05 () _ _ ⟨cR, hfr, mK, nK, oK, pK, qK, sK, tK, uK, vK, xK, gG, hG, iG, jG, kG, lG, mG, nG, dR, eR, gR, oG, iR⟩ h))
         ·refine E_cond_false (Eq.trans (show ev _ _ = .bool (d8) from nE) (congrArg Value.bool cF)) ?_
          refine E_exit ?_
          refine thn_e ?_
          refine thn_e ?_
          refine blk_hit ?_
          exact thn_n (k05 () _ _ ⟨cR, hfr, mK, nK, oK, pK, qK, sK, tK, uK, vK, xK, gG, hG, iG, jG, kG, lG, mG, nG, oG⟩ h)
       ·rintro _ e0D s0F ⟨jR, hfr, yK, i8, zK, j8, aL, k8, bL, l8, cL, m8, z8, n5, n7, pG, o7, qG, rG, p7, s9, oB, o6, sG, a9⟩ h
        refine E_joinC h (fun (s : Unit) e w => ∃ (g : Gh) , Fr gI wI g w ∧ e 1 = up1 ∧ RV g.m w (x1 : List (Vector UInt8 2)) up1 ∧ e 5 = p5 ∧ OB 2005 g w 28 (y4 : FaultLoom) p5 ∧ e 6 = p3 ∧ OB 2006 g w 62 (y11 : FaultDamage) p3 ∧ e 7 = i2 ∧ RV g.m w (u4.1 : List Str) i2 ∧ e 9 = z1 ∧ RV g.m w (i4.1 : List FaultDamage) z1 ∧ e 11 = j0 ∧ RV g.m w (n0 : List FaultSight) j0 ∧ OS 3062 g w 56 (n0 : List FaultSight) j0 ∧ e 12 = i1 ∧ RV g.m w (d2 : List FaultDamage) i1 ∧ e 14 = .int .i64 (o0) ∧ e 15 = u0 ∧ RV g.m w (j1.1 : List FaultDamage) u0 ∧ e 16 = .bool (j1.2.1) ∧ e 18 = x4 ∧ RV g.m w (i3.1 : List Str) x4 ∧ e 19 = .bool (i3.2) ∧ e 20 = .int .i64 (d3)) (fun X30434 sP n05 h => ?_) ?_
        ·refine E_block ?_
         obtain ⟨c8, hx, h⟩ := bsome h
         refine E_join (fun e w => ∃ (g : Gh) , Fr gI wI g w ∧ e 1 = up1 ∧ RV g.m w (x1 : List (Vector UInt8 2)) up1 ∧ e 5 = p5 ∧ OB 2005 g w 28 (y4 : FaultLoom) p5 ∧ e 6 = p3 ∧ OB 2006 g w 62 (y11 : FaultDamage) p3 ∧ e 7 = i2 ∧ RV g.m w (u4.1 : List Str) i2 ∧ e 9 = z1 ∧ RV g.m w (i4.1 : List FaultDamage) z1 ∧ e 11 = j0 ∧ RV g.m w (n0 : List FaultSight) j0 ∧ OS 3062 g w 56 (n0 : List FaultSight) j0 ∧ e 12 = i1 ∧ RV g.m w (d2 : List FaultDamage) i1 ∧ e 14 = .int .i64 (o0) ∧ e 15 = u0 ∧ RV g.m w (j1.1 : List FaultDamage) u0 ∧ e 16 = .bool (j1.2.1) ∧ e 18 = x4 ∧ RV g.m w (i3.1 : List Str) x4 ∧ e 19 = .bool (i3.2) ∧ e 20 = .int .i64 (d3) ∧ e 143 = .bool (c8)) (fun Q' hQ => ?_) (fun g0D t0F hR => ?_)
         ·replace h := hx
          clear hx
          rcases csome h with ⟨j2, h⟩ | ⟨j2, h⟩
          ·obtain ⟨dE, vN, h⟩ := bsome h
           have kR := PT_idx n5 vN
           have j08 := PT_field (part_FaultSight_0).1 kR
           refine L_load (x := .tmp 126) Try.isAgg3 Try.sizeOf3 j08 fun u0F k08 o05 => ?_
           obtain rfl := RV_int.1 k08
           obtain ⟨kJ, xN, h⟩ := bsome h
           have l08 := PT_idx o6 xN
           refine L_load (x := .tmp 128) Try.isAgg9 Try.sizeOf9 l08 fun v0F m08 p05 => ?_
           obtain rfl := RV_str.1 m08
           obtain ⟨lJ, yN, h⟩ := bsome h
           have lR := PT_idx n5 yN
           have n08 := PT_field (part_FaultSight_1).1 lR
           refine L_load (x := .tmp 133) Try.isAgg3 Try.sizeOf3 n08 fun x0F o08 q05 => ?_
           obtain rfl := RV_int.1 o08
           obtain ⟨kA, r05, h⟩ := bsome h
           obtain ⟨bB, zN, h⟩ := bsome h
           have mR := PT_idx n5 zN
           have p08 := PT_field (part_FaultSight_2).1 mR
           refine L_load (x := .tmp 140) Try.isAgg4 Try.sizeOf4 p08 fun y0F q08 s05 => ?_
           obtain rfl := RV_bool.1 q08
           refine E_drawL (g := jR) (n := 24) [] [0, 1, 2, 3, 4, 5, 6, 7, 8, 9, 10, 11, 12, 13, 14, 15, 16, 17, 18, 19, 20, 21, 22, 23] rfl mixed (by kernel_rfl) trivial ?_
           refine L_pur (c := .bool (j1.2.1)) rfl rfl .plain (fun _ _ hd => P_move s9) ?_
           refine L_pur (c := .bool (j1.2.1)) rfl rfl .plain (fun _ _ hd => P_move rfl) ?_
           refine L_pur (c := x4) rfl rfl (.yes2 rfl rfl j2) (fun _ _ hd => P_move oB) ?_
           refine L_pur (c := j0) rfl rfl (.yes2 rfl rfl j2) (fun _ _ hd => P_move z8) ?_
           refine L_pur (c := .int .i64 (d3)) rfl rfl (.yes2 rfl rfl j2) (fun _ _ hd => P_move a9) ?_
           refine L_pur (c := ePtr j0 d3 3) rfl rfl (.yes2 rfl rfl j2) (fun _ _ hd => P_indexAddr (α := FaultSight) Try.underlying39 Try.sizeOf56 rfl n5 rfl vN) ?_
           refine L_pur (c := fPtr (ePtr j0 d3 3) 0) rfl rfl (.yes2 rfl rfl j2) (fun _ _ hd => P_fieldAddr at_56_0 rfl (PT.ptr kR)) ?_
           refine L_ld (c := .int .i64 ((dE).Pick)) rfl rfl (.yes2 rfl rfl j2) (fun _ _ h => h.ch) o05 rfl ?_
           refine L_pur (c := ePtr x4 (dE).Pick 1) rfl rfl (.yes2 rfl rfl j2) (fun _ _ hd => P_indexAddr (α := Str) Try.underlying36 Try.sizeOf9 rfl o6 rfl xN) ?_
           refine L_ld (c := Str.v (kJ)) rfl rfl (.yes2 rfl rfl j2) (fun _ _ h => h.ch) p05 rfl ?_
           refine L_pur (c := j0) rfl rfl (.yes2 rfl rfl j2) (fun _ _ hd => P_move z8) ?_
           refine L_pur (c := .int .i64 (d3)) rfl rfl (.yes2 rfl rfl j2) (fun _ _ hd => P_move a9) ?_
           refine L_pur (c := ePtr j0 d3 3) rfl rfl (.yes2 rfl rfl j2) (fun _ _ hd => P_indexAddr (α := FaultSight) Try.underlying39 Try.sizeOf56 rfl n5 rfl yN) ?_
           refine L_pur (c := fPtr (ePtr j0 d3 3) 1) rfl rfl (.yes2 rfl rfl j2) (fun _ _ hd => P_fieldAddr at_56_1 rfl (PT.ptr lR)) ?_
           refine L_ld (c := .int .i64 ((lJ).Warp)) rfl rfl (.yes2 rfl rfl j2) (fun _ _ h => h.ch) q05 rfl ?_
           refine L_pur (c := .int .u8 (UInt8.toNat (kA))) rfl rfl (.yes2 rfl rfl j2) (fun _ _ hd => P_indexS Try.underlying9 rfl rfl r05) ?_
           refine L_pur (c := .bool ((kA == (120 : UInt8)))) rfl rfl (.yes2 rfl rfl j2) (fun _ _ hd => P_u8 rfl rfl rfl) ?_
           refine L_pur (c := j0) rfl rfl (.yes2 rfl rfl j2) (fun _ _ hd => P_move z8) ?_
           refine L_pur (c := .int .i64 (d3)) rfl rfl (.yes2 rfl rfl j2) (fun _ _ hd => P_move a9) ?_
           refine L_pur (c := ePtr j0 d3 3) rfl rfl (.yes2 rfl rfl j2) (fun _ _ hd => P_indexAddr (α := FaultSight) Try.underlying39 Try.sizeOf56 rfl n5 rfl zN) ?_
           refine L_pur (c := fPtr (ePtr j0 d3 3) 2) rfl rfl (.yes2 rfl rfl j2) (fun _ _ hd => P_fieldAddr at_56_2 rfl (PT.ptr mR)) ?_
           refine L_ld (c := .bool ((bB).Lifted)) rfl rfl (.yes2 rfl rfl j2) (fun _ _ h => h.ch) s05 rfl ?_
           refine L_pur (c := .bool ((!((kA == (120 : UInt8)) == (bB).Lifted)))) rfl rfl (.yes2 rfl rfl j2) (fun _ _ hd => P_bool Try.underlying4 rfl rfl rfl) ?_
           refine L_pur (c := .bool ((!((kA == (120 : UInt8)) == (bB).Lifted)))) rfl rfl .plain (fun _ _ hd => P_pick (b := j1.2.1) rfl (pick_t j2 rfl)) ?_
           refine L_nil fun r08 z0F hall => ?_
           have hs := hall.1
           have hfr := hfr.ext hs
           have i8 := i8.ext hs
           have j8 := j8.ext hs
           have k8 := k8.ext hs
           have l8 := l8.ext hs
           have m8 := m8.ext hs
           have n5 := n5.ext hs
           have n7 := n7.ext hs
           have o7 := o7.ext hs
           have p7 := p7.ext hs
           have o6 := o6.ext hs
           clear hs hall
           refine EL_nil ?_
           obtain rfl := sinj h
           exact hQ _ _ ⟨r08, hfr, yK, i8, zK, j8, aL, k8, bL, l8, cL, m8, z8, n5, n7, pG, o7, qG, rG, p7, s9, oB, o6, sG, a9, rfl⟩
          ·refine E_drawL (g := jR) (n := 24) [] [0, 1, 2, 3, 4, 5, 6, 7, 8, 9, 10, 11, 12, 13, 14, 15, 16, 17, 18, 19, 20, 21, 22, 23] rfl mixed (by kernel_rfl) trivial ?_
           refine L_pur (c := .bool (j1.2.1)) rfl rfl .plain (fun _ _ hd => P_move s9) ?_
           refine L_pur (c := .bool (j1.2.1)) rfl rfl .plain (fun _ _ hd => P_move rfl) ?_
           refine L_skip rfl (.no2 rfl rfl j2 rfl) ?_
           refine L_skip rfl (.no2 rfl rfl j2 rfl) ?_
           refine L_skip rfl (.no2 rfl rfl j2 rfl) ?_
           refine L_skip rfl (.no2 rfl rfl j2 rfl) ?_
           refine L_skip rfl (.no2 rfl rfl j2 rfl) ?_
           refine L_skip rfl (.no2 rfl rfl j2 rfl) ?_
           refine L_skip rfl (.no2 rfl rfl j2 rfl) ?_
           refine L_skip rfl (.no2 rfl rfl j2 rfl) ?_
           refine L_skip rfl (.no2 rfl rfl j2 rfl) ?_
           refine L_skip rfl (.no2 rfl rfl j2 rfl) ?_
           refine L_skip rfl (.no2 rfl rfl j2 rfl) ?_
           refine L_skip rfl (.no2 rfl rfl j2 rfl) ?_
           refine L_skip rfl (.no2 rfl rfl j2 rfl) ?_
           refine L_skip rfl (.no2 rfl rfl j2 rfl) ?_
           refine L_skip rfl (.no2 rfl rfl j2 rfl) ?_
           refine L_skip rfl (.no2 rfl rfl j2 rfl) ?_
           refine L_skip rfl (.no2 rfl rfl j2 rfl) ?_
           refine L_skip rfl (.no2 rfl rfl j2 rfl) ?_
           refine L_skip rfl (.no2 rfl rfl j2 rfl) ?_
           refine L_skip rfl (.no2 rfl rfl j2 rfl) ?_
           refine L_skip rfl (.no2 rfl rfl j2 rfl) ?_
           refine L_pur (c := .bool false) rfl rfl .plain (fun _ _ hd => P_pick (b := j1.2.1) rfl (pick_f j2 rfl)) ?_
           refine L_nil fun s08 a0G hall => ?_
           have hs := hall.1
           have hfr := hfr.ext hs
           have i8 := i8.ext hs
           have j8 := j8.ext hs
           have k8 := k8.ext hs
           have l8 := l8.ext hs
           have m8 := m8.ext hs
           have n5 := n5.ext hs
           have n7 := n7.ext hs
           have o7 := o7.ext hs
           have p7 := p7.ext hs
           have o6 := o6.ext hs
           clear hs hall
           refine EL_nil ?_
           obtain rfl := sinj h
           exact hQ _ _ ⟨s08, hfr, yK, i8, zK, j8, aL, k8, bL, l8, cL, m8, z8, n5, n7, pG, o7, qG, rG, p7, s9, oB, o6, sG, a9, rfl⟩
         ·clear hx
          obtain ⟨t08, hfr, rZ, sZ, tZ, uZ, vZ, xZ, yZ, zZ, a00, b00, nR, oR, pR, qR, rR, sR, tR, uR, vR, xR, yR, zR, aS, oE⟩ := hR
          rcases csome h with ⟨dF, h⟩ | ⟨dF, h⟩
          ·refine E_cond_true (Eq.trans (show ev _ _ = .bool (c8) from oE) (congrArg Value.bool dF)) ?_
           refine E_seq (E_region (EL_at (.bool false) rfl rfl ?_))
           refine EL_nil (thn_n (E_ret (blk_r ?_)))
           refine thn_r ?_
           refine thn_r ?_
           refine blk_r ?_
           refine thn_r ?_
           refine blk_r ?_
           refine thn_r ?_
           refine thn_r ?_
           refine blk_r ?_
           refine thn_r ?_
           obtain rfl := sinj h
           exact end1 rfl rfl (show _ = .bool false from rfl) ⟨_, hfr, rfl⟩
          ·refine E_cond_false (Eq.trans (show ev _ _ = .bool (c8) from oE) (congrArg Value.bool dF)) ?_
           exact E_skip (blk_n (thn_n (n05 () _ _ ⟨t08, hfr, rZ, sZ, tZ, uZ, vZ, xZ, yZ, zZ, a00, b00, nR, oR, pR, qR, rR, sR, tR, uR, vR, xR, yR, zR, aS⟩ h)))
        ·rintro _ h0D b0G ⟨u08, hfr, c00, d00, e00, g00, h00, i00, j00, k00, l00, m00, bS, cS, dS, eS, gS, iS, jS, kS, lS, mS, nS, oS, pS⟩ h
         refine E_region (EL_mv pS rfl ?_)
         refine EL_in (.int .i64 ((w64 (d3 + (1 : Int))))) rfl rfl rfl rfl ?_
         refine EL_at (.int .i64 ((w64 (d3 + (1 : Int))))) rfl rfl ?_
         exact EL_nil (thn_n (l05 ((w64 (d3 + (1 : Int)))) _ _ ⟨u08, hfr, c00, d00, e00, g00, h00, i00, j00, k00, l00, m00, bS, cS, dS, eS, gS, iS, jS, kS, lS, mS, nS, oS, rfl⟩ h))
      ·rintro _ i0D c0G ⟨v08, hfr, n00, o00, p00, q00, r00, s00, t00, u00, v00, x00, qS, rS, sS, tS, uS, vS, xS, yS, zS⟩ h
       refine E_joinC h (fun (s : Unit) e w => ∃ (g : Gh) , Fr gI wI g w ∧ e 1 = up1 ∧ RV g.m w (x1 : List (Vector UInt8 2)) up1 ∧ e 5 = p5 ∧ OB 2005 g w 28 (y4 : FaultLoom) p5 ∧ e 6 = p3 ∧ OB 2006 g w 62 (y11 : FaultDamage) p3 ∧ e 7 = i2 ∧ RV g.m w (u4.1 : List Str) i2 ∧ e 9 = z1 ∧ RV g.m w (i4.1 : List FaultDamage) z1 ∧ e 11 = j0 ∧ RV g.m w (n0 : List FaultSight) j0 ∧ OS 3062 g w 56 (n0 : List FaultSight) j0 ∧ e 12 = i1 ∧ RV g.m w (d2 : List FaultDamage) i1 ∧ e 14 = .int .i64 (o0) ∧ e 15 = u0 ∧ RV g.m w (j1.1 : List FaultDamage) u0 ∧ e 19 = .bool (i3.2)) (fun X31281 gP t05 h => ?_) ?_
       ·refine E_seq (E_region (EL_at (.int .i64 (0)) rfl rfl ?_))
        refine EL_nil (thn_n (E_block ?_))
        refine E_lp h (fun (s : Int) e w => ∃ (g : Gh) , Fr gI wI g w ∧ e 1 = up1 ∧ RV g.m w (x1 : List (Vector UInt8 2)) up1 ∧ e 5 = p5 ∧ OB 2005 g w 28 (y4 : FaultLoom) p5 ∧ e 6 = p3 ∧ OB 2006 g w 62 (y11 : FaultDamage) p3 ∧ e 7 = i2 ∧ RV g.m w (u4.1 : List Str) i2 ∧ e 9 = z1 ∧ RV g.m w (i4.1 : List FaultDamage) z1 ∧ e 11 = j0 ∧ RV g.m w (n0 : List FaultSight) j0 ∧ OS 3062 g w 56 (n0 : List FaultSight) j0 ∧ e 12 = i1 ∧ RV g.m w (d2 : List FaultDamage) i1 ∧ e 14 = .int .i64 (o0) ∧ e 15 = u0 ∧ RV g.m w (j1.1 : List FaultDamage) u0 ∧ e 19 = .bool (i3.2) ∧ e 21 = .int .i64 (s)) ⟨v08, hfr, n00, o00, p00, q00, r00, s00, t00, u00, v00, x00, qS, rS, sS, tS, uS, vS, xS, yS, zS, rfl⟩ (fun X31282 hP u05 => ?_)
        rintro q2 j0D d0G ⟨aT, hfr, dL, eL, gL, iL, jL, kL, lL, mL, nL, oL, tG, uG, vG, xG, yG, zG, pB, qB, aH, t9⟩ h
        refine E_joinC h (fun (s : Unit) e w => ∃ (g : Gh) , Fr gI wI g w ∧ e 1 = up1 ∧ RV g.m w (x1 : List (Vector UInt8 2)) up1 ∧ e 5 = p5 ∧ OB 2005 g w 28 (y4 : FaultLoom) p5 ∧ e 6 = p3 ∧ OB 2006 g w 62 (y11 : FaultDamage) p3 ∧ e 7 = i2 ∧ RV g.m w (u4.1 : List Str) i2 ∧ e 9 = z1 ∧ RV g.m w (i4.1 : List FaultDamage) z1 ∧ e 11 = j0 ∧ RV g.m w (n0 : List FaultSight) j0 ∧ OS 3062 g w 56 (n0 : List FaultSight) j0 ∧ e 12 = i1 ∧ RV g.m w (d2 : List FaultDamage) i1 ∧ e 14 = .int .i64 (o0) ∧ e 15 = u0 ∧ RV g.m w (j1.1 : List FaultDamage) u0 ∧ e 19 = .bool (i3.2) ∧ e 21 = .int .i64 (q2)) (fun X31288 oP v05 h => ?_) ?_
        ·obtain ⟨b8, hx, h⟩ := bsome h
         refine E_join (fun e w => ∃ (g : Gh) , Fr gI wI g w ∧ e 1 = up1 ∧ RV g.m w (x1 : List (Vector UInt8 2)) up1 ∧ e 5 = p5 ∧ OB 2005 g w 28 (y4 : FaultLoom) p5 ∧ e 6 = p3 ∧ OB 2006 g w 62 (y11 : FaultDamage) p3 ∧ e 7 = i2 ∧ RV g.m w (u4.1 : List Str) i2 ∧ e 9 = z1 ∧ RV g.m w (i4.1 : List FaultDamage) z1 ∧ e 11 = j0 ∧ RV g.m w (n0 : List FaultSight) j0 ∧ OS 3062 g w 56 (n0 : List FaultSight) j0 ∧ e 12 = i1 ∧ RV g.m w (d2 : List FaultDamage) i1 ∧ e 14 = .int .i64 (o0) ∧ e 15 = u0 ∧ RV g.m w (j1.1 : List FaultDamage) u0 ∧ e 19 = .bool (i3.2) ∧ e 21 = .int .i64 (q2) ∧ e 151 = .bool (b8)) (fun Q' hQ => ?_) (fun k0D e0G hR => ?_)
         ·replace h := hx
          clear hx
          refine E_region (EL_mv t9 rfl ?_)
          refine EL_mv pB rfl ?_
          refine EL_pur (v := .int .i64 ((j1.1).length : Int)) (P_len Try.underlying29 rfl qB) .plain rfl ?_
          refine EL_in (.bool ((decide (q2 < ((j1.1).length : Int))))) rfl rfl rfl rfl ?_
          refine EL_mw (.bool ((decide (q2 < ((j1.1).length : Int))))) rfl rfl ?_
          rcases csome h with ⟨n8, h⟩ | ⟨n8, h⟩
          ·refine EL_pur (v := .int .i64 (q2)) (P_move t9) (.yes2 rfl rfl n8) rfl ?_
           refine EL_pur (v := .bool ((decide (q2 < (40 : Int))))) (P_int rfl rfl rfl) (.yes2 rfl rfl n8) rfl ?_
           refine EL_pur (v := .bool ((decide (q2 < (40 : Int))))) (P_pick (b := (decide (q2 < ((j1.1).length : Int)))) rfl (pick_t n8 rfl)) .plain rfl ?_
           refine EL_nil ?_
           obtain rfl := sinj h
           exact hQ _ _ ⟨aT, hfr, dL, eL, gL, iL, jL, kL, lL, mL, nL, oL, tG, uG, vG, xG, yG, zG, pB, qB, aH, t9, rfl⟩
          ·refine EL_skip (.no2 rfl rfl n8 rfl) rfl ?_
           refine EL_skip (.no2 rfl rfl n8 rfl) rfl ?_
           refine EL_pur (v := .bool false) (P_pick (b := (decide (q2 < ((j1.1).length : Int)))) rfl (pick_f n8 rfl)) .plain rfl ?_
           refine EL_nil ?_
           obtain rfl := sinj h
           exact hQ _ _ ⟨aT, hfr, dL, eL, gL, iL, jL, kL, lL, mL, nL, oL, tG, uG, vG, xG, yG, zG, pB, qB, aH, t9, rfl⟩
         ·clear hx
          obtain ⟨bT, hfr, pL, qL, rL, sL, tL, uL, vL, xL, yL, zL, bH, cH, dH, gH, iH, jH, kH, lH, mH, cT, pE⟩ := hR
          rcases csome h with ⟨eF, h⟩ | ⟨eF, h⟩
          ·refine E_cond_true (Eq.trans (show ev _ _ = .bool (b8) from pE) (congrArg Value.bool eF)) ?_
           exact E_skip (thn_n (v05 () _ _ ⟨bT, hfr, pL, qL, rL, sL, tL, uL, vL, xL, yL, zL, bH, cH, dH, gH, iH, jH, kH, lH, mH, cT⟩ h))
          ·refine E_cond_false (Eq.trans (show ev _ _ = .bool (b8) from pE) (congrArg Value.bool eF)) ?_
           refine E_exit ?_
           refine thn_e ?_
           refine thn_e ?_
           refine blk_hit ?_
           exact thn_n (t05 () _ _ ⟨bT, hfr, pL, qL, rL, sL, tL, uL, vL, xL, yL, zL, bH, cH, dH, gH, iH, jH, kH, lH, mH⟩ h)
        ·rintro _ l0D g0G ⟨dT, hfr, vC, d7, xC, e7, yC, g7, zC, i7, uA, u6, rB, v6, x6, u9, p6, x9, b9, u5, sB, c9⟩ h
         refine E_joinC h (fun (s : Unit) e w => ∃ (g : Gh) , Fr gI wI g w ∧ e 1 = up1 ∧ RV g.m w (x1 : List (Vector UInt8 2)) up1 ∧ e 5 = p5 ∧ OB 2005 g w 28 (y4 : FaultLoom) p5 ∧ e 6 = p3 ∧ OB 2006 g w 62 (y11 : FaultDamage) p3 ∧ e 7 = i2 ∧ RV g.m w (u4.1 : List Str) i2 ∧ e 9 = z1 ∧ RV g.m w (i4.1 : List FaultDamage) z1 ∧ e 11 = j0 ∧ RV g.m w (n0 : List FaultSight) j0 ∧ OS 3062 g w 56 (n0 : List FaultSight) j0 ∧ e 12 = i1 ∧ RV g.m w (d2 : List FaultDamage) i1 ∧ e 14 = .int .i64 (o0) ∧ e 15 = u0 ∧ RV g.m w (j1.1 : List FaultDamage) u0 ∧ e 19 = .bool (i3.2) ∧ e 21 = .int .i64 (q2)) (fun X31615 iP x05 h => ?_) ?_
         ·refine E_block ?_
          refine E_joinC h (fun (s : Unit) e w => ∃ (g : Gh) , Fr gI wI g w ∧ e 1 = up1 ∧ RV g.m w (x1 : List (Vector UInt8 2)) up1 ∧ e 5 = p5 ∧ OB 2005 g w 28 (y4 : FaultLoom) p5 ∧ e 6 = p3 ∧ OB 2006 g w 62 (y11 : FaultDamage) p3 ∧ e 7 = i2 ∧ RV g.m w (u4.1 : List Str) i2 ∧ e 9 = z1 ∧ RV g.m w (i4.1 : List FaultDamage) z1 ∧ e 11 = j0 ∧ RV g.m w (n0 : List FaultSight) j0 ∧ OS 3062 g w 56 (n0 : List FaultSight) j0 ∧ e 12 = i1 ∧ RV g.m w (d2 : List FaultDamage) i1 ∧ e 14 = .int .i64 (o0) ∧ e 15 = u0 ∧ RV g.m w (j1.1 : List FaultDamage) u0 ∧ e 19 = .bool (i3.2) ∧ e 21 = .int .i64 (q2)) (fun X31642 lP y05 h => ?_) ?_
          ·obtain ⟨a8, hx, h⟩ := bsome h
           refine E_join (fun e w => ∃ (g : Gh) , Fr gI wI g w ∧ e 1 = up1 ∧ RV g.m w (x1 : List (Vector UInt8 2)) up1 ∧ e 5 = p5 ∧ OB 2005 g w 28 (y4 : FaultLoom) p5 ∧ e 6 = p3 ∧ OB 2006 g w 62 (y11 : FaultDamage) p3 ∧ e 7 = i2 ∧ RV g.m w (u4.1 : List Str) i2 ∧ e 9 = z1 ∧ RV g.m w (i4.1 : List FaultDamage) z1 ∧ e 11 = j0 ∧ RV g.m w (n0 : List FaultSight) j0 ∧ OS 3062 g w 56 (n0 : List FaultSight) j0 ∧ e 12 = i1 ∧ RV g.m w (d2 : List FaultDamage) i1 ∧ e 14 = .int .i64 (o0) ∧ e 15 = u0 ∧ RV g.m w (j1.1 : List FaultDamage) u0 ∧ e 19 = .bool (i3.2) ∧ e 21 = .int .i64 (q2) ∧ e 173 = .bool (a8)) (fun Q' hQ => ?_) (fun m0D h0G hR => ?_)
           ·replace h := hx
            clear hx
            refine E_region (EL_mv uA rfl ?_)
            refine EL_mv b9 rfl ?_
            refine EL_mv c9 rfl ?_
            obtain ⟨mP, aO, h⟩ := bsome h
            refine EL_pur (v := ePtr u0 q2 5) (P_indexAddr (α := FaultDamage) Try.underlying29 Try.sizeOf62 rfl u5 rfl aO) .plain rfl ?_
            have x08 := PT_idx u5 aO
            refine EL_do .plain rfl (D_load (g := dT) Try.isAgg62 Try.sizeOf62 rfl x08 fun y08 z08 => ?_)
            obtain ⟨l9, z05, h⟩ := bsome h
            refine EL_do .plain rfl (D_call (g := dT) (vs := [z1, y08]) en48 (.cons rfl (.cons rfl .nil)) (wk48 u6 z08 z05) fun qE n0D i0G hs hr => ?_)
            have hfr := hfr.ext hs
            have d7 := d7.ext hs
            have e7 := e7.ext hs
            have g7 := g7.ext hs
            have i7 := i7.ext hs
            have u6 := u6.ext hs
            have v6 := v6.ext hs
            have x6 := x6.ext hs
            have p6 := p6.ext hs
            have u5 := u5.ext hs
            subst hr
            refine EL_pur (v := .bool (!l9)) (P_not rfl) .plain rfl ?_
            refine EL_mw (.bool (!l9)) rfl rfl ?_
            rcases csome h with ⟨d6, h⟩ | ⟨d6, h⟩
            ·refine EL_skip (.no2 rfl rfl d6 rfl) rfl ?_
             refine EL_skip (.no2 rfl rfl d6 rfl) rfl ?_
             refine EL_skip (.no2 rfl rfl d6 rfl) rfl ?_
             refine EL_dead 7 rfl ?_
             refine EL_skip (.no2 rfl rfl d6 rfl) rfl ?_
             refine EL_pur (v := .bool true) (P_pick (b := (!l9)) rfl (pick_t d6 rfl)) .plain rfl ?_
             refine EL_nil ?_
             obtain rfl := sinj h
             exact hQ _ _ ⟨qE, hfr, vC, d7, xC, e7, yC, g7, zC, i7, uA, u6, rB, v6, x6, u9, p6, x9, b9, u5, sB, c9, rfl⟩
            ·refine EL_pur (v := .int .i64 (o0)) (P_move x9) (.yes2 rfl rfl d6) rfl ?_
             refine EL_pur (v := .bool ((decide (o0 > (0 : Int))))) (P_int rfl rfl rfl) (.yes2 rfl rfl d6) rfl ?_
             refine EL_pur (v := .bool ((decide (o0 > (0 : Int))))) (P_move rfl) (.yes2 rfl rfl d6) rfl ?_
             rcases csome h with ⟨j5, h⟩ | ⟨j5, h⟩
             ·refine EL_pur (v := i1) (P_move u9) (.yes2 rfl rfl j5) rfl ?_
              refine EL_pur (v := u0) (P_move b9) (.yes2 rfl rfl j5) rfl ?_
              refine EL_pur (v := .int .i64 (q2)) (P_move c9) (.yes2 rfl rfl j5) rfl ?_
              obtain ⟨nP, bO, h⟩ := bsome h
              refine EL_pur (v := ePtr u0 q2 5) (P_indexAddr (α := FaultDamage) Try.underlying29 Try.sizeOf62 rfl u5 rfl bO) (.yes2 rfl rfl j5) rfl ?_
              have a09 := PT_idx u5 bO
              refine EL_do (.yes2 rfl rfl j5) rfl (D_load (g := qE) Try.isAgg62 Try.sizeOf62 rfl a09 fun b09 c09 => ?_)
              obtain ⟨aB, a06, h⟩ := bsome h
              refine EL_do (.yes2 rfl rfl j5) rfl (D_call (g := qE) (vs := [i1, b09]) en48 (.cons rfl (.cons rfl .nil)) (wk48 p6 c09 a06) fun d09 o0D j0G hs hr => ?_)
              have hfr := hfr.ext hs
              have d7 := d7.ext hs
              have e7 := e7.ext hs
              have g7 := g7.ext hs
              have i7 := i7.ext hs
              have u6 := u6.ext hs
              have v6 := v6.ext hs
              have x6 := x6.ext hs
              have p6 := p6.ext hs
              have u5 := u5.ext hs
              subst hr
              refine EL_pur (v := .bool (!aB)) (P_not rfl) (.yes2 rfl rfl j5) rfl ?_
              refine EL_pur (v := .bool (!aB)) (P_pick (b := (decide (o0 > (0 : Int)))) rfl (pick_t j5 rfl)) (.yes2 rfl rfl d6) rfl ?_
              refine EL_pur (v := .bool (!aB)) (P_pick (b := (!l9)) rfl (pick_f d6 rfl)) .plain rfl ?_
              refine EL_nil ?_
              obtain rfl := sinj h
              exact hQ _ _ ⟨d09, hfr, vC, d7, xC, e7, yC, g7, zC, i7, uA, u6, rB, v6, x6, u9, p6, x9, b9, u5, sB, c9, rfl⟩
             ·refine EL_skip (.no2 rfl rfl j5 rfl) rfl ?_
              refine EL_skip (.no2 rfl rfl j5 rfl) rfl ?_
              refine EL_skip (.no2 rfl rfl j5 rfl) rfl ?_
              refine EL_skip (.no2 rfl rfl j5 rfl) rfl ?_
              refine EL_skip (.no2 rfl rfl j5 rfl) rfl ?_
              refine EL_skip (.no2 rfl rfl j5 rfl) rfl ?_
              refine EL_skip (.no2 rfl rfl j5 rfl) rfl ?_
              refine EL_pur (v := .bool false) (P_pick (b := (decide (o0 > (0 : Int)))) rfl (pick_f j5 rfl)) (.yes2 rfl rfl d6) rfl ?_
              refine EL_pur (v := .bool false) (P_pick (b := (!l9)) rfl (pick_f d6 rfl)) .plain rfl ?_
              refine EL_nil ?_
              obtain rfl := sinj h
              exact hQ _ _ ⟨qE, hfr, vC, d7, xC, e7, yC, g7, zC, i7, uA, u6, rB, v6, x6, u9, p6, x9, b9, u5, sB, c9, rfl⟩
           ·clear hx
            obtain ⟨e09, hfr, y00, z00, a01, b01, c01, d01, e01, g01, h01, i01, eT, gT, iT, jT, kT, lT, mT, nT, oT, pT, rE⟩ := hR
            rcases csome h with ⟨gF, h⟩ | ⟨gF, h⟩
            ·refine E_cond_true (Eq.trans (show ev _ _ = .bool (a8) from rE) (congrArg Value.bool gF)) ?_
             refine E_seq (E_region (EL_at (.bool false) rfl rfl ?_))
             refine EL_nil (thn_n (E_ret (thn_r ?_)))
             refine blk_r ?_
             refine thn_r ?_
             refine thn_r ?_
             refine blk_r ?_
             refine thn_r ?_
             refine blk_r ?_
             refine thn_r ?_
             refine thn_r ?_
             refine blk_r ?_
             refine thn_r ?_
             obtain rfl := sinj h
             exact end1 rfl rfl (show _ = .bool false from rfl) ⟨_, hfr, rfl⟩
            ·refine E_cond_false (Eq.trans (show ev _ _ = .bool (a8) from rE) (congrArg Value.bool gF)) ?_
             exact E_skip (thn_n (y05 () _ _ ⟨e09, hfr, y00, z00, a01, b01, c01, d01, e01, g01, h01, i01, eT, gT, iT, jT, kT, lT, mT, nT, oT, pT⟩ h))
          ·rintro _ p0D k0G ⟨g09, hfr, j01, aD, aM, vA, k01, bD, l01, cD, m01, dD, qT, tB, uB, rT, vB, sT, nH, d9, tT, oH⟩ h
           refine E_seq (L_loadO0 (x := .tmp 5) Try.isAgg28 Try.sizeOf28 vA fun uT h09 b06 => ?_)
           obtain ⟨n6, cO, h⟩ := bsome h
           have i09 := PT_idx d9 cO
           refine L_load (x := .tmp 178) Try.isAgg62 Try.sizeOf62 i09 fun vT j09 c06 => ?_
           obtain ⟨c5, d06, h⟩ := bsome h
           refine E_drawL (g := g09) (n := 12) [(5, (fun v g w => RV g.m w ([n6] : List FaultDamage) v ∧ OS 3180 g w 62 ([n6] : List FaultDamage) v ∧ FullV v)), (6, (fun v g w => ∃ y0 y1 : Value, v = .tuple #[y0, y1] ∧ RV g.m w (c5.1 : List Str) y0 ∧ y1 = .bool (c5.2)))] [0, 1, 2, 3, 4, 5, 6, 7, 8, 9, 10, 11] rfl mixed (by kernel_rfl) (⟨fun _ => up_and up_rv (up_and up_os (up_eq _)), fun _ => (up_ex fun _ => (up_ex fun _ => (up_and (up_eq _) (up_and up_rv (up_eq _))))), trivial⟩) ?_
           refine L_ld (c := uT) rfl rfl .plain (fun _ _ h => ⟨h.ch, fun b hb _ => h.below.block b hb⟩) b06 aM ?_
           refine L_pur (c := u0) rfl rfl .plain (fun _ _ hd => P_move nH) ?_
           refine L_pur (c := .int .i64 (q2)) rfl rfl .plain (fun _ _ hd => P_move oH) ?_
           refine L_pur (c := ePtr u0 q2 5) rfl rfl .plain (fun _ _ hd => P_indexAddr (α := FaultDamage) Try.underlying29 Try.sizeOf62 rfl d9 rfl cO) ?_
           refine L_ld (c := vT) rfl rfl .plain (fun _ _ h => h.ch) c06 rfl ?_
           refine L_do (φ := fun v g w => RV g.m w ([n6] : List FaultDamage) v ∧ OS 3180 g w 62 ([n6] : List FaultDamage) v ∧ FullV v) rfl rfl .plain (fun g w hd => D_buildSlice (g := g) 3180 (xs := ([n6] : List FaultDamage)) (vs := [vT]) Try.underlying29 Try.sizeOf62 Try.zeroValue62 rfl rfl (.cons rfl .nil) (RVs.cons (j09.ext hd.1) RVs.nil) rfl rfl fun g' w' v hs o r hxt hfl => ⟨g', hxt, r, o, hfl⟩) (fun a7 hv => ?_)
           clear hv
           refine L_do (φ := fun v g w => ∃ y0 y1 : Value, v = .tuple #[y0, y1] ∧ RV g.m w (c5.1 : List Str) y0 ∧ y1 = .bool (c5.2)) rfl rfl .plain (fun g w hd => D_call (g := g) (vs := [uT, .int .i64 (120), a7]) en45 (.cons rfl (.cons rfl (.cons rfl .nil))) (wk45 (h09.ext hd.1) (word (A := fun g w => RV g.m w ([n6] : List FaultDamage) a7 ∧ OS 3180 g w 62 ([n6] : List FaultDamage) a7 ∧ FullV a7) 5 rfl rfl (deps_of hd)).1 d06) fun g' w' v hs hr => ⟨g', hs, hr⟩) (fun l0G hv => ?_)
           obtain ⟨_, _, _, z4, _, rfl, i0C, rfl⟩ := hv
           refine L_pur (c := .tuple #[z4, .bool (c5.2)]) rfl rfl .plain (fun _ _ hd => P_move rfl) ?_
           refine L_pur (c := z4) rfl rfl .plain (fun _ _ hd => P_extract rfl rfl) ?_
           refine L_pur (c := .bool (c5.2)) rfl rfl .plain (fun _ _ hd => P_extract rfl rfl) ?_
           refine L_pur (c := z4) rfl rfl .plain (fun _ _ hd => P_assign rfl) ?_
           refine L_pur (c := .bool (c5.2)) rfl rfl .plain (fun _ _ hd => P_assign rfl) ?_
           refine L_nil fun k09 m0G hall => ?_
           have hs := hall.1
           have hfr := hfr.ext hs
           have aD := aD.ext hs
           have vA := vA.ext hs
           have bD := bD.ext hs
           have cD := cD.ext hs
           have dD := dD.ext hs
           have tB := tB.ext hs
           have uB := uB.ext hs
           have vB := vB.ext hs
           have d9 := d9.ext hs
           have n0G := (word_all (A := fun g w => RV g.m w ([n6] : List FaultDamage) a7 ∧ OS 3180 g w 62 ([n6] : List FaultDamage) a7 ∧ FullV a7) 5 rfl hall).1
           have o31694 := (word_all (A := fun g w => RV g.m w ([n6] : List FaultDamage) a7 ∧ OS 3180 g w 62 ([n6] : List FaultDamage) a7 ∧ FullV a7) 5 rfl hall).2.1
           have o0G := (tup2_0 (word_all (A := fun g w => ∃ y0 y1 : Value, Value.tuple #[z4, .bool (c5.2)] = .tuple #[y0, y1] ∧ RV g.m w (c5.1 : List Str) y0 ∧ y1 = .bool (c5.2)) 6 rfl hall))
           have l09 := (tup2_0 (word_all (A := fun g w => ∃ y0 y1 : Value, Value.tuple #[z4, .bool (c5.2)] = .tuple #[y0, y1] ∧ RV g.m w (c5.1 : List Str) y0 ∧ y1 = .bool (c5.2)) 6 rfl hall))
           clear hs hall
           refine EL_nil (thn_n ?_)
           obtain ⟨p9, hx, h⟩ := bsome h
           refine E_join (fun e w => ∃ (g : Gh) , Fr gI wI g w ∧ e 1 = up1 ∧ RV g.m w (x1 : List (Vector UInt8 2)) up1 ∧ e 5 = p5 ∧ OB 2005 g w 28 (y4 : FaultLoom) p5 ∧ e 6 = p3 ∧ OB 2006 g w 62 (y11 : FaultDamage) p3 ∧ e 7 = i2 ∧ RV g.m w (u4.1 : List Str) i2 ∧ e 9 = z1 ∧ RV g.m w (i4.1 : List FaultDamage) z1 ∧ e 11 = j0 ∧ RV g.m w (n0 : List FaultSight) j0 ∧ OS 3062 g w 56 (n0 : List FaultSight) j0 ∧ e 12 = i1 ∧ RV g.m w (d2 : List FaultDamage) i1 ∧ e 14 = .int .i64 (o0) ∧ e 15 = u0 ∧ RV g.m w (j1.1 : List FaultDamage) u0 ∧ e 19 = .bool (i3.2) ∧ e 21 = .int .i64 (q2) ∧ e 23 = .bool (p9)) (fun Q' hQ => ?_) (fun q0D p0G hR => ?_)
           ·replace h := hx
            clear hx
            refine E_seq (E_region (EL_at (.int .i64 (0)) rfl rfl ?_))
            refine EL_nil (thn_n (E_block ?_))
            refine E_lp h (fun (s : Bool × Int) e w => ∃ (g : Gh) , Fr gI wI g w ∧ e 1 = up1 ∧ RV g.m w (x1 : List (Vector UInt8 2)) up1 ∧ e 5 = p5 ∧ OB 2005 g w 28 (y4 : FaultLoom) p5 ∧ e 6 = p3 ∧ OB 2006 g w 62 (y11 : FaultDamage) p3 ∧ e 7 = i2 ∧ RV g.m w (u4.1 : List Str) i2 ∧ e 9 = z1 ∧ RV g.m w (i4.1 : List FaultDamage) z1 ∧ e 11 = j0 ∧ RV g.m w (n0 : List FaultSight) j0 ∧ OS 3062 g w 56 (n0 : List FaultSight) j0 ∧ e 12 = i1 ∧ RV g.m w (d2 : List FaultDamage) i1 ∧ e 14 = .int .i64 (o0) ∧ e 15 = u0 ∧ RV g.m w (j1.1 : List FaultDamage) u0 ∧ e 19 = .bool (i3.2) ∧ e 21 = .int .i64 (q2) ∧ e 22 = z4 ∧ RV g.m w ((c5.1 : List Str) : List Str) z4 ∧ e 23 = .bool (s.1) ∧ e 24 = .int .i64 (s.2)) ⟨k09, hfr, j01, aD, aM, vA, k01, bD, l01, cD, m01, dD, qT, tB, uB, rT, vB, sT, nH, d9, tT, oH, rfl, l09, rfl, rfl⟩ (fun X31818 jP e06 => ?_)
            rintro ⟨l7, o3⟩ r0D q0G ⟨xT, hfr, bM, cM, dM, eM, gM, iM, jM, kM, lM, mM, xB, yB, pH, qH, sH, tH, uH, vH, xH, yH, zH, aI, zB, aC⟩ h
            refine E_joinC h (fun (s : Unit) e w => ∃ (g : Gh) , Fr gI wI g w ∧ e 1 = up1 ∧ RV g.m w (x1 : List (Vector UInt8 2)) up1 ∧ e 5 = p5 ∧ OB 2005 g w 28 (y4 : FaultLoom) p5 ∧ e 6 = p3 ∧ OB 2006 g w 62 (y11 : FaultDamage) p3 ∧ e 7 = i2 ∧ RV g.m w (u4.1 : List Str) i2 ∧ e 9 = z1 ∧ RV g.m w (i4.1 : List FaultDamage) z1 ∧ e 11 = j0 ∧ RV g.m w (n0 : List FaultSight) j0 ∧ OS 3062 g w 56 (n0 : List FaultSight) j0 ∧ e 12 = i1 ∧ RV g.m w (d2 : List FaultDamage) i1 ∧ e 14 = .int .i64 (o0) ∧ e 15 = u0 ∧ RV g.m w (j1.1 : List FaultDamage) u0 ∧ e 19 = .bool (i3.2) ∧ e 21 = .int .i64 (q2) ∧ e 22 = z4 ∧ RV g.m w ((c5.1 : List Str) : List Str) z4 ∧ e 24 = .int .i64 (o3)) (fun X31824 kP g06 h => ?_) ?_
            ·obtain ⟨z7, hx, h⟩ := bsome h
             refine E_join (fun e w => ∃ (g : Gh) , Fr gI wI g w ∧ e 1 = up1 ∧ RV g.m w (x1 : List (Vector UInt8 2)) up1 ∧ e 5 = p5 ∧ OB 2005 g w 28 (y4 : FaultLoom) p5 ∧ e 6 = p3 ∧ OB 2006 g w 62 (y11 : FaultDamage) p3 ∧ e 7 = i2 ∧ RV g.m w (u4.1 : List Str) i2 ∧ e 9 = z1 ∧ RV g.m w (i4.1 : List FaultDamage) z1 ∧ e 11 = j0 ∧ RV g.m w (n0 : List FaultSight) j0 ∧ OS 3062 g w 56 (n0 : List FaultSight) j0 ∧ e 12 = i1 ∧ RV g.m w (d2 : List FaultDamage) i1 ∧ e 14 = .int .i64 (o0) ∧ e 15 = u0 ∧ RV g.m w (j1.1 : List FaultDamage) u0 ∧ e 19 = .bool (i3.2) ∧ e 21 = .int .i64 (q2) ∧ e 22 = z4 ∧ RV g.m w ((c5.1 : List Str) : List Str) z4 ∧ e 23 = .bool (l7) ∧ e 24 = .int .i64 (o3) ∧ e 190 = .bool (z7)) (fun Q' hQ => ?_) (fun s0D r0G hR => ?_)
             ·replace h := hx
              clear hx
              refine E_region (EL_mv aC rfl ?_)
              refine EL_mv xB rfl ?_
              refine EL_pur (v := .int .i64 ((n0).length : Int)) (P_len Try.underlying39 rfl yB) .plain rfl ?_
              refine EL_in (.bool ((decide (o3 < ((n0).length : Int))))) rfl rfl rfl rfl ?_
              refine EL_mw (.bool ((decide (o3 < ((n0).length : Int))))) rfl rfl ?_
              rcases csome h with ⟨oA, h⟩ | ⟨oA, h⟩
              ·refine EL_pur (v := .bool (l7)) (P_move zB) (.yes2 rfl rfl oA) rfl ?_
               refine EL_pur (v := .bool (l7)) (P_pick (b := (decide (o3 < ((n0).length : Int)))) rfl (pick_t oA rfl)) .plain rfl ?_
               refine EL_nil ?_
               obtain rfl := sinj h
               exact hQ _ _ ⟨xT, hfr, bM, cM, dM, eM, gM, iM, jM, kM, lM, mM, xB, yB, pH, qH, sH, tH, uH, vH, xH, yH, zH, aI, zB, aC, rfl⟩
              ·refine EL_skip (.no2 rfl rfl oA rfl) rfl ?_
               refine EL_pur (v := .bool false) (P_pick (b := (decide (o3 < ((n0).length : Int)))) rfl (pick_f oA rfl)) .plain rfl ?_
               refine EL_nil ?_
               obtain rfl := sinj h
               exact hQ _ _ ⟨xT, hfr, bM, cM, dM, eM, gM, iM, jM, kM, lM, mM, xB, yB, pH, qH, sH, tH, uH, vH, xH, yH, zH, aI, zB, aC, rfl⟩
             ·clear hx
              obtain ⟨yT, hfr, nM, oM, pM, qM, rM, sM, tM, uM, vM, xM, bI, cI, dI, eI, iI, jI, kI, lI, mI, nI, zT, aU, bU, cU, sE⟩ := hR
              rcases csome h with ⟨iF, h⟩ | ⟨iF, h⟩
              ·refine E_cond_true (Eq.trans (show ev _ _ = .bool (z7) from sE) (congrArg Value.bool iF)) ?_
               exact E_skip (thn_n (g06 () _ _ ⟨yT, hfr, nM, oM, pM, qM, rM, sM, tM, uM, vM, xM, bI, cI, dI, eI, iI, jI, kI, lI, mI, nI, zT, aU, cU⟩ h))
              ·refine E_cond_false (Eq.trans (show ev _ _ = .bool (z7) from sE) (congrArg Value.bool iF)) ?_
               refine E_exit ?_
               refine thn_e ?_
               refine thn_e ?_
               refine blk_hit ?_
               obtain rfl := sinj h
               exact hQ _ _ ⟨yT, hfr, nM, oM, pM, qM, rM, sM, tM, uM, vM, xM, bI, cI, dI, eI, iI, jI, kI, lI, mI, nI, bU⟩
            ·rintro _ t0D s0G ⟨m09, hfr, n01, eD, o01, gD, p01, iD, q01, jD, r01, kD, y9, i6, bC, dU, cC, eU, gU, dC, hU, iU, oI, e9, z9⟩ h
             obtain ⟨o9, hx, h⟩ := bsome h
             refine E_join (fun e w => ∃ (g : Gh) , Fr gI wI g w ∧ e 1 = up1 ∧ RV g.m w (x1 : List (Vector UInt8 2)) up1 ∧ e 5 = p5 ∧ OB 2005 g w 28 (y4 : FaultLoom) p5 ∧ e 6 = p3 ∧ OB 2006 g w 62 (y11 : FaultDamage) p3 ∧ e 7 = i2 ∧ RV g.m w (u4.1 : List Str) i2 ∧ e 9 = z1 ∧ RV g.m w (i4.1 : List FaultDamage) z1 ∧ e 11 = j0 ∧ RV g.m w (n0 : List FaultSight) j0 ∧ OS 3062 g w 56 (n0 : List FaultSight) j0 ∧ e 12 = i1 ∧ RV g.m w (d2 : List FaultDamage) i1 ∧ e 14 = .int .i64 (o0) ∧ e 15 = u0 ∧ RV g.m w (j1.1 : List FaultDamage) u0 ∧ e 19 = .bool (i3.2) ∧ e 21 = .int .i64 (q2) ∧ e 22 = z4 ∧ RV g.m w ((c5.1 : List Str) : List Str) z4 ∧ e 23 = .bool (o9) ∧ e 24 = .int .i64 (o3)) (fun Q' hQ => ?_) (fun u0D t0G hR => ?_)
             ·replace h := hx
              clear hx
              refine E_block ?_
              obtain ⟨cE, dO, h⟩ := bsome h
              have jU := PT_idx i6 dO
              have n09 := PT_field (part_FaultSight_0).1 jU
              refine L_load (x := .tmp 197) Try.isAgg3 Try.sizeOf3 n09 fun u0G o09 h06 => ?_
              obtain rfl := RV_int.1 o09
              obtain ⟨iJ, eO, h⟩ := bsome h
              have p09 := PT_idx e9 eO
              refine L_load (x := .tmp 199) Try.isAgg9 Try.sizeOf9 p09 fun v0G q09 i06 => ?_
              obtain rfl := RV_str.1 q09
              obtain ⟨jJ, gO, h⟩ := bsome h
              have kU := PT_idx i6 gO
              have r09 := PT_field (part_FaultSight_1).1 kU
              refine L_load (x := .tmp 204) Try.isAgg3 Try.sizeOf3 r09 fun x0G s09 j06 => ?_
              obtain rfl := RV_int.1 s09
              obtain ⟨jA, k06, h⟩ := bsome h
              obtain ⟨zA, hO, h⟩ := bsome h
              have lU := PT_idx i6 hO
              have t09 := PT_field (part_FaultSight_2).1 lU
              refine L_load (x := .tmp 211) Try.isAgg4 Try.sizeOf4 t09 fun y0G u09 l06 => ?_
              obtain rfl := RV_bool.1 u09
              refine E_drawL (g := m09) (n := 22) [] [0, 1, 2, 3, 4, 5, 6, 7, 8, 9, 10, 11, 12, 13, 14, 15, 16, 17, 18, 19, 20, 21] rfl mixed (by kernel_rfl) trivial ?_
              refine L_pur (c := z4) rfl rfl .plain (fun _ _ hd => P_move oI) ?_
              refine L_pur (c := j0) rfl rfl .plain (fun _ _ hd => P_move y9) ?_
              refine L_pur (c := .int .i64 (o3)) rfl rfl .plain (fun _ _ hd => P_move z9) ?_
              refine L_pur (c := ePtr j0 o3 3) rfl rfl .plain (fun _ _ hd => P_indexAddr (α := FaultSight) Try.underlying39 Try.sizeOf56 rfl i6 rfl dO) ?_
              refine L_pur (c := fPtr (ePtr j0 o3 3) 0) rfl rfl .plain (fun _ _ hd => P_fieldAddr at_56_0 rfl (PT.ptr jU)) ?_
              refine L_ld (c := .int .i64 ((cE).Pick)) rfl rfl .plain (fun _ _ h => h.ch) h06 rfl ?_
              refine L_pur (c := ePtr z4 (cE).Pick 1) rfl rfl .plain (fun _ _ hd => P_indexAddr (α := Str) Try.underlying36 Try.sizeOf9 rfl e9 rfl eO) ?_
              refine L_ld (c := Str.v (iJ)) rfl rfl .plain (fun _ _ h => h.ch) i06 rfl ?_
              refine L_pur (c := j0) rfl rfl .plain (fun _ _ hd => P_move y9) ?_
              refine L_pur (c := .int .i64 (o3)) rfl rfl .plain (fun _ _ hd => P_move z9) ?_
              refine L_pur (c := ePtr j0 o3 3) rfl rfl .plain (fun _ _ hd => P_indexAddr (α := FaultSight) Try.underlying39 Try.sizeOf56 rfl i6 rfl gO) ?_
              refine L_pur (c := fPtr (ePtr j0 o3 3) 1) rfl rfl .plain (fun _ _ hd => P_fieldAddr at_56_1 rfl (PT.ptr kU)) ?_
              refine L_ld (c := .int .i64 ((jJ).Warp)) rfl rfl .plain (fun _ _ h => h.ch) j06 rfl ?_
              refine L_pur (c := .int .u8 (UInt8.toNat (jA))) rfl rfl .plain (fun _ _ hd => P_indexS Try.underlying9 rfl rfl k06) ?_
              refine L_pur (c := .bool ((jA == (120 : UInt8)))) rfl rfl .plain (fun _ _ hd => P_u8 rfl rfl rfl) ?_
              refine L_pur (c := j0) rfl rfl .plain (fun _ _ hd => P_move y9) ?_
              refine L_pur (c := .int .i64 (o3)) rfl rfl .plain (fun _ _ hd => P_move z9) ?_
              refine L_pur (c := ePtr j0 o3 3) rfl rfl .plain (fun _ _ hd => P_indexAddr (α := FaultSight) Try.underlying39 Try.sizeOf56 rfl i6 rfl hO) ?_
              refine L_pur (c := fPtr (ePtr j0 o3 3) 2) rfl rfl .plain (fun _ _ hd => P_fieldAddr at_56_2 rfl (PT.ptr lU)) ?_
              refine L_ld (c := .bool ((zA).Lifted)) rfl rfl .plain (fun _ _ h => h.ch) l06 rfl ?_
              refine L_pur (c := .bool (((jA == (120 : UInt8)) == (zA).Lifted))) rfl rfl .plain (fun _ _ hd => P_bool Try.underlying4 rfl rfl rfl) ?_
              refine L_pur (c := .bool (((jA == (120 : UInt8)) == (zA).Lifted))) rfl rfl .plain (fun _ _ hd => P_assign rfl) ?_
              refine L_nil fun v09 z0G hall => ?_
              have hs := hall.1
              have hfr := hfr.ext hs
              have eD := eD.ext hs
              have gD := gD.ext hs
              have iD := iD.ext hs
              have jD := jD.ext hs
              have kD := kD.ext hs
              have i6 := i6.ext hs
              have bC := bC.ext hs
              have cC := cC.ext hs
              have dC := dC.ext hs
              have e9 := e9.ext hs
              clear hs hall
              refine EL_nil (blk_n ?_)
              obtain rfl := sinj h
              exact hQ _ _ ⟨v09, hfr, n01, eD, o01, gD, p01, iD, q01, jD, r01, kD, y9, i6, bC, dU, cC, eU, gU, dC, hU, iU, oI, e9, rfl, z9⟩
             ·clear hx
              obtain ⟨x09, hfr, s01, t01, u01, v01, x01, y01, z01, a02, b02, c02, mU, nU, oU, pU, qU, rU, sU, tU, uU, vU, xU, yU, zU, aV⟩ := hR
              refine E_region (EL_mv aV rfl ?_)
              refine EL_in (.int .i64 ((w64 (o3 + (1 : Int))))) rfl rfl rfl rfl ?_
              refine EL_at (.int .i64 ((w64 (o3 + (1 : Int))))) rfl rfl ?_
              exact EL_nil (thn_n (e06 (o9, (w64 (o3 + (1 : Int)))) _ _ ⟨x09, hfr, s01, t01, u01, v01, x01, y01, z01, a02, b02, c02, mU, nU, oU, pU, qU, rU, sU, tU, uU, vU, xU, yU, zU, rfl⟩ h))
           ·clear hx
            obtain ⟨y09, hfr, d02, e02, g02, h02, i02, j02, k02, l02, m02, n02, bV, cV, dV, eV, gV, iV, jV, kV, lV, mV, nV⟩ := hR
            refine E_seq (E_region (EL_mv nV rfl ?_))
            refine EL_pur (v := .bool (!p9)) (P_not rfl) .plain rfl ?_
            refine EL_nil (thn_n ?_)
            rcases csome h with ⟨jF, h⟩ | ⟨jF, h⟩
            ·refine E_ct jF rfl ?_
             refine E_seq (E_region (EL_at (.bool false) rfl rfl ?_))
             refine EL_nil (thn_n (E_ret (blk_r ?_)))
             refine thn_r ?_
             refine thn_r ?_
             refine blk_r ?_
             refine thn_r ?_
             refine blk_r ?_
             refine thn_r ?_
             refine thn_r ?_
             refine blk_r ?_
             refine thn_r ?_
             obtain rfl := sinj h
             exact end1 rfl rfl (show _ = .bool false from rfl) ⟨_, hfr, rfl⟩
            ·refine E_cf jF rfl ?_
             exact E_skip (blk_n (thn_n (x05 () _ _ ⟨y09, hfr, d02, e02, g02, h02, i02, j02, k02, l02, m02, n02, bV, cV, dV, eV, gV, iV, jV, kV, lV, mV⟩ h)))
         ·rintro _ v0D a0H ⟨z09, hfr, o02, p02, q02, r02, s02, t02, u02, v02, x02, y02, oV, pV, qV, rV, sV, tV, uV, vV, xV, yV⟩ h
          refine E_region (EL_mv yV rfl ?_)
          refine EL_in (.int .i64 ((w64 (q2 + (1 : Int))))) rfl rfl rfl rfl ?_
          refine EL_at (.int .i64 ((w64 (q2 + (1 : Int))))) rfl rfl ?_
          exact EL_nil (thn_n (u05 ((w64 (q2 + (1 : Int)))) _ _ ⟨z09, hfr, o02, p02, q02, r02, s02, t02, u02, v02, x02, y02, oV, pV, qV, rV, sV, tV, uV, vV, xV, rfl⟩ h))
       ·rintro _ x0D b0H ⟨a0A, hfr, z02, a03, b03, c03, d03, e03, g03, h03, i03, j03, zV, aW, bW, cW, dW, eW, gW, iW, jW⟩ h
        refine E_joinC h (fun (s : Unit) e w => ∃ (g : Gh) , Fr gI wI g w ∧ e 1 = up1 ∧ RV g.m w (x1 : List (Vector UInt8 2)) up1 ∧ e 5 = p5 ∧ OB 2005 g w 28 (y4 : FaultLoom) p5 ∧ e 6 = p3 ∧ OB 2006 g w 62 (y11 : FaultDamage) p3 ∧ e 7 = i2 ∧ RV g.m w (u4.1 : List Str) i2 ∧ e 9 = z1 ∧ RV g.m w (i4.1 : List FaultDamage) z1 ∧ e 11 = j0 ∧ RV g.m w (n0 : List FaultSight) j0 ∧ OS 3062 g w 56 (n0 : List FaultSight) j0 ∧ e 14 = .int .i64 (o0) ∧ e 15 = u0 ∧ RV g.m w (j1.1 : List FaultDamage) u0 ∧ e 19 = .bool (i3.2)) (fun X32543 aP m06 h => ?_) ?_
        ·refine E_seq (E_region (EL_at (.int .i64 (0)) rfl rfl ?_))
         refine EL_nil (thn_n (E_block ?_))
         refine E_lp h (fun (s : Int) e w => ∃ (g : Gh) , Fr gI wI g w ∧ e 1 = up1 ∧ RV g.m w (x1 : List (Vector UInt8 2)) up1 ∧ e 5 = p5 ∧ OB 2005 g w 28 (y4 : FaultLoom) p5 ∧ e 6 = p3 ∧ OB 2006 g w 62 (y11 : FaultDamage) p3 ∧ e 7 = i2 ∧ RV g.m w (u4.1 : List Str) i2 ∧ e 9 = z1 ∧ RV g.m w (i4.1 : List FaultDamage) z1 ∧ e 11 = j0 ∧ RV g.m w (n0 : List FaultSight) j0 ∧ OS 3062 g w 56 (n0 : List FaultSight) j0 ∧ e 12 = i1 ∧ RV g.m w (d2 : List FaultDamage) i1 ∧ e 14 = .int .i64 (o0) ∧ e 15 = u0 ∧ RV g.m w (j1.1 : List FaultDamage) u0 ∧ e 19 = .bool (i3.2) ∧ e 25 = .int .i64 (s)) ⟨a0A, hfr, z02, a03, b03, c03, d03, e03, g03, h03, i03, j03, zV, aW, bW, cW, dW, eW, gW, iW, jW, rfl⟩ (fun X32544 bP n06 => ?_)
         rintro z2 y0D c0H ⟨yM, hfr, lD, mD, nD, oD, pD, qD, rD, sD, tD, uD, eC, iC, jC, aA, bA, cA, kC, lC, mC, i9⟩ h
         refine E_joinC h (fun (s : Unit) e w => ∃ (g : Gh) , Fr gI wI g w ∧ e 1 = up1 ∧ RV g.m w (x1 : List (Vector UInt8 2)) up1 ∧ e 5 = p5 ∧ OB 2005 g w 28 (y4 : FaultLoom) p5 ∧ e 6 = p3 ∧ OB 2006 g w 62 (y11 : FaultDamage) p3 ∧ e 7 = i2 ∧ RV g.m w (u4.1 : List Str) i2 ∧ e 9 = z1 ∧ RV g.m w (i4.1 : List FaultDamage) z1 ∧ e 11 = j0 ∧ RV g.m w (n0 : List FaultSight) j0 ∧ OS 3062 g w 56 (n0 : List FaultSight) j0 ∧ e 12 = i1 ∧ RV g.m w (d2 : List FaultDamage) i1 ∧ e 14 = .int .i64 (o0) ∧ e 15 = u0 ∧ RV g.m w (j1.1 : List FaultDamage) u0 ∧ e 19 = .bool (i3.2) ∧ e 25 = .int .i64 (z2)) (fun X32552 eP o06 h => ?_) ?_
         ·obtain ⟨y7, hx, h⟩ := bsome h
          refine E_join (fun e w => ∃ (g : Gh) , Fr gI wI g w ∧ e 1 = up1 ∧ RV g.m w (x1 : List (Vector UInt8 2)) up1 ∧ e 5 = p5 ∧ OB 2005 g w 28 (y4 : FaultLoom) p5 ∧ e 6 = p3 ∧ OB 2006 g w 62 (y11 : FaultDamage) p3 ∧ e 7 = i2 ∧ RV g.m w (u4.1 : List Str) i2 ∧ e 9 = z1 ∧ RV g.m w (i4.1 : List FaultDamage) z1 ∧ e 11 = j0 ∧ RV g.m w (n0 : List FaultSight) j0 ∧ OS 3062 g w 56 (n0 : List FaultSight) j0 ∧ e 12 = i1 ∧ RV g.m w (d2 : List FaultDamage) i1 ∧ e 14 = .int .i64 (o0) ∧ e 15 = u0 ∧ RV g.m w (j1.1 : List FaultDamage) u0 ∧ e 19 = .bool (i3.2) ∧ e 25 = .int .i64 (z2) ∧ e 227 = .bool (y7)) (fun Q' hQ => ?_) (fun z0D d0H hR => ?_)
          ·replace h := hx
           clear hx
           refine E_region (EL_mv i9 rfl ?_)
           refine EL_mv aA rfl ?_
           refine EL_pur (v := .int .i64 ((d2).length : Int)) (P_len Try.underlying29 rfl bA) .plain rfl ?_
           refine EL_in (.bool ((decide (z2 < ((d2).length : Int))))) rfl rfl rfl rfl ?_
           refine EL_mw (.bool ((decide (z2 < ((d2).length : Int))))) rfl rfl ?_
           rcases csome h with ⟨o8, h⟩ | ⟨o8, h⟩
           ·refine EL_pur (v := .int .i64 (z2)) (P_move i9) (.yes2 rfl rfl o8) rfl ?_
            refine EL_pur (v := .bool ((decide (z2 < (40 : Int))))) (P_int rfl rfl rfl) (.yes2 rfl rfl o8) rfl ?_
            refine EL_pur (v := .bool ((decide (z2 < (40 : Int))))) (P_pick (b := (decide (z2 < ((d2).length : Int)))) rfl (pick_t o8 rfl)) .plain rfl ?_
            refine EL_mw (.bool ((decide (z2 < (40 : Int))))) rfl rfl ?_
            rcases csome h with ⟨p8, h⟩ | ⟨p8, h⟩
            ·refine EL_pur (v := .int .i64 (o0)) (P_move cA) (.yes2 rfl rfl p8) rfl ?_
             refine EL_pur (v := .bool ((decide (o0 > (0 : Int))))) (P_int rfl rfl rfl) (.yes2 rfl rfl p8) rfl ?_
             refine EL_pur (v := .bool ((decide (o0 > (0 : Int))))) (P_pick (b := (decide (z2 < (40 : Int)))) rfl (pick_t p8 rfl)) .plain rfl ?_
             refine EL_nil ?_
             obtain rfl := sinj h
             exact hQ _ _ ⟨yM, hfr, lD, mD, nD, oD, pD, qD, rD, sD, tD, uD, eC, iC, jC, aA, bA, cA, kC, lC, mC, i9, rfl⟩
            ·refine EL_skip (.no2 rfl rfl p8 rfl) rfl ?_
             refine EL_skip (.no2 rfl rfl p8 rfl) rfl ?_
             refine EL_pur (v := .bool false) (P_pick (b := (decide (z2 < (40 : Int)))) rfl (pick_f p8 rfl)) .plain rfl ?_
             refine EL_nil ?_
             obtain rfl := sinj h
             exact hQ _ _ ⟨yM, hfr, lD, mD, nD, oD, pD, qD, rD, sD, tD, uD, eC, iC, jC, aA, bA, cA, kC, lC, mC, i9, rfl⟩
           ·refine EL_skip (.no2 rfl rfl o8 rfl) rfl ?_
            refine EL_skip (.no2 rfl rfl o8 rfl) rfl ?_
            refine EL_pur (v := .bool false) (P_pick (b := (decide (z2 < ((d2).length : Int)))) rfl (pick_f o8 rfl)) .plain rfl ?_
            refine EL_dead 4 rfl ?_
            refine EL_nil ?_
            obtain rfl := sinj h
            exact hQ _ _ ⟨yM, hfr, lD, mD, nD, oD, pD, qD, rD, sD, tD, uD, eC, iC, jC, aA, bA, cA, kC, lC, mC, i9, rfl⟩
          ·clear hx
           obtain ⟨kW, hfr, zM, aN, bN, cN, dN, eN, gN, iN, jN, kN, pI, qI, rI, lW, mW, sI, tI, uI, vI, nW, tE⟩ := hR
           rcases csome h with ⟨kF, h⟩ | ⟨kF, h⟩
           ·refine E_cond_true (Eq.trans (show ev _ _ = .bool (y7) from tE) (congrArg Value.bool kF)) ?_
            exact E_skip (thn_n (o06 () _ _ ⟨kW, hfr, zM, aN, bN, cN, dN, eN, gN, iN, jN, kN, pI, qI, rI, lW, mW, sI, tI, uI, vI, nW⟩ h))
           ·refine E_cond_false (Eq.trans (show ev _ _ = .bool (y7) from tE) (congrArg Value.bool kF)) ?_
            refine E_exit ?_
            refine thn_e ?_
            refine thn_e ?_
            refine blk_hit ?_
            exact thn_n (m06 () _ _ ⟨kW, hfr, zM, aN, bN, cN, dN, eN, gN, iN, jN, kN, pI, qI, rI, sI, tI, uI, vI⟩ h)
         ·rintro _ a0E e0H ⟨oW, hfr, lN, x5, vD, q5, mN, y5, nN, z5, oN, a6, dA, p4, o5, eA, j4, xI, nC, l5, yI, gA⟩ h
          refine E_joinC h (fun (s : Unit) e w => ∃ (g : Gh) , Fr gI wI g w ∧ e 1 = up1 ∧ RV g.m w (x1 : List (Vector UInt8 2)) up1 ∧ e 5 = p5 ∧ OB 2005 g w 28 (y4 : FaultLoom) p5 ∧ e 6 = p3 ∧ OB 2006 g w 62 (y11 : FaultDamage) p3 ∧ e 7 = i2 ∧ RV g.m w (u4.1 : List Str) i2 ∧ e 9 = z1 ∧ RV g.m w (i4.1 : List FaultDamage) z1 ∧ e 11 = j0 ∧ RV g.m w (n0 : List FaultSight) j0 ∧ OS 3062 g w 56 (n0 : List FaultSight) j0 ∧ e 12 = i1 ∧ RV g.m w (d2 : List FaultDamage) i1 ∧ e 14 = .int .i64 (o0) ∧ e 15 = u0 ∧ RV g.m w (j1.1 : List FaultDamage) u0 ∧ e 19 = .bool (i3.2) ∧ e 25 = .int .i64 (z2)) (fun X32853 cP p06 h => ?_) ?_
          ·refine E_block ?_
           refine E_seq (E_region (EL_mv dA rfl ?_))
           refine EL_mv dA rfl ?_
           refine EL_pur (v := .int .i64 ((n0).length : Int)) (P_len Try.underlying39 rfl p4) .plain rfl ?_
           refine EL_in (.int .i64 ((w64 (((n0).length : Int) - (1 : Int))))) rfl rfl rfl rfl ?_
           obtain ⟨t6, iO, h⟩ := bsome h
           refine EL_pur (v := ePtr j0 (w64 (((n0).length : Int) - (1 : Int))) 3) (P_indexAddr (α := FaultSight) Try.underlying39 Try.sizeOf56 rfl p4 rfl iO) .plain rfl ?_
           have b0A := PT_idx p4 iO
           refine EL_do .plain rfl (D_load (g := oW) Try.isAgg56 Try.sizeOf56 rfl b0A fun c0A pN => ?_)
           refine EL_do .plain rfl (D_allocOc (g := oW) 2026 (⟨0, 0, false⟩ : FaultSight) Try.zeroValue56 (fun m w => ⟨_, (rep_two rep_int (rep_two rep_int rep_bool)), rfl⟩) fun d0A g0H qN hs b32857 cb => ?_)
           have hfr := hfr.stp hs
           have x5 := x5.stp hs
           have q5 := q5.stp hs rfl
           have y5 := y5.stp hs rfl
           have z5 := z5.stp hs
           have a6 := a6.stp hs
           have p4 := p4.stp hs
           have o5 := o5.stp hs rfl
           have j4 := j4.stp hs
           have l5 := l5.stp hs
           have pN := pN.stp hs
           clear cb
           refine EL_do .plain rfl (D_storeOc (g := d0A) (v := c0A) Try.sizeOf56 rfl b32857 rfl pN fun e0A h0H hs b32858 cb => ?_)
           clear cb
           have hfr := hfr.stp hs
           have x5 := x5.stp hs
           have q5 := q5.stp hs rfl
           have y5 := y5.stp hs rfl
           have z5 := z5.stp hs
           have a6 := a6.stp hs
           have p4 := p4.stp hs
           have o5 := o5.stp hs rfl
           have j4 := j4.stp hs
           have l5 := l5.stp hs
           refine EL_nil (thn_n (E_seq (L_loadO0 (x := .tmp 5) Try.isAgg28 Try.sizeOf28 q5 fun pW g0A q06 => ?_)))
           obtain ⟨m6, jO, h⟩ := bsome h
           have h0A := PT_idx j4 jO
           refine L_load (x := .tmp 240) Try.isAgg62 Try.sizeOf62 h0A fun qW i0A r06 => ?_
           obtain ⟨o4, s06, h⟩ := bsome h
           refine E_drawL (g := e0A) (n := 12) [(5, (fun v g w => RV g.m w ([m6] : List FaultDamage) v ∧ OS 3242 g w 62 ([m6] : List FaultDamage) v ∧ FullV v)), (6, (fun v g w => ∃ y0 y1 : Value, v = .tuple #[y0, y1] ∧ RV g.m w (o4.1 : List Str) y0 ∧ y1 = .bool (o4.2)))] [0, 1, 2, 3, 4, 5, 6, 7, 8, 9, 10, 11] rfl mixed (by kernel_rfl) (⟨fun _ => up_and up_rv (up_and up_os (up_eq _)), fun _ => (up_ex fun _ => (up_ex fun _ => (up_and (up_eq _) (up_and up_rv (up_eq _))))), trivial⟩) ?_
           refine L_ld (c := pW) rfl rfl .plain (fun _ _ h => ⟨h.ch, fun b hb _ => h.below.block b hb⟩) q06 vD ?_
           refine L_pur (c := i1) rfl rfl .plain (fun _ _ hd => P_move eA) ?_
           refine L_pur (c := .int .i64 (z2)) rfl rfl .plain (fun _ _ hd => P_move gA) ?_
           refine L_pur (c := ePtr i1 z2 5) rfl rfl .plain (fun _ _ hd => P_indexAddr (α := FaultDamage) Try.underlying29 Try.sizeOf62 rfl j4 rfl jO) ?_
           refine L_ld (c := qW) rfl rfl .plain (fun _ _ h => h.ch) r06 rfl ?_
           refine L_do (φ := fun v g w => RV g.m w ([m6] : List FaultDamage) v ∧ OS 3242 g w 62 ([m6] : List FaultDamage) v ∧ FullV v) rfl rfl .plain (fun g w hd => D_buildSlice (g := g) 3242 (xs := ([m6] : List FaultDamage)) (vs := [qW]) Try.underlying29 Try.sizeOf62 Try.zeroValue62 rfl rfl (.cons rfl .nil) (RVs.cons (i0A.ext hd.1) RVs.nil) rfl rfl fun g' w' v hs o r hxt hfl => ⟨g', hxt, r, o, hfl⟩) (fun b7 hv => ?_)
           clear hv
           refine L_do (φ := fun v g w => ∃ y0 y1 : Value, v = .tuple #[y0, y1] ∧ RV g.m w (o4.1 : List Str) y0 ∧ y1 = .bool (o4.2)) rfl rfl .plain (fun g w hd => D_call (g := g) (vs := [pW, .int .i64 (120), b7]) en45 (.cons rfl (.cons rfl (.cons rfl .nil))) (wk45 (g0A.ext hd.1) (word (A := fun g w => RV g.m w ([m6] : List FaultDamage) b7 ∧ OS 3242 g w 62 ([m6] : List FaultDamage) b7 ∧ FullV b7) 5 rfl rfl (deps_of hd)).1 s06) fun g' w' v hs hr => ⟨g', hs, hr⟩) (fun i0H hv => ?_)
           obtain ⟨_, _, _, j7, _, rfl, j0C, rfl⟩ := hv
           refine L_pur (c := .tuple #[j7, .bool (o4.2)]) rfl rfl .plain (fun _ _ hd => P_move rfl) ?_
           refine L_pur (c := j7) rfl rfl .plain (fun _ _ hd => P_extract rfl rfl) ?_
           refine L_pur (c := .bool (o4.2)) rfl rfl .plain (fun _ _ hd => P_extract rfl rfl) ?_
           refine L_pur (c := j7) rfl rfl .plain (fun _ _ hd => P_assign rfl) ?_
           refine L_pur (c := .bool (o4.2)) rfl rfl .plain (fun _ _ hd => P_assign rfl) ?_
           refine L_nil fun sW j0H hall => ?_
           have hs := hall.1
           have hfr := hfr.ext hs
           have x5 := x5.ext hs
           have q5 := q5.ext hs
           have y5 := y5.ext hs
           have z5 := z5.ext hs
           have a6 := a6.ext hs
           have p4 := p4.ext hs
           have o5 := o5.ext hs
           have j4 := j4.ext hs
           have l5 := l5.ext hs
           have b32858 := b32858.ext hs
           have k0H := (word_all (A := fun g w => RV g.m w ([m6] : List FaultDamage) b7 ∧ OS 3242 g w 62 ([m6] : List FaultDamage) b7 ∧ FullV b7) 5 rfl hall).1
           have o32890 := (word_all (A := fun g w => RV g.m w ([m6] : List FaultDamage) b7 ∧ OS 3242 g w 62 ([m6] : List FaultDamage) b7 ∧ FullV b7) 5 rfl hall).2.1
           have l0H := (tup2_0 (word_all (A := fun g w => ∃ y0 y1 : Value, Value.tuple #[j7, .bool (o4.2)] = .tuple #[y0, y1] ∧ RV g.m w (o4.1 : List Str) y0 ∧ y1 = .bool (o4.2)) 6 rfl hall))
           have tW := (tup2_0 (word_all (A := fun g w => ∃ y0 y1 : Value, Value.tuple #[j7, .bool (o4.2)] = .tuple #[y0, y1] ∧ RV g.m w (o4.1 : List Str) y0 ∧ y1 = .bool (o4.2)) 6 rfl hall))
           clear hs hall
           refine EL_nil (thn_n ?_)
           obtain ⟨x7, hx, h⟩ := bsome h
           refine E_join (fun e w => ∃ (g : Gh) , Fr gI wI g w ∧ e 1 = up1 ∧ RV g.m w (x1 : List (Vector UInt8 2)) up1 ∧ e 5 = p5 ∧ OB 2005 g w 28 (y4 : FaultLoom) p5 ∧ e 6 = p3 ∧ OB 2006 g w 62 (y11 : FaultDamage) p3 ∧ e 7 = i2 ∧ RV g.m w (u4.1 : List Str) i2 ∧ e 9 = z1 ∧ RV g.m w (i4.1 : List FaultDamage) z1 ∧ e 11 = j0 ∧ RV g.m w (n0 : List FaultSight) j0 ∧ OS 3062 g w 56 (n0 : List FaultSight) j0 ∧ e 12 = i1 ∧ RV g.m w (d2 : List FaultDamage) i1 ∧ e 14 = .int .i64 (o0) ∧ e 15 = u0 ∧ RV g.m w (j1.1 : List FaultDamage) u0 ∧ e 19 = .bool (i3.2) ∧ e 25 = .int .i64 (z2) ∧ e 268 = .bool (x7)) (fun Q' hQ => ?_) (fun b0E m0H hR => ?_)
           ·replace h := hx
            clear hx
            rcases csome h with ⟨s2, h⟩ | ⟨s2, h⟩
            ·refine E_drawL (g := sW) (n := 23) [] [0, 1, 2, 3, 4, 5, 6, 7, 8, 9, 10, 11, 12, 13, 14, 15, 16, 17, 18, 19, 20, 21, 22] rfl mixed (by kernel_rfl) trivial ?_
             refine L_pur (c := .bool (o4.2)) rfl rfl .plain (fun _ _ hd => P_move rfl) ?_
             refine L_pur (c := .bool (!o4.2)) rfl rfl .plain (fun _ _ hd => P_not rfl) ?_
             refine L_pur (c := .bool (!o4.2)) rfl rfl .plain (fun _ _ hd => P_move rfl) ?_
             refine L_skip rfl (.no2 rfl rfl s2 rfl) ?_
             refine L_skip rfl (.no2 rfl rfl s2 rfl) ?_
             refine L_skip rfl (.no2 rfl rfl s2 rfl) ?_
             refine L_skip rfl (.no2 rfl rfl s2 rfl) ?_
             refine L_skip rfl (.no2 rfl rfl s2 rfl) ?_
             refine L_skip rfl (.no2 rfl rfl s2 rfl) ?_
             refine L_skip rfl (.no2 rfl rfl s2 rfl) ?_
             refine L_skip rfl (.no2 rfl rfl s2 rfl) ?_
             refine L_skip rfl (.no2 rfl rfl s2 rfl) ?_
             refine L_skip rfl (.no2 rfl rfl s2 rfl) ?_
             refine L_skip rfl (.no2 rfl rfl s2 rfl) ?_
             refine L_skip rfl (.no2 rfl rfl s2 rfl) ?_
             refine L_skip rfl (.no2 rfl rfl s2 rfl) ?_
             refine L_skip rfl (.no2 rfl rfl s2 rfl) ?_
             refine L_skip rfl (.no2 rfl rfl s2 rfl) ?_
             refine L_skip rfl (.no2 rfl rfl s2 rfl) ?_
             refine L_skip rfl (.no2 rfl rfl s2 rfl) ?_
             refine L_skip rfl (.no2 rfl rfl s2 rfl) ?_
             refine L_skip rfl (.no2 rfl rfl s2 rfl) ?_
             refine L_pur (c := .bool true) rfl rfl .plain (fun _ _ hd => P_pick (b := (!o4.2)) rfl (pick_t s2 rfl)) ?_
             refine L_nil fun j0A n0H hall => ?_
             have hs := hall.1
             have hfr := hfr.ext hs
             have x5 := x5.ext hs
             have q5 := q5.ext hs
             have y5 := y5.ext hs
             have z5 := z5.ext hs
             have a6 := a6.ext hs
             have p4 := p4.ext hs
             have o5 := o5.ext hs
             have j4 := j4.ext hs
             have l5 := l5.ext hs
             clear hs hall
             refine EL_nil ?_
             obtain rfl := sinj h
             exact hQ _ _ ⟨j0A, hfr, lN, x5, vD, q5, mN, y5, nN, z5, oN, a6, dA, p4, o5, eA, j4, xI, nC, l5, yI, gA, rfl⟩
            ·obtain ⟨dP, kO, h⟩ := bsome h
             have k0A := PT_idx j4 kO
             refine L_load (x := .tmp 252) Try.isAgg62 Try.sizeOf62 k0A fun uW l0A t06 => ?_
             obtain ⟨iA, u06, h⟩ := bsome h
             refine L_loadO (x := .tmp 256) part_FaultSight_0.1 Try.isAgg3 Try.sizeOf3 b32858 fun o0H m0A v06 => ?_
             obtain rfl := RV_int.1 m0A
             obtain ⟨gJ, lO, h⟩ := bsome h
             have n0A := PT_idx tW lO
             refine L_load (x := .tmp 258) Try.isAgg9 Try.sizeOf9 n0A fun p0H o0A x06 => ?_
             obtain rfl := RV_str.1 o0A
             refine L_loadO (x := .tmp 260) part_FaultSight_1.1 Try.isAgg3 Try.sizeOf3 b32858 fun q0H p0A y06 => ?_
             obtain rfl := RV_int.1 p0A
             obtain ⟨k9, z06, h⟩ := bsome h
             refine L_loadO (x := .tmp 264) part_FaultSight_2.1 Try.isAgg4 Try.sizeOf4 b32858 fun r0H q0A a07 => ?_
             obtain rfl := RV_bool.1 q0A
             refine E_drawL (g := sW) (n := 23) [(8, (fun v g w => v = .bool (iA)))] [0, 1, 2, 3, 4, 5, 6, 7, 8, 9, 10, 11, 12, 13, 14, 15, 16, 17, 18, 19, 20, 21, 22] rfl mixed (by kernel_rfl) (⟨fun _ => up_eq _, trivial⟩) ?_
             refine L_pur (c := .bool (o4.2)) rfl rfl .plain (fun _ _ hd => P_move rfl) ?_
             refine L_pur (c := .bool (!o4.2)) rfl rfl .plain (fun _ _ hd => P_not rfl) ?_
             refine L_pur (c := .bool (!o4.2)) rfl rfl .plain (fun _ _ hd => P_move rfl) ?_
             refine L_pur (c := u0) rfl rfl (.yes2 rfl rfl s2) (fun _ _ hd => P_move nC) ?_
             refine L_pur (c := i1) rfl rfl (.yes2 rfl rfl s2) (fun _ _ hd => P_move eA) ?_
             refine L_pur (c := .int .i64 (z2)) rfl rfl (.yes2 rfl rfl s2) (fun _ _ hd => P_move gA) ?_
             refine L_pur (c := ePtr i1 z2 5) rfl rfl (.yes2 rfl rfl s2) (fun _ _ hd => P_indexAddr (α := FaultDamage) Try.underlying29 Try.sizeOf62 rfl j4 rfl kO) ?_
             refine L_ld (c := uW) rfl rfl (.yes2 rfl rfl s2) (fun _ _ h => h.ch) t06 rfl ?_
             refine L_do (φ := fun v g w => v = .bool (iA)) rfl rfl (.yes2 rfl rfl s2) (fun g w hd => D_call (g := g) (vs := [u0, uW]) en48 (.cons rfl (.cons rfl .nil)) (wk48 (l5.ext hd.1) (l0A.ext hd.1) u06) fun g' w' v hs hr => ⟨g', hs, hr⟩) (fun s0H hv => ?_)
             obtain ⟨_, _, _, rfl⟩ := hv
             refine L_pur (c := j7) rfl rfl (.yes2 rfl rfl s2) (fun _ _ hd => P_move rfl) ?_
             refine L_pur (c := fPtr qN 0) rfl rfl (.yes2 rfl rfl s2) (fun _ _ hd => P_fieldAddr at_56_0 rfl (OB.ptr b32858)) ?_
             refine L_ld (c := .int .i64 ((t6).Pick)) rfl rfl (.yes2 rfl rfl s2) (fun _ _ h => ⟨h.ch, fun b hb _ => h.below.block b hb⟩) v06 rfl ?_
             refine L_pur (c := ePtr j7 (t6).Pick 1) rfl rfl (.yes2 rfl rfl s2) (fun _ _ hd => P_indexAddr (α := Str) Try.underlying36 Try.sizeOf9 rfl tW rfl lO) ?_
             refine L_ld (c := Str.v (gJ)) rfl rfl (.yes2 rfl rfl s2) (fun _ _ h => h.ch) x06 rfl ?_
             refine L_pur (c := fPtr qN 1) rfl rfl (.yes2 rfl rfl s2) (fun _ _ hd => P_fieldAddr at_56_1 rfl (OB.ptr b32858)) ?_
             refine L_ld (c := .int .i64 ((t6).Warp)) rfl rfl (.yes2 rfl rfl s2) (fun _ _ h => ⟨h.ch, fun b hb _ => h.below.block b hb⟩) y06 rfl ?_
             refine L_pur (c := .int .u8 (UInt8.toNat (k9))) rfl rfl (.yes2 rfl rfl s2) (fun _ _ hd => P_indexS Try.underlying9 rfl rfl z06) ?_
             refine L_pur (c := .bool ((k9 == (120 : UInt8)))) rfl rfl (.yes2 rfl rfl s2) (fun _ _ hd => P_u8 rfl rfl rfl) ?_
             refine L_pur (c := fPtr qN 2) rfl rfl (.yes2 rfl rfl s2) (fun _ _ hd => P_fieldAddr at_56_2 rfl (OB.ptr b32858)) ?_
             refine L_ld (c := .bool ((t6).Lifted)) rfl rfl (.yes2 rfl rfl s2) (fun _ _ h => ⟨h.ch, fun b hb _ => h.below.block b hb⟩) a07 rfl ?_
             refine L_pur (c := .bool (((k9 == (120 : UInt8)) == (t6).Lifted))) rfl rfl (.yes2 rfl rfl s2) (fun _ _ hd => P_bool Try.underlying4 rfl rfl rfl) ?_
             refine L_pur (c := .bool ((!(iA == ((k9 == (120 : UInt8)) == (t6).Lifted))))) rfl rfl (.yes2 rfl rfl s2) (fun _ _ hd => P_bool Try.underlying4 rfl rfl rfl) ?_
             refine L_pur (c := .bool ((!(iA == ((k9 == (120 : UInt8)) == (t6).Lifted))))) rfl rfl .plain (fun _ _ hd => P_pick (b := (!o4.2)) rfl (pick_f s2 rfl)) ?_
             refine L_nil fun r0A t0H hall => ?_
             have hs := hall.1
             have hfr := hfr.ext hs
             have x5 := x5.ext hs
             have q5 := q5.ext hs
             have y5 := y5.ext hs
             have z5 := z5.ext hs
             have a6 := a6.ext hs
             have p4 := p4.ext hs
             have o5 := o5.ext hs
             have j4 := j4.ext hs
             have l5 := l5.ext hs
             clear hs hall
             refine EL_nil ?_
             obtain rfl := sinj h
             exact hQ _ _ ⟨r0A, hfr, lN, x5, vD, q5, mN, y5, nN, z5, oN, a6, dA, p4, o5, eA, j4, xI, nC, l5, yI, gA, rfl⟩
           ·clear hx
            obtain ⟨s0A, hfr, k03, l03, m03, n03, o03, p03, q03, r03, s03, t03, vW, xW, yW, zW, aX, bX, cX, dX, eX, gX, uE⟩ := hR
            rcases csome h with ⟨lF, h⟩ | ⟨lF, h⟩
            ·refine E_cond_true (Eq.trans (show ev _ _ = .bool (x7) from uE) (congrArg Value.bool lF)) ?_
             refine E_seq (E_region (EL_at (.bool false) rfl rfl ?_))
             refine EL_nil (thn_n (E_ret (blk_r ?_)))
             refine thn_r ?_
             refine thn_r ?_
             refine blk_r ?_
             refine thn_r ?_
             refine blk_r ?_
             refine thn_r ?_
             refine thn_r ?_
             refine blk_r ?_
             refine thn_r ?_
             obtain rfl := sinj h
             exact end1 rfl rfl (show _ = .bool false from rfl) ⟨_, hfr, rfl⟩
            ·refine E_cond_false (Eq.trans (show ev _ _ = .bool (x7) from uE) (congrArg Value.bool lF)) ?_
             exact E_skip (blk_n (thn_n (p06 () _ _ ⟨s0A, hfr, k03, l03, m03, n03, o03, p03, q03, r03, s03, t03, vW, xW, yW, zW, aX, bX, cX, dX, eX, gX⟩ h)))
          ·rintro _ c0E u0H ⟨t0A, hfr, u03, v03, x03, y03, z03, a04, b04, c04, d04, e04, iX, jX, kX, lX, mX, nX, oX, pX, qX, rX⟩ h
           refine E_region (EL_mv rX rfl ?_)
           refine EL_in (.int .i64 ((w64 (z2 + (1 : Int))))) rfl rfl rfl rfl ?_
           refine EL_at (.int .i64 ((w64 (z2 + (1 : Int))))) rfl rfl ?_
           exact EL_nil (thn_n (n06 ((w64 (z2 + (1 : Int)))) _ _ ⟨t0A, hfr, u03, v03, x03, y03, z03, a04, b04, c04, d04, e04, iX, jX, kX, lX, mX, nX, oX, pX, qX, rfl⟩ h))
        ·rintro _ d0E v0H ⟨u0A, hfr, g04, h04, i04, j04, k04, l04, m04, n04, o04, p04, sX, tX, uX, vX, xX, yX, zX⟩ h
         refine E_joinC h (fun (s : (List FaultDamage)) e w => ∃ (g : Gh) (oF : Value), Fr gI wI g w ∧ e 1 = up1 ∧ RV g.m w (x1 : List (Vector UInt8 2)) up1 ∧ e 5 = p5 ∧ OB 2005 g w 28 (y4 : FaultLoom) p5 ∧ e 6 = p3 ∧ OB 2006 g w 62 (y11 : FaultDamage) p3 ∧ e 7 = i2 ∧ RV g.m w (u4.1 : List Str) i2 ∧ e 9 = z1 ∧ RV g.m w (i4.1 : List FaultDamage) z1 ∧ e 11 = j0 ∧ RV g.m w (n0 : List FaultSight) j0 ∧ OS 3062 g w 56 (n0 : List FaultSight) j0 ∧ e 12 = oF ∧ RV g.m w (s : List FaultDamage) oF ∧ e 14 = .int .i64 (o0)) (fun X33150 zO b07 h => ?_) ?_
         ·refine E_seq (E_region (EL_mv xX rfl ?_))
          refine EL_at u0 rfl rfl ?_
          refine EL_nil (thn_n (E_seq (E_region (EL_mv zX rfl ?_))))
          refine EL_pur (v := .bool (!i3.2)) (P_not rfl) .plain rfl ?_
          refine EL_nil (thn_n ?_)
          rcases csome h with ⟨mF, h⟩ | ⟨mF, h⟩
          ·refine E_ct mF rfl ?_
           refine E_seq (E_region (EL_at (.bool false) rfl rfl ?_))
           refine EL_nil (thn_n (E_ret (thn_r ?_)))
           refine blk_r ?_
           refine thn_r ?_
           refine thn_r ?_
           refine blk_r ?_
           refine thn_r ?_
           obtain rfl := sinj h
           exact end1 rfl rfl (show _ = .bool false from rfl) ⟨_, hfr, rfl⟩
          ·refine E_cf mF rfl ?_
           exact E_skip (thn_n (b07 (j1.1) _ _ ⟨u0A, (u0), hfr, g04, h04, i04, j04, k04, l04, m04, n04, o04, p04, sX, tX, uX, rfl, yX, vX⟩ h))
         ·rintro q8 e0E x0H ⟨aY, zI, hfr, n9, t5, xD, e6, rN, y6, yD, k6, sN, z6, aJ, q7, t7, bJ, q6, j9⟩ h
          refine E_seq (E_region (EL_mv j9 rfl ?_))
          refine EL_mv n9 rfl ?_
          refine EL_pur (v := .int .i64 ((x1).length : Int)) (P_len Try.underlying94 rfl t5) .plain rfl ?_
          refine EL_in (.bool ((decide (o0 < ((x1).length : Int))))) rfl rfl rfl rfl ?_
          refine EL_nil (thn_n ?_)
          rcases csome h with ⟨nF, h⟩ | ⟨nF, h⟩
          ·refine E_ct nF rfl ?_
           refine E_seq ?_
           obtain ⟨vO, mO, h⟩ := bsome h
           have bY := PT_idx t5 mO
           obtain ⟨aE, nO, h⟩ := bsome h
           have v0A := PT_idxA bY nO
           refine L_load (x := .tmp 279) Try.isAgg5 Try.sizeOf5 v0A fun y0H x0A c07 => ?_
           obtain rfl := RV_u8.1 x0A
           obtain ⟨l6, d07, h⟩ := bsome h
           obtain ⟨xO, oO, h⟩ := bsome h
           have cY := PT_idx t5 oO
           obtain ⟨bE, pO, h⟩ := bsome h
           have y0A := PT_idxA cY pO
           refine L_load (x := .tmp 286) Try.isAgg5 Try.sizeOf5 y0A fun z0H z0A e07 => ?_
           obtain rfl := RV_u8.1 z0A
           refine L_loadO (x := .tmp 290) (SubS.comp part_FaultLoom_0 part_TieHarness_1 rfl).1 Try.isAgg22 Try.sizeOf22 e6 fun a0B b0B g07 => ?_
           obtain ⟨r6, h07, h⟩ := bsome h
           refine E_drawL (g := aY) (n := 20) [] [0, 1, 2, 3, 4, 5, 6, 7, 8, 9, 10, 11, 12, 13, 14, 15, 16, 17, 18, 19] rfl mixed (by kernel_rfl) trivial ?_
           refine L_pur (c := up1) rfl rfl .plain (fun _ _ hd => P_move n9) ?_
           refine L_pur (c := .int .i64 (o0)) rfl rfl .plain (fun _ _ hd => P_move j9) ?_
           refine L_pur (c := ePtr up1 o0 2) rfl rfl .plain (fun _ _ hd => P_indexAddr (α := Vector UInt8 2) Try.underlying94 Try.sizeOf90 rfl t5 rfl mO) ?_
           refine L_pur (c := fPtr (ePtr up1 o0 2) (((0 : Int) : Int).toNat * 1)) rfl rfl .plain (fun _ _ hd => P_indexAddrA (α := UInt8) Try.underlying90 Try.sizeOf5 rfl (PT.ptr bY) rfl nO) ?_
           refine L_ld (c := .int .u8 (UInt8.toNat (aE))) rfl rfl .plain (fun _ _ h => h.ch) c07 rfl ?_
           refine L_pur (c := .int .i64 (((aE).toNat : Int))) rfl rfl .plain (fun _ _ hd => P_u8int Try.underlying5 Try.underlying3 rfl) ?_
           refine L_pur (c := .int .i64 (l6)) rfl rfl .plain (fun _ _ hd => P_int rfl rfl (congrArg (Option.map (Value.int .i64)) d07)) ?_
           refine L_pur (c := up1) rfl rfl .plain (fun _ _ hd => P_move n9) ?_
           refine L_pur (c := .int .i64 (o0)) rfl rfl .plain (fun _ _ hd => P_move j9) ?_
           refine L_pur (c := ePtr up1 o0 2) rfl rfl .plain (fun _ _ hd => P_indexAddr (α := Vector UInt8 2) Try.underlying94 Try.sizeOf90 rfl t5 rfl oO) ?_
           refine L_pur (c := fPtr (ePtr up1 o0 2) (((1 : Int) : Int).toNat * 1)) rfl rfl .plain (fun _ _ hd => P_indexAddrA (α := UInt8) Try.underlying90 Try.sizeOf5 rfl (PT.ptr cY) rfl pO) ?_
           refine L_ld (c := .int .u8 (UInt8.toNat (bE))) rfl rfl .plain (fun _ _ h => h.ch) e07 rfl ?_
           refine L_pur (c := .int .i64 (((bE).toNat : Int))) rfl rfl .plain (fun _ _ hd => P_u8int Try.underlying5 Try.underlying3 rfl) ?_
           refine L_pur (c := fPtr p5 0) rfl rfl .plain (fun _ _ hd => P_fieldAddr at_28_0 xD (OB.ptr e6)) ?_
           refine L_pur (c := fPtr p5 1) rfl rfl .plain (fun _ _ hd => P_fieldAddr2 (o1 := 0) rfl at_24_1 rfl (OB.ptr e6)) ?_
           refine L_ld (c := a0B) rfl rfl .plain (fun _ _ h => ⟨h.ch, fun b hb _ => h.below.block b hb⟩) g07 rfl ?_
           refine L_pur (c := .int .i64 ((((y4).Harness).Warps).length : Int)) rfl rfl .plain (fun _ _ hd => P_len Try.underlying22 rfl b0B) ?_
           refine L_pur (c := .int .i64 (r6)) rfl rfl .plain (fun _ _ hd => P_int rfl rfl (congrArg (Option.map (Value.int .i64)) h07)) ?_
           refine L_pur (c := .int .i64 (l6)) rfl rfl .plain (fun _ _ hd => P_assign rfl) ?_
           refine L_pur (c := .int .i64 (r6)) rfl rfl .plain (fun _ _ hd => P_assign rfl) ?_
           refine L_nil fun tN c0B hall => ?_
           have hs := hall.1
           have hfr := hfr.ext hs
           have t5 := t5.ext hs
           have e6 := e6.ext hs
           have y6 := y6.ext hs
           have k6 := k6.ext hs
           have z6 := z6.ext hs
           have q7 := q7.ext hs
           have t7 := t7.ext hs
           have q6 := q6.ext hs
           clear hs hall
           refine EL_nil (thn_n (E_region (EL_mv aJ rfl ?_)))
           refine EL_mw (.int .i64 (l6)) rfl rfl ?_
           refine EL_mw (.int .i64 (r6)) rfl rfl ?_
           refine EL_mv yD rfl ?_
           refine EL_mw (.int .i64 (l6)) rfl rfl ?_
           obtain ⟨yO, qO, h⟩ := bsome h
           refine EL_pur (v := ePtr i2 l6 1) (P_indexAddr (α := Str) Try.underlying36 Try.sizeOf9 rfl k6 rfl qO) .plain rfl ?_
           have d0B := PT_idx k6 qO
           refine EL_do .plain rfl (D_load (g := tN) Try.isAgg9 Try.sizeOf9 rfl d0B fun a0I e0B => ?_)
           obtain rfl := RV_str.1 e0B
           refine EL_mw (.int .i64 (r6)) rfl rfl ?_
           obtain ⟨u7, i07, h⟩ := bsome h
           refine EL_pur (v := .int .u8 (UInt8.toNat (u7))) (P_indexS Try.underlying9 rfl rfl i07) .plain rfl ?_
           refine EL_pur (v := .bool ((u7 == (120 : UInt8)))) (P_u8 rfl rfl rfl) .plain rfl ?_
           have dY : RV tN.m c0B (⟨l6, r6, (u7 == (120 : UInt8))⟩ : FaultSight) (.agg (setCh [[.int .i64 0], [.int .i64 0], [.bool false]] [(0, .int .i64 (l6)), (1, .int .i64 (r6)), (2, .bool ((u7 == (120 : UInt8))))]).flatten.toArray) := RV_build rfl (rep_pair (rfl) (rep_pair (rfl) (rep_last (rfl))))
           generalize j07 : (Value.agg (setCh [[.int .i64 0], [.int .i64 0], [.bool false]] [(0, .int .i64 (l6)), (1, .int .i64 (r6)), (2, .bool ((u7 == (120 : UInt8))))]).flatten.toArray) = eY at dY
           refine EL_pur (v := eY) (j07 ▸ P_build (vs := [(0, .int .i64 (l6)), (1, .int .i64 (r6)), (2, .bool ((u7 == (120 : UInt8))))]) [[.int .i64 0], [.int .i64 0], [.bool false]] lay_56 rfl rfl (.cons rfl (.cons rfl (.cons rfl .nil))) ⟨⟨_, rfl, rfl⟩, ⟨⟨_, rfl, rfl⟩, ⟨⟨_, rfl, rfl⟩, trivial⟩⟩⟩) .plain rfl ?_
           refine EL_do .plain rfl (D_buildSlice (g := tN) 3305 (xs := ([(⟨l6, r6, (u7 == (120 : UInt8))⟩ : FaultSight)] : List FaultSight)) (vs := [eY]) Try.underlying39 Try.sizeOf56 Try.zeroValue56 rfl rfl (.cons rfl .nil) (RVs.cons dY RVs.nil) rfl rfl fun g0B b0I c0I hs o33207 h0B hxt hfl => ?_)
           have hfr := hfr.stp hs
           have t5 := t5.stp hs
           have e6 := e6.stp hs rfl
           have y6 := y6.stp hs rfl
           have k6 := k6.stp hs
           have z6 := z6.stp hs
           have q7 := q7.stp hs
           have t7 := t7.stp hs rfl
           have q6 := q6.stp hs
           obtain ⟨eJ, k07, h⟩ := bsome h
           refine EL_do .plain rfl (D_append (g := g0B) (i := 3062) Try.underlying39 info_56 rfl rfl t7 q7 rfl h0B k07 fun i0B d0I gY hs o33208 j0B _ => ?_)
           have hfr := hfr.stp hs
           have t5 := t5.stp hs
           have e6 := e6.stp hs rfl
           have y6 := y6.stp hs rfl
           have k6 := k6.stp hs
           have z6 := z6.stp hs
           have q6 := q6.stp hs
           refine EL_at gY rfl rfl ?_
           exact EL_nil (blk_n (thn_n (uN (eJ, q8) _ _ ⟨i0B, (gY), (zI), hfr, n9, t5, xD, e6, rN, y6, yD, k6, sN, z6, rfl, j0B, o33208, bJ, q6, j9⟩ h)))
          ·refine E_cf nF rfl ?_
           exact E_skip (blk_n (thn_n (uN (n0, q8) _ _ ⟨aY, (j0), (zI), hfr, n9, t5, xD, e6, rN, y6, yD, k6, sN, z6, aJ, q7, t7, bJ, q6, j9⟩ h)))
    ·rintro ⟨xA, yA⟩ g0E e0I ⟨k0B, hY, iY, hfr, q04, r04, s04, t04, u04, v04, x04, y04, z04, a05, jY, kY, lY, mY, nY, oY⟩ h
     refine E_region (EL_mv oY rfl ?_)
     refine EL_in (.int .i64 ((w64 (o0 + (1 : Int))))) rfl rfl rfl rfl ?_
     refine EL_at (.int .i64 ((w64 (o0 + (1 : Int))))) rfl rfl ?_
     exact EL_nil (thn_n (c05 (xA, yA, (w64 (o0 + (1 : Int)))) _ _ ⟨k0B, (hY), (iY), hfr, q04, r04, s04, t04, u04, v04, x04, y04, z04, a05, jY, kY, lY, mY, nY, rfl⟩ h))
  ·rintro _ h0E g0I ⟨l0B, hfr⟩ h
   refine E_seq (E_region ?_)
   obtain ⟨zD, l07, h⟩ := bsome h
   refine EL_do .plain rfl (D_call (g := l0B) (vs := []) en15 .nil (wk15  l07) fun h0I i0E i0I hs hr => ?_)
   have hfr := hfr.ext hs
   subst hr
   refine EL_at (.bool (zD)) rfl rfl ?_
   refine EL_nil (thn_n (E_ret ?_))
   obtain rfl := sinj h
   exact end1 rfl rfl (show _ = .bool (zD) from rfl) ⟨_, hfr, rfl⟩
end Go.Proofs.Ytpiaipiehjcflaa
