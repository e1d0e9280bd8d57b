import Derived.Test.YtpiaipiehjcflaaCode5
set_option maxRecDepth 8000
set_option maxHeartbeats 4000000
namespace Go.Proofs.Ytpiaipiehjcflaa
open Go.RowKit
/-- griffe/griffelaw05.FaultLook -/
def f9 (x0 : Mill) (x1 : UInt8) (x2 : Vector UInt8 2) : Option (Bool) :=
 (f42 x0).bind fun y5 =>
 (rem64 ((x1).toNat : Int) (12 : Int)).bind fun y6 =>
 (f43 x0 y5 ((8 : Int))).bind fun u0 =>
 (f44 y5).bind fun kF =>
 (f17 u0).bind fun lF =>
 (f41 kF lF ((w64 ((1 : Int) + y6)))).bind fun j0 =>
 jn (σ := Unit) (fun (_ : Unit) =>
  jn (σ := Unit) (fun (_ : Unit) =>
   (f15).bind fun i6 =>
   some (i6)
   ) fun iC =>
  lp (σ := Int) (fun jC o0 =>
   jn (σ := Unit) (fun (_ : Unit) =>
    jn (σ := Unit) (fun (_ : Unit) =>
     jC ((w64 (o0 + (1 : Int))))
     ) fun kC =>
    Option.bind (α := Int × Int) (
     bif (o0 == (1 : Int)) then
      (idx (x2).toList (0 : Int)).bind fun l8 =>
      (rem64 ((l8).toNat : Int) (w64 ((1 : Int) + y6))).bind fun m8 =>
      (idx (x2).toList (1 : Int)).bind fun n8 =>
      (rem64 ((n8).toNat : Int) ((((y5).Harness).Warps).length : Int)).bind fun o8 =>
      some (m8, o8)
     else
      some (j0.1, j0.2.1)
     ) fun (s2, j3) =>
    jn (σ := Int) (fun n0 =>
     Option.bind (α := Bool) (
      bif (o0 == (0 : Int)) then
       bif ((max64 n0 (w64 (((u0).length : Int) - n0))) != j0.2.2.1) then
        some (true)
       else
        some ((decide ((max64 n0 (w64 (((u0).length : Int) - n0))) < j0.2.2.1)))
      else
       some ((decide ((max64 n0 (w64 (((u0).length : Int) - n0))) < j0.2.2.1)))
      ) fun q3 =>
     bif q3 then
      some (false)
     else
      kC ()
     ) fun kA =>
    lp (σ := Int × Int) (fun lA (z1, i1) =>
     jn (σ := Unit) (fun (_ : Unit) =>
      jn (σ := Int) (fun q4 =>
       lA (q4, (w64 (i1 + (1 : Int))))
       ) fun p8 =>
      (idx u0 i1).bind fun i2 =>
      (f45 y5 ((w64 ((1 : Int) + y6))) (([i2] : List FaultDamage))).bind fun j1 =>
      jn (σ := Unit) (fun (_ : Unit) =>
       (idx ((j1.1 : List Str)) s2).bind fun mA =>
       (idx (mA).b j3).bind fun j6 =>
       bif (j6 == (120 : UInt8)) then
        p8 ((w64 (z1 + (1 : Int))))
       else
        p8 (z1)
       ) fun nA =>
      bif (!j1.2) then
       some (false)
      else
       nA ()
      ) fun oA =>
     bif (decide (i1 < ((u0).length : Int))) then
      oA ()
     else
      kA (z1)
     ) big ((0 : Int), (0 : Int))
    ) fun lC =>
   bif (decide (o0 < (2 : Int))) then
    lC ()
   else
    iC ()
   ) big ((0 : Int))
  ) fun mF =>
 Option.bind (α := Bool) (
  bif (j0.2.2.2 != (0 : Int)) then
   some (true)
  else
   bif (decide (j0.1 < (0 : Int))) then
    some (true)
   else
    bif (decide (j0.1 ≥ (w64 ((1 : Int) + y6)))) then
     some (true)
    else
     bif (decide (j0.2.1 < (0 : Int))) then
      some (true)
     else
      bif (decide (j0.2.1 ≥ ((((y5).Harness).Warps).length : Int))) then
       some (true)
      else
       bif (decide (j0.2.2.1 < (1 : Int))) then
        some (true)
       else
        some ((decide (j0.2.2.1 > ((u0).length : Int))))
  ) fun m4 =>
 bif m4 then
  some (false)
 else
  mF ()
theorem wk9 {gI : Gh} {wI : World} {x0 : Mill} {x1 : UInt8} {x2 : Vector UInt8 2} {up0 : Value} (rp0 : RV gI.m wI x0 up0) {up2 : Value} (rp2 : RV gI.m wI x2 up2) {r : Bool} (h : f9 x0 x1 x2 = some r) : Fn Try.prog 9 #[up0, .int .u8 (UInt8.toNat (x1)), up2] gI wI (fun _ _ v => v = .bool (r)) := by
 unfold f9 at h
 refine fn_of_E Try.func9 rfl (Nat.le_of_ble_eq_true rfl) fun g0 hm hfr => ?_
 have rp0 : RV g0.m wI x0 up0 := hm ▸ rp0
 have rp2 : RV g0.m wI x2 up2 := hm ▸ rp2
 show E _ 143 none _ _ _ _ _
 refine E_seq (E_region (EL_do .plain rfl (D_box (g := g0) rfl rp0 fun g1 w1 p1 hs q1 => ?_)))
 have hfr := hfr.ext hs
 have rp2 := rp2.ext hs
 refine EL_do .plain rfl (D_box (g := g1) rfl rp2 fun g2 w2 p2 hs q2 => ?_)
 have hfr := hfr.ext hs
 have q1 := q1.ext hs
 refine EL_at (.bool false) rfl rfl ?_
 refine EL_nil (thn_n (E_seq (E_region (EL_do .plain rfl (D_load (g := g2) Try.isAgg84 Try.sizeOf84 rfl q1 fun v3 r3 => ?_)))))
 obtain ⟨y5, dG, h⟩ := bsome h
 refine EL_do .plain rfl (D_call (g := g2) (vs := [v3]) en42 (.cons rfl .nil) (wk42 r3 dG) fun g4 w4_ v4 hs hr => ?_)
 have hfr := hfr.ext hs
 have q1 := q1.ext hs
 have q2 := q2.ext hs
 have r4 := hr
 refine EL_mw (.int .u8 (UInt8.toNat (x1))) rfl rfl ?_
 refine EL_pur (v := .int .i64 (((x1).toNat : Int))) (P_u8int Try.underlying5 Try.underlying3 rfl) .plain rfl ?_
 obtain ⟨y6, eG, h⟩ := bsome h
 refine EL_pur (v := .int .i64 (y6)) (P_int rfl rfl (congrArg (Option.map (Value.int .i64)) eG)) .plain rfl ?_
 refine EL_in (.int .i64 ((w64 ((1 : Int) + y6)))) rfl rfl rfl rfl ?_
 refine EL_do .plain rfl (D_allocOc (g := g4) 2007 (⟨⟨0, []⟩, ⟨0, []⟩⟩ : FaultLoom) Try.zeroValue28 (fun m w => ⟨_, (rep_two (rep_two rep_int rep_nil) (rep_two rep_int rep_nil)), rfl⟩) fun g7 w7 p7 hs b7 cb => ?_)
 have hfr := hfr.stp hs
 have q1 := q1.stp hs
 have q2 := q2.stp hs
 have r4 := r4.stp hs
 have dI : OSF 2007 60701 1 g7 w7 3 28 ([] : List Int) p7 := cb.osf (by rfl)
 have eI : OSF 2007 60703 3 g7 w7 3 28 ([] : List Int) p7 := cb.osf (by rfl)
 clear cb
 refine EL_do .plain rfl (D_storeOc (g := g7) (v := v4) Try.sizeOf28 rfl b7 rfl r4 fun g8 w8 hs b8 cb => ?_)
 clear cb
 have hfr := hfr.stp hs
 have q1 := q1.stp hs
 have q2 := q2.stp hs
 refine EL_at (.int .i64 ((w64 ((1 : Int) + y6)))) rfl rfl ?_
 refine EL_nil (thn_n (E_seq (E_region (EL_do .plain rfl (D_load (g := g8) Try.isAgg84 Try.sizeOf84 rfl q1 fun v9 r9 => ?_)))))
 refine EL_do .plain rfl (D_loadO (g := g8) Try.isAgg28 Try.sizeOf28 rfl b8 fun gG hG => ?_)
 obtain ⟨u0, oF, h⟩ := bsome h
 refine EL_do .plain rfl (D_call (g := g8) (vs := [v9, gG, .int .i64 (8)]) en43 (.cons rfl (.cons rfl (.cons rfl .nil))) (wk43 r9 hG oF) fun nF iI d2 hs hr => ?_)
 have hfr := hfr.ext hs
 have q2 := q2.ext hs
 have b8 := b8.ext hs
 have u3 := hr
 refine EL_at d2 rfl rfl ?_
 refine EL_nil (thn_n (E_seq (E_region (EL_do .plain rfl (D_loadO (g := nF) Try.isAgg28 Try.sizeOf28 rfl b8 fun iG jG => ?_)))))
 obtain ⟨kF, pF, h⟩ := bsome h
 refine EL_do .plain rfl (D_call (g := nF) (vs := [iG]) en44 (.cons rfl .nil) (wk44 jG pF) fun kG jI lG hs hr => ?_)
 have hfr := hfr.ext hs
 have q2 := q2.ext hs
 have b8 := b8.ext hs
 have u3 := u3.ext hs
 have mC := hr
 refine EL_mw d2 rfl rfl ?_
 obtain ⟨lF, qF, h⟩ := bsome h
 refine EL_do .plain rfl (D_call (g := kG) (vs := [d2]) en17 (.cons rfl .nil) (wk17 u3 qF) fun mG kI nG hs hr => ?_)
 have hfr := hfr.ext hs
 have q2 := q2.ext hs
 have b8 := b8.ext hs
 have u3 := u3.ext hs
 have mC := mC.ext hs
 have oG := hr
 refine EL_mw (.int .i64 ((w64 ((1 : Int) + y6)))) rfl rfl ?_
 obtain ⟨j0, rF, h⟩ := bsome h
 refine EL_do .plain rfl (D_call (g := mG) (vs := [lG, nG, .int .i64 ((w64 ((1 : Int) + y6)))]) en41 (.cons rfl (.cons rfl (.cons rfl .nil))) (wk41 mC oG rF) fun d6 lI uI hs hr => ?_)
 have hfr := hfr.ext hs
 have q2 := q2.ext hs
 have b8 := b8.ext hs
 have u3 := u3.ext hs
 obtain ⟨cH, dH, gH, iH, rfl, rfl, rfl, rfl, rfl⟩ := hr
 refine EL_mw (.tuple #[.int .i64 (j0.1), .int .i64 (j0.2.1), .int .i64 (j0.2.2.1), .int .i64 (j0.2.2.2)]) rfl rfl ?_
 refine EL_pur (v := .int .i64 (j0.1)) (P_extract rfl rfl) .plain rfl ?_
 refine EL_pur (v := .int .i64 (j0.2.1)) (P_extract rfl rfl) .plain rfl ?_
 refine EL_pur (v := .int .i64 (j0.2.2.1)) (P_extract rfl rfl) .plain rfl ?_
 refine EL_pur (v := .int .i64 (j0.2.2.2)) (P_extract rfl rfl) .plain rfl ?_
 refine EL_at (.int .i64 (j0.1)) rfl rfl ?_
 refine EL_at (.int .i64 (j0.2.1)) rfl rfl ?_
 refine EL_at (.int .i64 (j0.2.2.1)) rfl rfl ?_
 refine EL_at (.int .i64 (j0.2.2.2)) rfl rfl ?_
 refine EL_nil (thn_n (E_joinC h (fun (s : Unit) e w => ∃ (g : Gh) , Fr gI wI g w ∧ e 5 = p2 ∧ PT g.m w (x2 : Vector UInt8 2) p2 ∧ e 7 = p7 ∧ OB 2007 g w 28 (y5 : FaultLoom) p7 ∧ e 8 = .int .i64 ((w64 ((1 : Int) + y6))) ∧ e 9 = d2 ∧ RV g.m w (u0 : List FaultDamage) d2 ∧ e 10 = .int .i64 (j0.1) ∧ e 11 = .int .i64 (j0.2.1) ∧ e 12 = .int .i64 (j0.2.2.1)) (fun X40 mF sF h => ?_) ?_))
 ·obtain ⟨m4, hx, h⟩ := bsome h
  refine E_join (fun e w => ∃ (g : Gh) , Fr gI wI g w ∧ e 5 = p2 ∧ PT g.m w (x2 : Vector UInt8 2) p2 ∧ e 7 = p7 ∧ OB 2007 g w 28 (y5 : FaultLoom) p7 ∧ e 8 = .int .i64 ((w64 ((1 : Int) + y6))) ∧ e 9 = d2 ∧ RV g.m w (u0 : List FaultDamage) d2 ∧ e 10 = .int .i64 (j0.1) ∧ e 11 = .int .i64 (j0.2.1) ∧ e 12 = .int .i64 (j0.2.2.1) ∧ e 74 = .bool (m4)) (fun Q' hQ => ?_) (fun mI vI hR => ?_)
  ·replace h := hx
   clear hx
   refine E_region (EL_mw (.int .i64 (j0.2.2.2)) rfl rfl ?_)
   refine EL_in (.bool ((j0.2.2.2 != (0 : Int)))) rfl rfl rfl rfl ?_
   refine EL_mw (.bool ((j0.2.2.2 != (0 : Int)))) rfl rfl ?_
   rcases csome h with ⟨u4, h⟩ | ⟨u4, h⟩
   ·refine EL_skip (.no2 rfl rfl u4 rfl) rfl ?_
    refine EL_skip (.no2 rfl rfl u4 rfl) rfl ?_
    refine EL_pur (v := .bool true) (P_pick (b := (j0.2.2.2 != (0 : Int))) rfl (pick_t u4 rfl)) .plain rfl ?_
    refine EL_dead 27 rfl ?_
    refine EL_nil ?_
    obtain rfl := sinj h
    exact hQ _ _ ⟨d6, hfr, rfl, q2, rfl, b8, rfl, rfl, u3, rfl, rfl, rfl, rfl⟩
   ·refine EL_pur (v := .int .i64 (j0.1)) (P_move rfl) (.yes2 rfl rfl u4) rfl ?_
    refine EL_pur (v := .bool ((decide (j0.1 < (0 : Int))))) (P_int rfl rfl rfl) (.yes2 rfl rfl u4) rfl ?_
    refine EL_pur (v := .bool ((decide (j0.1 < (0 : Int))))) (P_pick (b := (j0.2.2.2 != (0 : Int))) rfl (pick_f u4 rfl)) .plain rfl ?_
    refine EL_mw (.bool ((decide (j0.1 < (0 : Int))))) rfl rfl ?_
    rcases csome h with ⟨i4, h⟩ | ⟨i4, h⟩
    ·refine EL_skip (.no2 rfl rfl i4 rfl) rfl ?_
     refine EL_skip (.no2 rfl rfl i4 rfl) rfl ?_
     refine EL_skip (.no2 rfl rfl i4 rfl) rfl ?_
     refine EL_pur (v := .bool true) (P_pick (b := (decide (j0.1 < (0 : Int)))) rfl (pick_t i4 rfl)) .plain rfl ?_
     refine EL_dead 22 rfl ?_
     refine EL_nil ?_
     obtain rfl := sinj h
     exact hQ _ _ ⟨d6, hfr, rfl, q2, rfl, b8, rfl, rfl, u3, rfl, rfl, rfl, rfl⟩
    ·refine EL_pur (v := .int .i64 (j0.1)) (P_move rfl) (.yes2 rfl rfl i4) rfl ?_
     refine EL_pur (v := .int .i64 ((w64 ((1 : Int) + y6)))) (P_move rfl) (.yes2 rfl rfl i4) rfl ?_
     refine EL_pur (v := .bool ((decide (j0.1 ≥ (w64 ((1 : Int) + y6)))))) (P_int rfl rfl rfl) (.yes2 rfl rfl i4) rfl ?_
     refine EL_pur (v := .bool ((decide (j0.1 ≥ (w64 ((1 : Int) + y6)))))) (P_pick (b := (decide (j0.1 < (0 : Int)))) rfl (pick_f i4 rfl)) .plain rfl ?_
     refine EL_pur (v := .bool ((decide (j0.1 ≥ (w64 ((1 : Int) + y6)))))) (P_move rfl) .plain rfl ?_
     rcases csome h with ⟨x4, h⟩ | ⟨x4, h⟩
     ·refine EL_skip (.no2 rfl rfl x4 rfl) rfl ?_
      refine EL_skip (.no2 rfl rfl x4 rfl) rfl ?_
      refine EL_pur (v := .bool true) (P_pick (b := (decide (j0.1 ≥ (w64 ((1 : Int) + y6))))) rfl (pick_t x4 rfl)) .plain rfl ?_
      refine EL_dead 18 rfl ?_
      refine EL_nil ?_
      obtain rfl := sinj h
      exact hQ _ _ ⟨d6, hfr, rfl, q2, rfl, b8, rfl, rfl, u3, rfl, rfl, rfl, rfl⟩
     ·refine EL_pur (v := .int .i64 (j0.2.1)) (P_move rfl) (.yes2 rfl rfl x4) rfl ?_
      refine EL_pur (v := .bool ((decide (j0.2.1 < (0 : Int))))) (P_int rfl rfl rfl) (.yes2 rfl rfl x4) rfl ?_
      refine EL_pur (v := .bool ((decide (j0.2.1 < (0 : Int))))) (P_pick (b := (decide (j0.1 ≥ (w64 ((1 : Int) + y6))))) rfl (pick_f x4 rfl)) .plain rfl ?_
      refine EL_mw (.bool ((decide (j0.2.1 < (0 : Int))))) rfl rfl ?_
      rcases csome h with ⟨j2, h⟩ | ⟨j2, h⟩
      ·refine EL_skip (.no2 rfl rfl j2 rfl) rfl ?_
       refine EL_skip (.no2 rfl rfl j2 rfl) rfl ?_
       refine EL_skip (.no2 rfl rfl j2 rfl) rfl ?_
       refine EL_skip (.no2 rfl rfl j2 rfl) rfl ?_
       refine EL_skip (.no2 rfl rfl j2 rfl) rfl ?_
       refine EL_skip (.no2 rfl rfl j2 rfl) rfl ?_
       refine EL_pur (v := .bool true) (P_pick (b := (decide (j0.2.1 < (0 : Int)))) rfl (pick_t j2 rfl)) .plain rfl ?_
       refine EL_dead 10 rfl ?_
       refine EL_nil ?_
       obtain rfl := sinj h
       exact hQ _ _ ⟨d6, hfr, rfl, q2, rfl, b8, rfl, rfl, u3, rfl, rfl, rfl, rfl⟩
      ·refine EL_pur (v := .int .i64 (j0.2.1)) (P_move rfl) (.yes2 rfl rfl j2) rfl ?_
       refine EL_pur (v := fPtr p7 0) (P_fieldAddr at_28_0 rfl (OB.ptr b8)) (.yes2 rfl rfl j2) rfl ?_
       refine EL_pur (v := fPtr p7 1) (P_fieldAddr2 (o1 := 0) rfl at_24_1 rfl (OB.ptr b8)) (.yes2 rfl rfl j2) rfl ?_
       refine EL_do (.yes2 rfl rfl j2) rfl (D_loadF (g := d6) (SubS.comp part_FaultLoom_0 part_TieHarness_1 rfl).1 Try.isAgg22 Try.sizeOf22 rfl b8 fun xI pG => ?_)
       refine EL_pur (v := .int .i64 ((((y5).Harness).Warps).length : Int)) (P_len Try.underlying22 rfl pG) (.yes2 rfl rfl j2) rfl ?_
       refine EL_pur (v := .bool ((decide (j0.2.1 ≥ ((((y5).Harness).Warps).length : Int))))) (P_int rfl rfl rfl) (.yes2 rfl rfl j2) rfl ?_
       refine EL_pur (v := .bool ((decide (j0.2.1 ≥ ((((y5).Harness).Warps).length : Int))))) (P_pick (b := (decide (j0.2.1 < (0 : Int)))) rfl (pick_f j2 rfl)) .plain rfl ?_
       refine EL_pur (v := .bool ((decide (j0.2.1 ≥ ((((y5).Harness).Warps).length : Int))))) (P_move rfl) .plain rfl ?_
       rcases csome h with ⟨z4, h⟩ | ⟨z4, h⟩
       ·refine EL_skip (.no2 rfl rfl z4 rfl) rfl ?_
        refine EL_skip (.no2 rfl rfl z4 rfl) rfl ?_
        refine EL_pur (v := .bool true) (P_pick (b := (decide (j0.2.1 ≥ ((((y5).Harness).Warps).length : Int)))) rfl (pick_t z4 rfl)) .plain rfl ?_
        refine EL_dead 6 rfl ?_
        refine EL_nil ?_
        obtain rfl := sinj h
        exact hQ _ _ ⟨d6, hfr, rfl, q2, rfl, b8, rfl, rfl, u3, rfl, rfl, rfl, rfl⟩
       ·refine EL_pur (v := .int .i64 (j0.2.2.1)) (P_move rfl) (.yes2 rfl rfl z4) rfl ?_
        refine EL_pur (v := .bool ((decide (j0.2.2.1 < (1 : Int))))) (P_int rfl rfl rfl) (.yes2 rfl rfl z4) rfl ?_
        refine EL_pur (v := .bool ((decide (j0.2.2.1 < (1 : Int))))) (P_pick (b := (decide (j0.2.1 ≥ ((((y5).Harness).Warps).length : Int)))) rfl (pick_f z4 rfl)) .plain rfl ?_
        refine EL_mw (.bool ((decide (j0.2.2.1 < (1 : Int))))) rfl rfl ?_
        rcases csome h with ⟨z3, h⟩ | ⟨z3, h⟩
        ·refine EL_skip (.no2 rfl rfl z3 rfl) rfl ?_
         refine EL_skip (.no2 rfl rfl z3 rfl) rfl ?_
         refine EL_skip (.no2 rfl rfl z3 rfl) rfl ?_
         refine EL_skip (.no2 rfl rfl z3 rfl) rfl ?_
         refine EL_pur (v := .bool true) (P_pick (b := (decide (j0.2.2.1 < (1 : Int)))) rfl (pick_t z3 rfl)) .plain rfl ?_
         refine EL_nil ?_
         obtain rfl := sinj h
         exact hQ _ _ ⟨d6, hfr, rfl, q2, rfl, b8, rfl, rfl, u3, rfl, rfl, rfl, rfl⟩
        ·refine EL_pur (v := .int .i64 (j0.2.2.1)) (P_move rfl) (.yes2 rfl rfl z3) rfl ?_
         refine EL_pur (v := d2) (P_move rfl) (.yes2 rfl rfl z3) rfl ?_
         refine EL_pur (v := .int .i64 ((u0).length : Int)) (P_len Try.underlying29 rfl u3) (.yes2 rfl rfl z3) rfl ?_
         refine EL_pur (v := .bool ((decide (j0.2.2.1 > ((u0).length : Int))))) (P_int rfl rfl rfl) (.yes2 rfl rfl z3) rfl ?_
         refine EL_pur (v := .bool ((decide (j0.2.2.1 > ((u0).length : Int))))) (P_pick (b := (decide (j0.2.2.1 < (1 : Int)))) rfl (pick_f z3 rfl)) .plain rfl ?_
         refine EL_nil ?_
         obtain rfl := sinj h
         exact hQ _ _ ⟨d6, hfr, rfl, q2, rfl, b8, rfl, rfl, u3, rfl, rfl, rfl, rfl⟩
  ·clear hx
   obtain ⟨qG, hfr, vD, xD, yD, zD, aE, bE, cE, nC, oC, pC, x8⟩ := hR
   rcases csome h with ⟨c9, h⟩ | ⟨c9, h⟩
   ·refine E_cond_true (Eq.trans (show ev _ _ = .bool (m4) from x8) (congrArg Value.bool c9)) ?_
    refine E_seq (E_region (EL_at (.bool false) rfl rfl ?_))
    refine EL_nil (thn_n (E_ret (thn_r ?_)))
    obtain rfl := sinj h
    exact end1 rfl rfl (show _ = .bool false from rfl) ⟨_, hfr, rfl⟩
   ·refine E_cond_false (Eq.trans (show ev _ _ = .bool (m4) from x8) (congrArg Value.bool c9)) ?_
    exact E_skip (thn_n (sF () _ _ ⟨qG, hfr, vD, xD, yD, zD, aE, bE, cE, nC, oC, pC⟩ h))
 ·rintro _ nI yI ⟨rG, hfr, dE, eE, gE, iE, jE, kE, lE, qC, rC, sC⟩ h
  refine E_seq (E_region (EL_at (.int .i64 (0)) rfl rfl ?_))
  refine EL_nil (thn_n (E_joinC h (fun (s : Unit) e w => ∃ (g : Gh) , Fr gI wI g w) (fun X620 iC mE h => ?_) ?_))
  ·refine E_seq (E_region (EL_at (.int .i64 (0)) rfl rfl ?_))
   refine EL_nil (thn_n (E_block ?_))
   refine E_lp h (fun (s : Int) e w => ∃ (g : Gh) , Fr gI wI g w ∧ e 5 = p2 ∧ PT g.m w (x2 : Vector UInt8 2) p2 ∧ e 7 = p7 ∧ OB 2007 g w 28 (y5 : FaultLoom) p7 ∧ e 8 = .int .i64 ((w64 ((1 : Int) + y6))) ∧ e 9 = d2 ∧ RV g.m w (u0 : List FaultDamage) d2 ∧ e 10 = .int .i64 (j0.1) ∧ e 11 = .int .i64 (j0.2.1) ∧ e 12 = .int .i64 (j0.2.2.1) ∧ e 15 = .int .i64 (s)) ⟨rG, hfr, dE, eE, gE, iE, jE, kE, lE, qC, rC, sC, rfl⟩ (fun X621 jC nE => ?_)
   rintro o0 jH oI ⟨tC, hfr, uC, vC, xC, yC, zC, aD, bD, uA, vA, xA, n7⟩ h
   refine E_joinC h (fun (s : Unit) e w => ∃ (g : Gh) , Fr gI wI g w ∧ e 5 = p2 ∧ PT g.m w (x2 : Vector UInt8 2) p2 ∧ e 7 = p7 ∧ OB 2007 g w 28 (y5 : FaultLoom) p7 ∧ e 8 = .int .i64 ((w64 ((1 : Int) + y6))) ∧ e 9 = d2 ∧ RV g.m w (u0 : List FaultDamage) d2 ∧ e 10 = .int .i64 (j0.1) ∧ e 11 = .int .i64 (j0.2.1) ∧ e 12 = .int .i64 (j0.2.2.1) ∧ e 15 = .int .i64 (o0)) (fun X624 lC oE h => ?_) ?_
   ·refine E_seq (E_region (EL_mv n7 rfl ?_))
    refine EL_in (.bool ((decide (o0 < (2 : Int))))) rfl rfl rfl rfl ?_
    refine EL_nil (thn_n ?_)
    rcases csome h with ⟨q8, h⟩ | ⟨q8, h⟩
    ·refine E_ct q8 rfl ?_
     exact E_skip (thn_n (oE () _ _ ⟨tC, hfr, uC, vC, xC, yC, zC, aD, bD, uA, vA, xA, n7⟩ h))
    ·refine E_cf q8 rfl ?_
     refine E_exit ?_
     refine thn_e ?_
     refine thn_e ?_
     refine blk_hit ?_
     exact thn_n (mE () _ _ ⟨tC, hfr⟩ h)
   ·rintro _ kH pI ⟨cD, hfr, l5, s3, k6, c4, l6, y8, m5, n5, o5, o7, p5⟩ h
    refine E_joinC h (fun (s : Unit) e w => ∃ (g : Gh) , Fr gI wI g w ∧ e 5 = p2 ∧ PT g.m w (x2 : Vector UInt8 2) p2 ∧ e 7 = p7 ∧ OB 2007 g w 28 (y5 : FaultLoom) p7 ∧ e 8 = .int .i64 ((w64 ((1 : Int) + y6))) ∧ e 9 = d2 ∧ RV g.m w (u0 : List FaultDamage) d2 ∧ e 10 = .int .i64 (j0.1) ∧ e 11 = .int .i64 (j0.2.1) ∧ e 12 = .int .i64 (j0.2.2.1) ∧ e 15 = .int .i64 (o0)) (fun X902 kC pE h => ?_) ?_
    ·refine E_block ?_
     refine E_seq (E_region (EL_mv n5 rfl ?_))
     refine EL_mv o5 rfl ?_
     refine EL_at (.int .i64 (j0.1)) rfl rfl ?_
     refine EL_at (.int .i64 (j0.2.1)) rfl rfl ?_
     refine EL_at (.int .i64 (0)) rfl rfl ?_
     refine EL_nil (thn_n ?_)
     obtain ⟨⟨s2, j3⟩, hx, h⟩ := bsome h
     refine E_join (fun e w => ∃ (g : Gh) , Fr gI wI g w ∧ e 5 = p2 ∧ PT g.m w (x2 : Vector UInt8 2) p2 ∧ e 7 = p7 ∧ OB 2007 g w 28 (y5 : FaultLoom) p7 ∧ e 8 = .int .i64 ((w64 ((1 : Int) + y6))) ∧ e 9 = d2 ∧ RV g.m w (u0 : List FaultDamage) d2 ∧ e 10 = .int .i64 (j0.1) ∧ e 11 = .int .i64 (j0.2.1) ∧ e 12 = .int .i64 (j0.2.2.1) ∧ e 15 = .int .i64 (o0) ∧ e 16 = .int .i64 (s2) ∧ e 17 = .int .i64 (j3) ∧ e 18 = .int .i64 ((0 : Int))) (fun Q' hQ => ?_) (fun lH qI hR => ?_)
     ·replace h := hx
      clear hx
      refine E_seq (E_region (EL_mv p5 rfl ?_))
      refine EL_in (.bool ((o0 == (1 : Int)))) rfl rfl rfl rfl ?_
      refine EL_nil (thn_n ?_)
      rcases csome h with ⟨r8, h⟩ | ⟨r8, h⟩
      ·refine E_ct r8 rfl ?_
       obtain ⟨l8, pA, h⟩ := bsome h
       have tF := PT_idxA s3 pA
       refine L_load (x := .tmp 83) Try.isAgg5 Try.sizeOf5 tF fun rI uF qE => ?_
       obtain rfl := RV_u8.1 uF
       obtain ⟨m8, rE, h⟩ := bsome h
       obtain ⟨n8, qA, h⟩ := bsome h
       have vF := PT_idxA s3 qA
       refine L_load (x := .tmp 88) Try.isAgg5 Try.sizeOf5 vF fun sI xF sE => ?_
       obtain rfl := RV_u8.1 xF
       refine L_loadO (x := .tmp 92) (SubS.comp part_FaultLoom_0 part_TieHarness_1 rfl).1 Try.isAgg22 Try.sizeOf22 c4 fun yF zF tE => ?_
       obtain ⟨o8, uE, h⟩ := bsome h
       refine E_drawL (g := cD) (n := 15) [] [0, 1, 2, 3, 4, 5, 6, 7, 8, 9, 10, 11, 12, 13, 14] rfl mixed (by kernel_rfl) trivial ?_
       refine L_pur (c := fPtr p2 (((0 : Int) : Int).toNat * 1)) rfl rfl .plain (fun _ _ hd => P_indexAddrA (α := UInt8) Try.underlying90 Try.sizeOf5 l5 (PT.ptr s3) rfl pA) ?_
       refine L_ld (c := .int .u8 (UInt8.toNat (l8))) rfl rfl .plain (fun _ _ h => h.ch) qE rfl ?_
       refine L_pur (c := .int .i64 (((l8).toNat : Int))) rfl rfl .plain (fun _ _ hd => P_u8int Try.underlying5 Try.underlying3 rfl) ?_
       refine L_pur (c := .int .i64 ((w64 ((1 : Int) + y6)))) rfl rfl .plain (fun _ _ hd => P_move l6) ?_
       refine L_pur (c := .int .i64 (m8)) rfl rfl .plain (fun _ _ hd => P_int rfl rfl (congrArg (Option.map (Value.int .i64)) rE)) ?_
       refine L_pur (c := fPtr p2 (((1 : Int) : Int).toNat * 1)) rfl rfl .plain (fun _ _ hd => P_indexAddrA (α := UInt8) Try.underlying90 Try.sizeOf5 l5 (PT.ptr s3) rfl qA) ?_
       refine L_ld (c := .int .u8 (UInt8.toNat (n8))) rfl rfl .plain (fun _ _ h => h.ch) sE rfl ?_
       refine L_pur (c := .int .i64 (((n8).toNat : Int))) rfl rfl .plain (fun _ _ hd => P_u8int Try.underlying5 Try.underlying3 rfl) ?_
       refine L_pur (c := fPtr p7 0) rfl rfl .plain (fun _ _ hd => P_fieldAddr at_28_0 k6 (OB.ptr c4)) ?_
       refine L_pur (c := fPtr p7 1) rfl rfl .plain (fun _ _ hd => P_fieldAddr2 (o1 := 0) rfl at_24_1 rfl (OB.ptr c4)) ?_
       refine L_ld (c := yF) rfl rfl .plain (fun _ _ h => ⟨h.ch, fun b hb _ => h.below.block b hb⟩) tE rfl ?_
       refine L_pur (c := .int .i64 ((((y5).Harness).Warps).length : Int)) rfl rfl .plain (fun _ _ hd => P_len Try.underlying22 rfl zF) ?_
       refine L_pur (c := .int .i64 (o8)) rfl rfl .plain (fun _ _ hd => P_int rfl rfl (congrArg (Option.map (Value.int .i64)) uE)) ?_
       refine L_pur (c := .int .i64 (m8)) rfl rfl .plain (fun _ _ hd => P_assign rfl) ?_
       refine L_pur (c := .int .i64 (o8)) rfl rfl .plain (fun _ _ hd => P_assign rfl) ?_
       refine L_nil fun aG tI hall => ?_
       have hs := hall.1
       have hfr := hfr.ext hs
       have s3 := s3.ext hs
       have c4 := c4.ext hs
       have m5 := m5.ext hs
       clear hs hall
       refine EL_nil ?_
       obtain ⟨rfl, rfl⟩ := pairs2 h
       exact hQ _ _ ⟨aG, hfr, l5, s3, k6, c4, l6, y8, m5, n5, o5, o7, p5, rfl, rfl, rfl⟩
      ·refine E_cf r8 rfl ?_
       refine E_skip ?_
       obtain ⟨rfl, rfl⟩ := pairs2 h
       exact hQ _ _ ⟨cD, hfr, l5, s3, k6, c4, l6, y8, m5, n5, o5, o7, p5, rfl, rfl, rfl⟩
     ·clear hx
      obtain ⟨bG, hfr, dD, eD, gD, iD, jD, kD, lD, yA, zA, aB, bB, cB, dB, eB⟩ := hR
      refine E_joinC h (fun (s : Int) e w => ∃ (g : Gh) , Fr gI wI g w ∧ e 5 = p2 ∧ PT g.m w (x2 : Vector UInt8 2) p2 ∧ e 7 = p7 ∧ OB 2007 g w 28 (y5 : FaultLoom) p7 ∧ e 8 = .int .i64 ((w64 ((1 : Int) + y6))) ∧ e 9 = d2 ∧ RV g.m w (u0 : List FaultDamage) d2 ∧ e 10 = .int .i64 (j0.1) ∧ e 11 = .int .i64 (j0.2.1) ∧ e 12 = .int .i64 (j0.2.2.1) ∧ e 15 = .int .i64 (o0) ∧ e 18 = .int .i64 (s)) (fun X1078 kA mD h => ?_) ?_
      ·refine E_seq (E_region (EL_at (.int .i64 (0)) rfl rfl ?_))
       refine EL_nil (thn_n (E_block ?_))
       refine E_lp h (fun (s : Int × Int) e w => ∃ (g : Gh) , Fr gI wI g w ∧ e 5 = p2 ∧ PT g.m w (x2 : Vector UInt8 2) p2 ∧ e 7 = p7 ∧ OB 2007 g w 28 (y5 : FaultLoom) p7 ∧ e 8 = .int .i64 ((w64 ((1 : Int) + y6))) ∧ e 9 = d2 ∧ RV g.m w (u0 : List FaultDamage) d2 ∧ e 10 = .int .i64 (j0.1) ∧ e 11 = .int .i64 (j0.2.1) ∧ e 12 = .int .i64 (j0.2.2.1) ∧ e 15 = .int .i64 (o0) ∧ e 16 = .int .i64 (s2) ∧ e 17 = .int .i64 (j3) ∧ e 18 = .int .i64 (s.1) ∧ e 19 = .int .i64 (s.2)) ⟨bG, hfr, dD, eD, gD, iD, jD, kD, lD, yA, zA, aB, bB, cB, dB, eB, rfl⟩ (fun X1079 lA nD => ?_)
       rintro ⟨z1, i1⟩ sG mH ⟨rA, hfr, q7, r7, t7, u7, v7, q5, t5, m6, n6, o6, p6, d9, e9, q6, r6⟩ h
       refine E_joinC h (fun (s : Unit) e w => ∃ (g : Gh) , Fr gI wI g w ∧ e 5 = p2 ∧ PT g.m w (x2 : Vector UInt8 2) p2 ∧ e 7 = p7 ∧ OB 2007 g w 28 (y5 : FaultLoom) p7 ∧ e 8 = .int .i64 ((w64 ((1 : Int) + y6))) ∧ e 9 = d2 ∧ RV g.m w (u0 : List FaultDamage) d2 ∧ e 10 = .int .i64 (j0.1) ∧ e 11 = .int .i64 (j0.2.1) ∧ e 12 = .int .i64 (j0.2.2.1) ∧ e 15 = .int .i64 (o0) ∧ e 16 = .int .i64 (s2) ∧ e 17 = .int .i64 (j3) ∧ e 18 = .int .i64 (z1) ∧ e 19 = .int .i64 (i1)) (fun X1082 oA oD h => ?_) ?_
       ·refine E_seq (E_region (EL_mv r6 rfl ?_))
        refine EL_mv q5 rfl ?_
        refine EL_pur (v := .int .i64 ((u0).length : Int)) (P_len Try.underlying29 rfl t5) .plain rfl ?_
        refine EL_in (.bool ((decide (i1 < ((u0).length : Int))))) rfl rfl rfl rfl ?_
        refine EL_nil (thn_n ?_)
        rcases csome h with ⟨t6, h⟩ | ⟨t6, h⟩
        ·refine E_ct t6 rfl ?_
         exact E_skip (thn_n (oD () _ _ ⟨rA, hfr, q7, r7, t7, u7, v7, q5, t5, m6, n6, o6, p6, d9, e9, q6, r6⟩ h))
        ·refine E_cf t6 rfl ?_
         refine E_exit ?_
         refine thn_e ?_
         refine thn_e ?_
         refine blk_hit ?_
         exact thn_n (mD (z1) _ _ ⟨rA, hfr, q7, r7, t7, u7, v7, q5, t5, m6, n6, o6, p6, q6⟩ h)
       ·rintro _ tG nH ⟨vE, hfr, iB, u5, x7, n4, y7, z7, d4, g9, i9, j9, k9, l9, m9, n9, u6⟩ h
        refine E_joinC h (fun (s : Int) e w => ∃ (g : Gh) , Fr gI wI g w ∧ e 5 = p2 ∧ PT g.m w (x2 : Vector UInt8 2) p2 ∧ e 7 = p7 ∧ OB 2007 g w 28 (y5 : FaultLoom) p7 ∧ e 8 = .int .i64 ((w64 ((1 : Int) + y6))) ∧ e 9 = d2 ∧ RV g.m w (u0 : List FaultDamage) d2 ∧ e 10 = .int .i64 (j0.1) ∧ e 11 = .int .i64 (j0.2.1) ∧ e 12 = .int .i64 (j0.2.2.1) ∧ e 15 = .int .i64 (o0) ∧ e 16 = .int .i64 (s2) ∧ e 17 = .int .i64 (j3) ∧ e 18 = .int .i64 (s) ∧ e 19 = .int .i64 (i1)) (fun X1127 p8 z8 h => ?_) ?_
        ·refine E_block ?_
         refine E_seq (L_loadO0 (x := .tmp 7) Try.isAgg28 Try.sizeOf28 n4 fun sA xE pD => ?_)
         obtain ⟨i2, a9, h⟩ := bsome h
         have yE := PT_idx d4 a9
         refine L_load (x := .tmp 107) Try.isAgg62 Try.sizeOf62 yE fun tA zE qD => ?_
         obtain ⟨j1, rD, h⟩ := bsome h
         refine E_drawL (g := vE) (n := 13) [(6, (fun v g w => RV g.m w ([i2] : List FaultDamage) v ∧ OS 3109 g w 62 ([i2] : List FaultDamage) v ∧ FullV v)), (7, (fun v g w => ∃ y0 y1 : Value, v = .tuple #[y0, y1] ∧ RV g.m w (j1.1 : List Str) y0 ∧ y1 = .bool (j1.2)))] [0, 1, 2, 3, 4, 5, 6, 7, 8, 9, 10, 11, 12] rfl mixed (by kernel_rfl) (⟨fun _ => up_and up_rv (up_and up_os (up_eq _)), fun _ => (up_ex fun _ => (up_ex fun _ => (up_and (up_eq _) (up_and up_rv (up_eq _))))), trivial⟩) ?_
         refine L_ld (c := sA) rfl rfl .plain (fun _ _ h => ⟨h.ch, fun b hb _ => h.below.block b hb⟩) pD x7 ?_
         refine L_pur (c := .int .i64 ((w64 ((1 : Int) + y6)))) rfl rfl .plain (fun _ _ hd => P_move y7) ?_
         refine L_pur (c := d2) rfl rfl .plain (fun _ _ hd => P_move z7) ?_
         refine L_pur (c := .int .i64 (i1)) rfl rfl .plain (fun _ _ hd => P_move u6) ?_
         refine L_pur (c := ePtr d2 i1 5) rfl rfl .plain (fun _ _ hd => P_indexAddr (α := FaultDamage) Try.underlying29 Try.sizeOf62 rfl d4 rfl a9) ?_
         refine L_ld (c := tA) rfl rfl .plain (fun _ _ h => h.ch) qD rfl ?_
         refine L_do (φ := fun v g w => RV g.m w ([i2] : List FaultDamage) v ∧ OS 3109 g w 62 ([i2] : List FaultDamage) v ∧ FullV v) rfl rfl .plain (fun g w hd => D_buildSlice (g := g) 3109 (xs := ([i2] : List FaultDamage)) (vs := [tA]) Try.underlying29 Try.sizeOf62 Try.zeroValue62 rfl rfl (.cons rfl .nil) (RVs.cons (zE.ext hd.1) RVs.nil) rfl rfl fun g' w' v hs o r hxt hfl => ⟨g', hxt, r, o, hfl⟩) (fun p3 hv => ?_)
         clear hv
         refine L_do (φ := fun v g w => ∃ y0 y1 : Value, v = .tuple #[y0, y1] ∧ RV g.m w (j1.1 : List Str) y0 ∧ y1 = .bool (j1.2)) rfl rfl .plain (fun g w hd => D_call (g := g) (vs := [sA, .int .i64 ((w64 ((1 : Int) + y6))), p3]) en45 (.cons rfl (.cons rfl (.cons rfl .nil))) (wk45 (xE.ext hd.1) (word (A := fun g w => RV g.m w ([i2] : List FaultDamage) p3 ∧ OS 3109 g w 62 ([i2] : List FaultDamage) p3 ∧ FullV p3) 6 rfl rfl (deps_of hd)).1 rD) fun g' w' v hs hr => ⟨g', hs, hr⟩) (fun oH hv => ?_)
         obtain ⟨_, _, _, z2, _, rfl, cG, rfl⟩ := hv
         refine L_pur (c := .tuple #[z2, .bool (j1.2)]) rfl rfl .plain (fun _ _ hd => P_move rfl) ?_
         refine L_pur (c := z2) rfl rfl .plain (fun _ _ hd => P_extract rfl rfl) ?_
         refine L_pur (c := .bool (j1.2)) rfl rfl .plain (fun _ _ hd => P_extract rfl rfl) ?_
         refine L_pur (c := z2) rfl rfl .plain (fun _ _ hd => P_assign rfl) ?_
         refine L_pur (c := .bool (j1.2)) rfl rfl .plain (fun _ _ hd => P_assign rfl) ?_
         refine L_nil fun aF pH hall => ?_
         have hs := hall.1
         have hfr := hfr.ext hs
         have u5 := u5.ext hs
         have n4 := n4.ext hs
         have d4 := d4.ext hs
         have qH := (word_all (A := fun g w => RV g.m w ([i2] : List FaultDamage) p3 ∧ OS 3109 g w 62 ([i2] : List FaultDamage) p3 ∧ FullV p3) 6 rfl hall).1
         have o1154 := (word_all (A := fun g w => RV g.m w ([i2] : List FaultDamage) p3 ∧ OS 3109 g w 62 ([i2] : List FaultDamage) p3 ∧ FullV p3) 6 rfl hall).2.1
         have sH := (tup2_0 (word_all (A := fun g w => ∃ y0 y1 : Value, Value.tuple #[z2, .bool (j1.2)] = .tuple #[y0, y1] ∧ RV g.m w (j1.1 : List Str) y0 ∧ y1 = .bool (j1.2)) 7 rfl hall))
         have bF := (tup2_0 (word_all (A := fun g w => ∃ y0 y1 : Value, Value.tuple #[z2, .bool (j1.2)] = .tuple #[y0, y1] ∧ RV g.m w (j1.1 : List Str) y0 ∧ y1 = .bool (j1.2)) 7 rfl hall))
         clear hs hall
         refine EL_nil (thn_n (E_joinC h (fun (s : Unit) e w => ∃ (g : Gh) , Fr gI wI g w ∧ e 5 = p2 ∧ PT g.m w (x2 : Vector UInt8 2) p2 ∧ e 7 = p7 ∧ OB 2007 g w 28 (y5 : FaultLoom) p7 ∧ e 8 = .int .i64 ((w64 ((1 : Int) + y6))) ∧ e 9 = d2 ∧ RV g.m w (u0 : List FaultDamage) d2 ∧ e 10 = .int .i64 (j0.1) ∧ e 11 = .int .i64 (j0.2.1) ∧ e 12 = .int .i64 (j0.2.2.1) ∧ e 15 = .int .i64 (o0) ∧ e 16 = .int .i64 (s2) ∧ e 17 = .int .i64 (j3) ∧ e 18 = .int .i64 (z1) ∧ e 19 = .int .i64 (i1) ∧ e 20 = z2 ∧ RV g.m w ((j1.1 : List Str) : List Str) z2) (fun X1162 nA sD h => ?_) ?_))
         ·refine E_seq (E_region (EL_mw (.bool (j1.2)) rfl rfl ?_))
          refine EL_pur (v := .bool (!j1.2)) (P_not rfl) .plain rfl ?_
          refine EL_nil (thn_n ?_)
          rcases csome h with ⟨v6, h⟩ | ⟨v6, h⟩
          ·refine E_ct v6 rfl ?_
           refine E_seq (E_region (EL_at (.bool false) rfl rfl ?_))
           refine EL_nil (thn_n (E_ret (thn_r ?_)))
           refine blk_r ?_
           refine thn_r ?_
           refine thn_r ?_
           refine blk_r ?_
           refine thn_r ?_
           refine blk_r ?_
           refine thn_r ?_
           refine thn_r ?_
           refine blk_r ?_
           refine thn_r ?_
           obtain rfl := sinj h
           exact end1 rfl rfl (show _ = .bool false from rfl) ⟨_, hfr, rfl⟩
          ·refine E_cf v6 rfl ?_
           exact E_skip (thn_n (sD () _ _ ⟨aF, hfr, iB, u5, x7, n4, y7, z7, d4, g9, i9, j9, k9, l9, m9, n9, u6, rfl, bF⟩ h))
         ·rintro _ uG tH ⟨t8, hfr, a8, c8, d8, e8, i8, j8, k8, x6, z6, a7, c7, c5, d5, d7, e7, o9, i7⟩ h
          refine E_seq (E_region (EL_mv o9 rfl ?_))
          refine EL_mv c5 rfl ?_
          obtain ⟨mA, b9, h⟩ := bsome h
          refine EL_pur (v := ePtr z2 s2 1) (P_indexAddr (α := Str) Try.underlying36 Try.sizeOf9 rfl i7 rfl b9) .plain rfl ?_
          have cF := PT_idx i7 b9
          refine EL_do .plain rfl (D_load (g := t8) Try.isAgg9 Try.sizeOf9 rfl cF fun uH dF => ?_)
          obtain rfl := RV_str.1 dF
          refine EL_mv d5 rfl ?_
          obtain ⟨j6, tD, h⟩ := bsome h
          refine EL_pur (v := .int .u8 (UInt8.toNat (j6))) (P_indexS Try.underlying9 rfl rfl tD) .plain rfl ?_
          refine EL_pur (v := .bool ((j6 == (120 : UInt8)))) (P_u8 rfl rfl rfl) .plain rfl ?_
          refine EL_nil (thn_n ?_)
          rcases csome h with ⟨j7, h⟩ | ⟨j7, h⟩
          ·refine E_ct j7 rfl ?_
           refine E_region (EL_mv d7 rfl ?_)
           refine EL_in (.int .i64 ((w64 (z1 + (1 : Int))))) rfl rfl rfl rfl ?_
           refine EL_at (.int .i64 ((w64 (z1 + (1 : Int))))) rfl rfl ?_
           exact EL_nil (blk_n (thn_n (z8 ((w64 (z1 + (1 : Int)))) _ _ ⟨t8, hfr, a8, c8, d8, e8, i8, j8, k8, x6, z6, a7, c7, c5, d5, rfl, e7⟩ h)))
          ·refine E_cf j7 rfl ?_
           exact E_skip (blk_n (thn_n (z8 (z1) _ _ ⟨t8, hfr, a8, c8, d8, e8, i8, j8, k8, x6, z6, a7, c7, c5, d5, d7, e7⟩ h)))
        ·rintro q4 vG vH ⟨eF, hfr, jB, kB, lB, mB, nB, oB, pB, p9, q9, s9, t9, u9, x9, y9, z9⟩ h
         refine E_region (EL_mv z9 rfl ?_)
         refine EL_in (.int .i64 ((w64 (i1 + (1 : Int))))) rfl rfl rfl rfl ?_
         refine EL_at (.int .i64 ((w64 (i1 + (1 : Int))))) rfl rfl ?_
         exact EL_nil (thn_n (nD (q4, (w64 (i1 + (1 : Int)))) _ _ ⟨eF, hfr, jB, kB, lB, mB, nB, oB, pB, p9, q9, s9, t9, u9, x9, y9, rfl⟩ h))
      ·rintro n0 xG xH ⟨v8, hfr, x5, z5, a6, b6, c6, o4, p4, i5, j5, o3, j4, l7⟩ h
       refine E_seq (E_region (EL_mv l7 rfl ?_))
       refine EL_mv o4 rfl ?_
       refine EL_pur (v := .int .i64 ((u0).length : Int)) (P_len Try.underlying29 rfl p4) .plain rfl ?_
       refine EL_mv l7 rfl ?_
       refine EL_in (.int .i64 ((w64 (((u0).length : Int) - n0)))) rfl rfl rfl rfl ?_
       refine EL_pur (v := .int .i64 (max64 n0 (w64 (((u0).length : Int) - n0)))) (P_max rfl rfl) .plain rfl ?_
       refine EL_at (.int .i64 (max64 n0 (w64 (((u0).length : Int) - n0)))) rfl rfl ?_
       refine EL_nil (thn_n ?_)
       obtain ⟨q3, hx, h⟩ := bsome h
       refine E_join (fun e w => ∃ (g : Gh) , Fr gI wI g w ∧ e 5 = p2 ∧ PT g.m w (x2 : Vector UInt8 2) p2 ∧ e 7 = p7 ∧ OB 2007 g w 28 (y5 : FaultLoom) p7 ∧ e 8 = .int .i64 ((w64 ((1 : Int) + y6))) ∧ e 9 = d2 ∧ RV g.m w (u0 : List FaultDamage) d2 ∧ e 10 = .int .i64 (j0.1) ∧ e 11 = .int .i64 (j0.2.1) ∧ e 12 = .int .i64 (j0.2.2.1) ∧ e 15 = .int .i64 (o0) ∧ e 141 = .bool (q3)) (fun Q' hQ => ?_) (fun yG yH hR => ?_)
       ·replace h := hx
        clear hx
        refine E_region (EL_mv j4 rfl ?_)
        refine EL_in (.bool ((o0 == (0 : Int)))) rfl rfl rfl rfl ?_
        refine EL_mw (.bool ((o0 == (0 : Int)))) rfl rfl ?_
        rcases csome h with ⟨d3, h⟩ | ⟨d3, h⟩
        ·refine EL_pur (v := .int .i64 (max64 n0 (w64 (((u0).length : Int) - n0)))) (P_move rfl) (.yes2 rfl rfl d3) rfl ?_
         refine EL_pur (v := .int .i64 (j0.2.2.1)) (P_move o3) (.yes2 rfl rfl d3) rfl ?_
         refine EL_pur (v := .bool (((max64 n0 (w64 (((u0).length : Int) - n0))) != j0.2.2.1))) (P_int rfl rfl rfl) (.yes2 rfl rfl d3) rfl ?_
         refine EL_pur (v := .bool (((max64 n0 (w64 (((u0).length : Int) - n0))) != j0.2.2.1))) (P_pick (b := (o0 == (0 : Int))) rfl (pick_t d3 rfl)) .plain rfl ?_
         refine EL_pur (v := .bool (((max64 n0 (w64 (((u0).length : Int) - n0))) != j0.2.2.1))) (P_move rfl) .plain rfl ?_
         rcases csome h with ⟨i3, h⟩ | ⟨i3, h⟩
         ·refine EL_skip (.no2 rfl rfl i3 rfl) rfl ?_
          refine EL_skip (.no2 rfl rfl i3 rfl) rfl ?_
          refine EL_skip (.no2 rfl rfl i3 rfl) rfl ?_
          refine EL_pur (v := .bool true) (P_pick (b := ((max64 n0 (w64 (((u0).length : Int) - n0))) != j0.2.2.1)) rfl (pick_t i3 rfl)) .plain rfl ?_
          refine EL_nil ?_
          obtain rfl := sinj h
          exact hQ _ _ ⟨v8, hfr, x5, z5, a6, b6, c6, o4, p4, i5, j5, o3, j4, rfl⟩
         ·refine EL_pur (v := .int .i64 (max64 n0 (w64 (((u0).length : Int) - n0)))) (P_move rfl) (.yes2 rfl rfl i3) rfl ?_
          refine EL_pur (v := .int .i64 (j0.2.2.1)) (P_move o3) (.yes2 rfl rfl i3) rfl ?_
          refine EL_pur (v := .bool ((decide ((max64 n0 (w64 (((u0).length : Int) - n0))) < j0.2.2.1)))) (P_int rfl rfl rfl) (.yes2 rfl rfl i3) rfl ?_
          refine EL_pur (v := .bool ((decide ((max64 n0 (w64 (((u0).length : Int) - n0))) < j0.2.2.1)))) (P_pick (b := ((max64 n0 (w64 (((u0).length : Int) - n0))) != j0.2.2.1)) rfl (pick_f i3 rfl)) .plain rfl ?_
          refine EL_nil ?_
          obtain rfl := sinj h
          exact hQ _ _ ⟨v8, hfr, x5, z5, a6, b6, c6, o4, p4, i5, j5, o3, j4, rfl⟩
        ·refine EL_skip (.no2 rfl rfl d3 rfl) rfl ?_
         refine EL_skip (.no2 rfl rfl d3 rfl) rfl ?_
         refine EL_skip (.no2 rfl rfl d3 rfl) rfl ?_
         refine EL_pur (v := .bool false) (P_pick (b := (o0 == (0 : Int))) rfl (pick_f d3 rfl)) .plain rfl ?_
         refine EL_mw (.bool false) rfl rfl ?_
         refine EL_pur (v := .int .i64 (max64 n0 (w64 (((u0).length : Int) - n0)))) (P_move rfl) (.yes2 rfl rfl rfl) rfl ?_
         refine EL_pur (v := .int .i64 (j0.2.2.1)) (P_move o3) (.yes2 rfl rfl rfl) rfl ?_
         refine EL_pur (v := .bool ((decide ((max64 n0 (w64 (((u0).length : Int) - n0))) < j0.2.2.1)))) (P_int rfl rfl rfl) (.yes2 rfl rfl rfl) rfl ?_
         refine EL_pur (v := .bool ((decide ((max64 n0 (w64 (((u0).length : Int) - n0))) < j0.2.2.1)))) (P_pick (b := false) rfl (pick_f rfl rfl)) .plain rfl ?_
         refine EL_nil ?_
         obtain rfl := sinj h
         exact hQ _ _ ⟨v8, hfr, x5, z5, a6, b6, c6, o4, p4, i5, j5, o3, j4, rfl⟩
       ·clear hx
        obtain ⟨gF, hfr, qB, rB, sB, tB, uB, vB, xB, aA, bA, cA, dA, e6⟩ := hR
        rcases csome h with ⟨m7, h⟩ | ⟨m7, h⟩
        ·refine E_cond_true (Eq.trans (show ev _ _ = .bool (q3) from e6) (congrArg Value.bool m7)) ?_
         refine E_seq (E_region (EL_at (.bool false) rfl rfl ?_))
         refine EL_nil (thn_n (E_ret (blk_r ?_)))
         refine thn_r ?_
         refine thn_r ?_
         refine blk_r ?_
         refine thn_r ?_
         obtain rfl := sinj h
         exact end1 rfl rfl (show _ = .bool false from rfl) ⟨_, hfr, rfl⟩
        ·refine E_cond_false (Eq.trans (show ev _ _ = .bool (q3) from e6) (congrArg Value.bool m7)) ?_
         exact E_skip (blk_n (thn_n (pE () _ _ ⟨gF, hfr, qB, rB, sB, tB, uB, vB, xB, aA, bA, cA, dA⟩ h)))
    ·rintro _ zG zH ⟨iF, hfr, yB, zB, aC, bC, cC, dC, eC, eA, gA, iA, jA⟩ h
     refine E_region (EL_mv jA rfl ?_)
     refine EL_in (.int .i64 ((w64 (o0 + (1 : Int))))) rfl rfl rfl rfl ?_
     refine EL_at (.int .i64 ((w64 (o0 + (1 : Int))))) rfl rfl ?_
     exact EL_nil (thn_n (nE ((w64 (o0 + (1 : Int)))) _ _ ⟨iF, hfr, yB, zB, aC, bC, cC, dC, eC, eA, gA, iA, rfl⟩ h))
  ·rintro _ aH aI ⟨jF, hfr⟩ h
   refine E_seq (E_region ?_)
   obtain ⟨i6, uD, h⟩ := bsome h
   refine EL_do .plain rfl (D_call (g := jF) (vs := []) en15 .nil (wk15  uD) fun bI bH cI hs hr => ?_)
   have hfr := hfr.ext hs
   subst hr
   refine EL_at (.bool (i6)) rfl rfl ?_
   refine EL_nil (thn_n (E_ret ?_))
   obtain rfl := sinj h
   exact end1 rfl rfl (show _ = .bool (i6) from rfl) ⟨_, hfr, rfl⟩
/-- griffe/griffelaw05.FaultDoes -/
def f10 (x0 : Mill) : Option (Bool) :=
 (f42 x0).bind fun y4 =>
 (f43 x0 y4 ((1 : Int))).bind fun eA =>
 (idx eA (0 : Int)).bind fun y11 =>
 (f42 x0).bind fun t5 =>
 (f45 y4 (((((t5).Design).Rows).length : Int)) (([y11] : List FaultDamage))).bind fun u5 =>
 (f45 y4 (((((t5).Design).Rows).length : Int)) ([])).bind fun x5 =>
 (f45 y4 (((((t5).Design).Rows).length : Int)) (([y11, y11] : List FaultDamage))).bind fun e6 =>
 jn (σ := Unit) (fun (_ : Unit) =>
  (rem64 (w64 ((y11).Pick + (1 : Int))) ((((t5).Design).Rows).length : Int)).bind fun d3 =>
  jn (σ := Unit) (fun (_ : Unit) =>
   jn (σ := Unit) (fun (_ : Unit) =>
    Option.bind (α := Bool) (
     (f46 (e6.1) (x5.1)).bind fun a8 =>
     bif a8 then
      (f15).bind fun x8 =>
      some (x8)
     else
      some (false)
     ) fun t7 =>
    some (t7)
    ) fun dC =>
   Option.bind (α := Bool) (
    bif ((y11).Kind == (2 : Int)) then
     some (true)
    else
     some (((y11).Kind == (5 : Int)))
    ) fun n6 =>
   bif n6 then
    Option.bind (α := Bool) (
     (f46 (e6.1) (u5.1)).bind fun b8 =>
     bif b8 then
      (f15).bind fun y8 =>
      some (y8)
     else
      some (false)
     ) fun u7 =>
    some (u7)
   else
    dC ()
   ) fun eC =>
  lp (σ := Int) (fun iC j0 =>
   jn (σ := Unit) (fun (_ : Unit) =>
    jn (σ := Unit) (fun (_ : Unit) =>
     iC ((w64 (j0 + (1 : Int))))
     ) fun jC =>
    lp (σ := Int) (fun kC s2 =>
     jn (σ := Unit) (fun (_ : Unit) =>
      jn (σ := Unit) (fun (_ : Unit) =>
       kC ((w64 (s2 + (1 : Int))))
       ) fun x6 =>
      (idx (u5.1) j0).bind fun sA =>
      (idx (sA).b s2).bind fun u3 =>
      (idx (x5.1) j0).bind fun tA =>
      (idx (tA).b s2).bind fun z3 =>
      bif ((y11).Kind == (5 : Int)) then
       Option.bind (α := Bool) (
        bif (s2 == (y11).Warp) then
         (idx (u5.1) j0).bind fun lC =>
         (idx (lC).b s2).bind fun o6 =>
         bif (o6 != (46 : UInt8)) then
          some (true)
         else
          bif (s2 != (y11).Warp) then
           some ((u3 != z3))
          else
           some (false)
        else
         bif (s2 != (y11).Warp) then
          some ((u3 != z3))
         else
          some (false)
        ) fun p6 =>
       bif p6 then
        some (false)
       else
        x6 ()
      else
       bif ((y11).Kind == (2 : Int)) then
        (idx (((y4).Harness).Warps) s2).bind fun q4 =>
        Option.bind (α := Bool) (
         bif (q4 == (y11).Hook) then
          (idx (u5.1) j0).bind fun c8 =>
          (idx (c8).b s2).bind fun l5 =>
          bif (!((l5 == (120 : UInt8)) == (y11).Up)) then
           some (true)
          else
           bif (!(q4 == (y11).Hook)) then
            some ((u3 != z3))
           else
            some (false)
         else
          bif (!(q4 == (y11).Hook)) then
           some ((u3 != z3))
          else
           some (false)
         ) fun q6 =>
        bif q6 then
         some (false)
        else
         x6 ()
       else
        bif ((y11).Kind == (1 : Int)) then
         Option.bind (α := Bool) (
          bif (j0 == (y11).Pick) then
           (idx (((y4).Harness).Warps) s2).bind fun y6 =>
           some ((!((u3 != z3) == (y6 == (y11).Hook))))
          else
           some ((!((u3 != z3) == false)))
          ) fun r6 =>
         bif r6 then
          some (false)
         else
          x6 ()
        else
         bif ((y11).Kind == (3 : Int)) then
          Option.bind (α := Bool) (
           bif (u3 != z3) then
            some ((j0 != (y11).Pick))
           else
            some (false)
           ) fun t6 =>
          bif t6 then
           some (false)
          else
           x6 ()
         else
          Option.bind (α := Bool) (
           bif (j0 == (y11).Pick) then
            (idx (u5.1) j0).bind fun j4 =>
            (idx (x5.1) d3).bind fun m4 =>
            bif (!((j4).b == (m4).b)) then
             some (true)
            else
             bif (j0 == d3) then
              (idx (u5.1) j0).bind fun z4 =>
              (idx (x5.1) (y11).Pick).bind fun c5 =>
              bif (!((z4).b == (c5).b)) then
               some (true)
              else
               bif (j0 != (y11).Pick) then
                bif (j0 != d3) then
                 some ((u3 != z3))
                else
                 some (false)
               else
                some (false)
             else
              bif (j0 != (y11).Pick) then
               bif (j0 != d3) then
                some ((u3 != z3))
               else
                some (false)
              else
               some (false)
           else
            bif (j0 == d3) then
             (idx (u5.1) j0).bind fun d5 =>
             (idx (x5.1) (y11).Pick).bind fun i5 =>
             bif (!((d5).b == (i5).b)) then
              some (true)
             else
              bif (j0 != (y11).Pick) then
               bif (j0 != d3) then
                some ((u3 != z3))
               else
                some (false)
              else
               some (false)
            else
             bif (j0 != (y11).Pick) then
              bif (j0 != d3) then
               some ((u3 != z3))
              else
               some (false)
             else
              some (false)
           ) fun u6 =>
          bif u6 then
           some (false)
          else
           x6 ()
      ) fun mC =>
     (idx (u5.1) j0).bind fun z8 =>
     bif (decide (s2 < ((z8).b.length : Int))) then
      mC ()
     else
      jC ()
     ) big ((0 : Int))
    ) fun nC =>
   bif (decide (j0 < ((((t5).Design).Rows).length : Int))) then
    nC ()
   else
    eC ()
   ) big ((0 : Int))
  ) fun bO =>
 Option.bind (α := Bool) (
  bif (!u5.2) then
   some (true)
  else
   bif (!x5.2) then
    some (true)
   else
    some ((!e6.2))
  ) fun d8 =>
 bif d8 then
  some (false)
 else
  bO ()
theorem wk10 {gI : Gh} {wI : World} {x0 : Mill} {up0 : Value} (rp0 : RV gI.m wI x0 up0) {r : Bool} (h : f10 x0 = some r) : Fn Try.prog 10 #[up0] gI wI (fun _ _ v => v = .bool (r)) := by
 unfold f10 at h
 refine fn_of_E Try.func10 rfl (Nat.le_of_ble_eq_true rfl) fun g0 hm hfr => ?_
 have rp0 : RV g0.m wI x0 up0 := hm ▸ rp0
 show E _ 245 none _ _ _ _ _
 refine E_seq (E_region (EL_do .plain rfl (D_box (g := g0) rfl rp0 fun g1 w1 p1 hs q1 => ?_)))
 have hfr := hfr.ext hs
 refine EL_at (.bool false) rfl rfl ?_
 refine EL_nil (thn_n (E_seq (E_region (EL_do .plain rfl (D_load (g := g1) Try.isAgg84 Try.sizeOf84 rfl q1 fun v2 r2 => ?_)))))
 obtain ⟨y4, mP, h⟩ := bsome h
 refine EL_do .plain rfl (D_call (g := g1) (vs := [v2]) en42 (.cons rfl .nil) (wk42 r2 mP) fun g3 w3_ v3 hs hr => ?_)
 have hfr := hfr.ext hs
 have q1 := q1.ext hs
 have r3 := hr
 refine EL_do .plain rfl (D_allocOc (g := g3) 2003 (⟨⟨0, []⟩, ⟨0, []⟩⟩ : FaultLoom) Try.zeroValue28 (fun m w => ⟨_, (rep_two (rep_two rep_int rep_nil) (rep_two rep_int rep_nil)), rfl⟩) fun g5 w5 p5 hs b5 cb => ?_)
 have hfr := hfr.stp hs
 have q1 := q1.stp hs
 have r3 := r3.stp hs
 have bU : OSF 2003 60301 1 g5 w5 3 28 ([] : List Int) p5 := cb.osf (by rfl)
 have cU : OSF 2003 60303 3 g5 w5 3 28 ([] : List Int) p5 := cb.osf (by rfl)
 clear cb
 refine EL_do .plain rfl (D_storeOc (g := g5) (v := v3) Try.sizeOf28 rfl b5 rfl r3 fun g6 w6 hs b6 cb => ?_)
 clear cb
 have hfr := hfr.stp hs
 have q1 := q1.stp hs
 refine EL_nil (thn_n (E_seq (L_load (x := .tmp 1) Try.isAgg84 Try.sizeOf84 q1 fun v7 r7 nP => ?_)))
 refine L_loadO0 (x := .tmp 3) Try.isAgg28 Try.sizeOf28 b6 fun v8 r8 oP => ?_
 obtain ⟨eA, iO, h⟩ := bsome h
 obtain ⟨y11, sE, h⟩ := bsome h
 refine L_load (x := .tmp 1) Try.isAgg84 Try.sizeOf84 q1 fun cO pP jO => ?_
 obtain ⟨t5, kO, h⟩ := bsome h
 refine E_drawTL (g := g6) (n := 11) [7, 8, 9] [(2, (fun v g w => RV g.m w eA v)), (4, (fun v g w => RV g.m w (y11 : FaultDamage) v)), (6, (fun v g w => RV g.m w t5 v)), (10, (fun v g w => OB 2004 g w 62 (⟨0, 0, 0, 0, false⟩ : FaultDamage) v))] [0, 1, 2, 3, 4, 5, 6, 7, 8, 9, 10] rfl mixed (by kernel_rfl) (⟨fun _ => up_rv, fun _ => up_rv, fun _ => up_rv, fun _ => up_ob, trivial⟩) rfl ?_
 refine L_ld (c := v7) rfl rfl .plain (fun _ _ h => h.ch) nP rfl ?_
 refine L_ld (c := v8) rfl rfl .plain (fun _ _ h => ⟨h.ch, fun b hb _ => h.below.block b hb⟩) oP rfl ?_
 refine L_do (φ := fun v g w => RV g.m w eA v) rfl rfl .plain (fun g w hd => D_call (g := g) (vs := [v7, v8, .int .i64 (1)]) en43 (.cons rfl (.cons rfl (.cons rfl .nil))) (wk43 (r7.ext hd.1) (r8.ext hd.1) iO) fun g' w' v hs hr => ⟨g', hs, hr⟩) (fun v9 hv => ?_)
 obtain ⟨_, _, _, rq9⟩ := hv
 refine L_pur (c := ePtr v9 (0 : Int) 5) rfl rfl .plain (fun _ _ hd => P_indexAddr (α := FaultDamage) Try.underlying29 Try.sizeOf62 rfl (word (A := fun g w => RV g.m w eA v9) 2 rfl rfl (deps_of hd)) rfl sE) ?_
 refine L_do (φ := (fun v g w => RV g.m w (y11 : FaultDamage) v)) rfl rfl .plain (fun g w hd => D_load (g := g) Try.isAgg62 Try.sizeOf62 rfl (PT_idx (word (A := fun g w => RV g.m w eA v9) 2 rfl rfl (hop 3 rfl rfl (deps_of hd))) sE) fun v r => ⟨g, Ext.refl g w, r⟩) (fun dO hv => ?_)
 clear hv
 refine L_ld (c := cO) rfl rfl .plain (fun _ _ h => h.ch) jO rfl ?_
 refine L_do (φ := fun v g w => RV g.m w t5 v) rfl rfl .plain (fun g w hd => D_call (g := g) (vs := [cO]) en42 (.cons rfl .nil) (wk42 (pP.ext hd.1) kO) fun g' w' v hs hr => ⟨g', hs, hr⟩) (fun nI hv => ?_)
 obtain ⟨_, _, _, rq15⟩ := hv
 have rq17 := RV_field (part_FaultLoom_1).1 rq15
 obtain ⟨eO, aC⟩ : ∃ v, v = partV (GoT.agg Design) 2 (GoT.k Design) nI := ⟨_, rfl⟩
 replace rq17 := aC ▸ rq17
 refine L_purL (c := eO) rfl rfl .plain (aC ▸ P_field (part_FaultLoom_1).1 rfl of_28_1 Try.isAgg26 Try.sizeOf26 rfl rq15) ?_
 have rq18 := RV_field (part_Design_1).1 rq17
 obtain ⟨qP, tE⟩ : ∃ v, v = partV (GoT.agg (List Int)) 1 (GoT.k (List Int)) eO := ⟨_, rfl⟩
 replace rq18 := tE ▸ rq18
 refine L_purL (c := qP) rfl rfl .plain (tE ▸ P_field (part_Design_1).1 rfl of_26_1 Try.isAgg22 Try.sizeOf22 rfl rq17) ?_
 refine L_purL (c := .int .i64 ((((t5).Design).Rows).length : Int)) rfl rfl .plain (P_len Try.underlying22 rfl rq18) ?_
 refine L_do (φ := fun v g w => OB 2004 g w 62 (⟨0, 0, 0, 0, false⟩ : FaultDamage) v) rfl rfl .plain (fun g w hd => D_allocX (g := g) 2004 (⟨0, 0, 0, 0, false⟩ : FaultDamage) Try.zeroValue62 (fun m w => ⟨_, (rep_two rep_int (rep_two rep_int (rep_two rep_int (rep_two rep_int rep_bool)))), rfl⟩) fun g' w' v hs b => ⟨g', hs, b⟩) (fun o4 hv => ?_)
 clear hv
 refine L_nil fun sP jU hall => ?_
 have hs := hall.1
 have hfr := hfr.ext hs
 have b6 := b6.ext hs
 have kU := (word_all (A := fun g w => RV g.m w eA v9) 2 rfl hall)
 have lU := (PT_idx (word_all (A := fun g w => RV g.m w eA v9) 2 rfl hall) sE)
 have tP := (word_all (A := fun g w => RV g.m w (y11 : FaultDamage) dO) 4 rfl hall)
 have mU := (word_all (A := fun g w => RV g.m w t5 nI) 6 rfl hall)
 have nU := (aC ▸ RV_field (part_FaultLoom_1).1 (word_all (A := fun g w => RV g.m w t5 nI) 6 rfl hall))
 have oU := (tE ▸ RV_field (part_Design_1).1 (aC ▸ RV_field (part_FaultLoom_1).1 (word_all (A := fun g w => RV g.m w t5 nI) 6 rfl hall)))
 have b37 := (word_all (A := fun g w => OB 2004 g w 62 (⟨0, 0, 0, 0, false⟩ : FaultDamage) o4) 10 rfl hall)
 clear hs hall
 refine TL_do .plain rfl (D_storeOc (g := sP) (v := dO) Try.sizeOf62 rfl b37 rfl tP fun qJ pU hs b38 cb => ?_)
 clear cb
 have hfr := hfr.stp hs
 have b6 := b6.stp hs rfl
 refine TL_pur (v := .int .i64 ((((t5).Design).Rows).length : Int)) (P_assign rfl) .plain rfl ?_
 refine TL_nil ?_
 refine thn_n (E_seq (E_region (EL_do .plain rfl (D_loadO (g := qJ) Try.isAgg28 Try.sizeOf28 rfl b6 fun uP rJ => ?_))))
 refine EL_mw (.int .i64 ((((t5).Design).Rows).length : Int)) rfl rfl ?_
 refine EL_do .plain rfl (D_loadO (g := qJ) Try.isAgg62 Try.sizeOf62 rfl b38 fun vP xP => ?_)
 refine EL_do .plain rfl (D_buildSlice (g := qJ) 3033 (xs := ([y11] : List FaultDamage)) (vs := [vP]) Try.underlying29 Try.sizeOf62 Try.zeroValue62 rfl rfl (.cons rfl .nil) (RVs.cons xP RVs.nil) rfl rfl fun yP qU zP hs o41 aQ hxt hfl => ?_)
 have hfr := hfr.stp hs
 have b6 := b6.stp hs rfl
 have b38 := b38.stp hs rfl
 have rJ := rJ.stp hs
 obtain ⟨u5, lO, h⟩ := bsome h
 refine EL_do .plain rfl (D_call (g := yP) (vs := [uP, .int .i64 ((((t5).Design).Rows).length : Int), zP]) en45 (.cons rfl (.cons rfl (.cons rfl .nil))) (wk45 rJ aQ lO) fun gO dU rU hs hr => ?_)
 have hfr := hfr.ext hs
 have b6 := b6.ext hs
 have b38 := b38.ext hs
 obtain ⟨j3, yT, rfl, v6, rfl⟩ := hr
 refine EL_mw (.tuple #[j3, .bool (u5.2)]) rfl rfl ?_
 refine EL_pur (v := j3) (P_extract rfl rfl) .plain rfl ?_
 refine EL_pur (v := .bool (u5.2)) (P_extract rfl rfl) .plain rfl ?_
 refine EL_at j3 rfl rfl ?_
 refine EL_at (.bool (u5.2)) rfl rfl ?_
 refine EL_nil (thn_n (E_seq (E_region (EL_do .plain rfl (D_loadO (g := gO) Try.isAgg28 Try.sizeOf28 rfl b6 fun bQ cQ => ?_)))))
 refine EL_mw (.int .i64 ((((t5).Design).Rows).length : Int)) rfl rfl ?_
 obtain ⟨x5, mO, h⟩ := bsome h
 refine EL_do .plain rfl (D_call (g := gO) (vs := [bQ, .int .i64 ((((t5).Design).Rows).length : Int), .slice none 0 0]) en45 (.cons rfl (.cons rfl (.cons rfl .nil))) (wk45 cQ RV_nil mO) fun oI eU sU hs hr => ?_)
 have hfr := hfr.ext hs
 have b6 := b6.ext hs
 have b38 := b38.ext hs
 have v6 := v6.ext hs
 obtain ⟨q3, zT, rfl, x7, rfl⟩ := hr
 refine EL_mw (.tuple #[q3, .bool (x5.2)]) rfl rfl ?_
 refine EL_pur (v := q3) (P_extract rfl rfl) .plain rfl ?_
 refine EL_pur (v := .bool (x5.2)) (P_extract rfl rfl) .plain rfl ?_
 refine EL_at q3 rfl rfl ?_
 refine EL_at (.bool (x5.2)) rfl rfl ?_
 refine EL_nil (thn_n (E_seq (E_region (EL_do .plain rfl (D_loadO (g := oI) Try.isAgg28 Try.sizeOf28 rfl b6 fun dQ sJ => ?_)))))
 refine EL_mw (.int .i64 ((((t5).Design).Rows).length : Int)) rfl rfl ?_
 refine EL_do .plain rfl (D_loadO (g := oI) Try.isAgg62 Try.sizeOf62 rfl b38 fun eQ gQ => ?_)
 refine EL_do .plain rfl (D_loadO (g := oI) Try.isAgg62 Try.sizeOf62 rfl b38 fun iQ jQ => ?_)
 refine EL_do .plain rfl (D_buildSlice (g := oI) 3048 (xs := ([y11, y11] : List FaultDamage)) (vs := [eQ, iQ]) Try.underlying29 Try.sizeOf62 Try.zeroValue62 rfl rfl (.cons rfl (.cons rfl .nil)) (RVs.cons gQ (RVs.cons jQ RVs.nil)) rfl rfl fun kQ tU lQ hs o50 mQ hxt hfl => ?_)
 have hfr := hfr.stp hs
 have b6 := b6.stp hs rfl
 have b38 := b38.stp hs rfl
 have v6 := v6.stp hs
 have x7 := x7.stp hs
 have sJ := sJ.stp hs
 obtain ⟨e6, nO, h⟩ := bsome h
 refine EL_do .plain rfl (D_call (g := kQ) (vs := [dQ, .int .i64 ((((t5).Design).Rows).length : Int), lQ]) en45 (.cons rfl (.cons rfl (.cons rfl .nil))) (wk45 sJ mQ nO) fun tJ gU uU hs hr => ?_)
 have hfr := hfr.ext hs
 have b6 := b6.ext hs
 have b38 := b38.ext hs
 have v6 := v6.ext hs
 have x7 := x7.ext hs
 obtain ⟨x4, aU, rfl, bC, rfl⟩ := hr
 refine EL_mw (.tuple #[x4, .bool (e6.2)]) rfl rfl ?_
 refine EL_pur (v := x4) (P_extract rfl rfl) .plain rfl ?_
 refine EL_pur (v := .bool (e6.2)) (P_extract rfl rfl) .plain rfl ?_
 refine EL_at x4 rfl rfl ?_
 refine EL_at (.bool (e6.2)) rfl rfl ?_
 refine EL_nil (thn_n (E_joinC h (fun (s : Unit) e w => ∃ (g : Gh) , Fr gI wI g w ∧ e 3 = p5 ∧ OB 2003 g w 28 (y4 : FaultLoom) p5 ∧ e 4 = o4 ∧ OB 2004 g w 62 (y11 : FaultDamage) o4 ∧ e 5 = .int .i64 (((((t5).Design).Rows).length : Int)) ∧ e 6 = j3 ∧ RV g.m w (u5.1 : List Str) j3 ∧ e 8 = q3 ∧ RV g.m w (x5.1 : List Str) q3 ∧ e 10 = x4 ∧ RV g.m w (e6.1 : List Str) x4) (fun X59 bO oO h => ?_) ?_))
 ·obtain ⟨d8, hx, h⟩ := bsome h
  refine E_join (fun e w => ∃ (g : Gh) , Fr gI wI g w ∧ e 3 = p5 ∧ OB 2003 g w 28 (y4 : FaultLoom) p5 ∧ e 4 = o4 ∧ OB 2004 g w 62 (y11 : FaultDamage) o4 ∧ e 5 = .int .i64 (((((t5).Design).Rows).length : Int)) ∧ e 6 = j3 ∧ RV g.m w (u5.1 : List Str) j3 ∧ e 8 = q3 ∧ RV g.m w (x5.1 : List Str) q3 ∧ e 10 = x4 ∧ RV g.m w (e6.1 : List Str) x4 ∧ e 61 = .bool (d8)) (fun Q' hQ => ?_) (fun hU w64 hR => ?_)
  ·replace h := hx
   clear hx
   refine E_region (EL_mw (.bool (u5.2)) rfl rfl ?_)
   refine EL_pur (v := .bool (!u5.2)) (P_not rfl) .plain rfl ?_
   refine EL_mw (.bool (!u5.2)) rfl rfl ?_
   rcases csome h with ⟨p8, h⟩ | ⟨p8, h⟩
   ·refine EL_skip (.no2 rfl rfl p8 rfl) rfl ?_
    refine EL_skip (.no2 rfl rfl p8 rfl) rfl ?_
    refine EL_pur (v := .bool true) (P_pick (b := (!u5.2)) rfl (pick_t p8 rfl)) .plain rfl ?_
    refine EL_dead 4 rfl ?_
    refine EL_nil ?_
    obtain rfl := sinj h
    exact hQ _ _ ⟨tJ, hfr, rfl, b6, rfl, b38, rfl, rfl, v6, rfl, x7, rfl, bC, rfl⟩
   ·refine EL_pur (v := .bool (x5.2)) (P_move rfl) (.yes2 rfl rfl p8) rfl ?_
    refine EL_pur (v := .bool (!x5.2)) (P_not rfl) (.yes2 rfl rfl p8) rfl ?_
    refine EL_pur (v := .bool (!x5.2)) (P_pick (b := (!u5.2)) rfl (pick_f p8 rfl)) .plain rfl ?_
    refine EL_mw (.bool (!x5.2)) rfl rfl ?_
    rcases csome h with ⟨q8, h⟩ | ⟨q8, h⟩
    ·refine EL_skip (.no2 rfl rfl q8 rfl) rfl ?_
     refine EL_skip (.no2 rfl rfl q8 rfl) rfl ?_
     refine EL_pur (v := .bool true) (P_pick (b := (!x5.2)) rfl (pick_t q8 rfl)) .plain rfl ?_
     refine EL_nil ?_
     obtain rfl := sinj h
     exact hQ _ _ ⟨tJ, hfr, rfl, b6, rfl, b38, rfl, rfl, v6, rfl, x7, rfl, bC, rfl⟩
    ·refine EL_pur (v := .bool (e6.2)) (P_move rfl) (.yes2 rfl rfl q8) rfl ?_
     refine EL_pur (v := .bool (!e6.2)) (P_not rfl) (.yes2 rfl rfl q8) rfl ?_
     refine EL_pur (v := .bool (!e6.2)) (P_pick (b := (!x5.2)) rfl (pick_f q8 rfl)) .plain rfl ?_
     refine EL_nil ?_
     obtain rfl := sinj h
     exact hQ _ _ ⟨tJ, hfr, rfl, b6, rfl, b38, rfl, rfl, v6, rfl, x7, rfl, bC, rfl⟩
  ·clear hx
   obtain ⟨nQ, hfr, lN, mN, nN, oN, pN, qN, rN, sN, tN, uJ, vJ, oC⟩ := hR
   rcases csome h with ⟨uE, h⟩ | ⟨uE, h⟩
   ·refine E_cond_true (Eq.trans (show ev _ _ = .bool (d8) from oC) (congrArg Value.bool uE)) ?_
    refine E_seq (E_region (EL_at (.bool false) rfl rfl ?_))
    refine EL_nil (thn_n (E_ret (thn_r ?_)))
    obtain rfl := sinj h
    exact end1 rfl rfl (show _ = .bool false from rfl) ⟨_, hfr, rfl⟩
   ·refine E_cond_false (Eq.trans (show ev _ _ = .bool (d8) from oC) (congrArg Value.bool uE)) ?_
    exact E_skip (thn_n (oO () _ _ ⟨nQ, hfr, lN, mN, nN, oN, pN, qN, rN, sN, tN, uJ, vJ⟩ h))
 ·rintro _ iU vU ⟨hO, hfr, uN, vN, pI, cC, qI, xN, yN, zN, aO, xJ, yJ⟩ h
  refine E_seq (E_region (EL_pur (v := fPtr o4 1) (P_fieldAddr at_62_1 pI (OB.ptr cC)) .plain rfl ?_))
  refine EL_do .plain rfl (D_loadF (g := hO) part_FaultDamage_1.1 Try.isAgg3 Try.sizeOf3 rfl cC fun xU oQ => ?_)
  obtain rfl := RV_int.1 oQ
  refine EL_in (.int .i64 ((w64 ((y11).Pick + (1 : Int))))) rfl rfl rfl rfl ?_
  refine EL_mv qI rfl ?_
  obtain ⟨d3, pO, h⟩ := bsome h
  refine EL_pur (v := .int .i64 (d3)) (P_int rfl rfl (congrArg (Option.map (Value.int .i64)) pO)) .plain rfl ?_
  refine EL_at (.int .i64 (d3)) rfl rfl ?_
  refine EL_nil (thn_n (E_joinC h (fun (s : Unit) e w => ∃ (g : Gh) , Fr gI wI g w ∧ e 4 = o4 ∧ OB 2004 g w 62 (y11 : FaultDamage) o4 ∧ e 6 = j3 ∧ RV g.m w (u5.1 : List Str) j3 ∧ e 8 = q3 ∧ RV g.m w (x5.1 : List Str) q3 ∧ e 10 = x4 ∧ RV g.m w (e6.1 : List Str) x4) (fun X13946 eC rI h => ?_) ?_))
  ·refine E_seq (E_region (EL_at (.int .i64 (0)) rfl rfl ?_))
   refine EL_nil (thn_n (E_block ?_))
   refine E_lp h (fun (s : Int) e w => ∃ (g : Gh) , Fr gI wI g w ∧ e 3 = p5 ∧ OB 2003 g w 28 (y4 : FaultLoom) p5 ∧ e 4 = o4 ∧ OB 2004 g w 62 (y11 : FaultDamage) o4 ∧ e 5 = .int .i64 (((((t5).Design).Rows).length : Int)) ∧ e 6 = j3 ∧ RV g.m w (u5.1 : List Str) j3 ∧ e 8 = q3 ∧ RV g.m w (x5.1 : List Str) q3 ∧ e 10 = x4 ∧ RV g.m w (e6.1 : List Str) x4 ∧ e 12 = .int .i64 (d3) ∧ e 13 = .int .i64 (s)) ⟨hO, hfr, uN, vN, pI, cC, qI, xN, yN, zN, aO, xJ, yJ, rfl, rfl⟩ (fun X13947 iC sI => ?_)
   rintro j0 qO pQ ⟨pC, hfr, vE, xE, uA, vA, xA, yA, zA, aB, bB, gA, iA, qC, jA⟩ h
   refine E_joinC h (fun (s : Unit) e w => ∃ (g : Gh) , Fr gI wI g w ∧ e 3 = p5 ∧ OB 2003 g w 28 (y4 : FaultLoom) p5 ∧ e 4 = o4 ∧ OB 2004 g w 62 (y11 : FaultDamage) o4 ∧ e 5 = .int .i64 (((((t5).Design).Rows).length : Int)) ∧ e 6 = j3 ∧ RV g.m w (u5.1 : List Str) j3 ∧ e 8 = q3 ∧ RV g.m w (x5.1 : List Str) q3 ∧ e 10 = x4 ∧ RV g.m w (e6.1 : List Str) x4 ∧ e 12 = .int .i64 (d3) ∧ e 13 = .int .i64 (j0)) (fun X13950 nC tI h => ?_) ?_
   ·refine E_seq (E_region (EL_mv jA rfl ?_))
    refine EL_mv xA rfl ?_
    refine EL_pur (v := .bool ((decide (j0 < ((((t5).Design).Rows).length : Int))))) (P_int rfl rfl rfl) .plain rfl ?_
    refine EL_nil (thn_n ?_)
    rcases csome h with ⟨j9, h⟩ | ⟨j9, h⟩
    ·refine E_ct j9 rfl ?_
     exact E_skip (thn_n (tI () _ _ ⟨pC, hfr, vE, xE, uA, vA, xA, yA, zA, aB, bB, gA, iA, qC, jA⟩ h))
    ·refine E_cf j9 rfl ?_
     refine E_exit ?_
     refine thn_e ?_
     refine thn_e ?_
     refine blk_hit ?_
     exact thn_n (rI () _ _ ⟨pC, hfr, uA, vA, yA, zA, aB, bB, gA, iA⟩ h)
   ·rintro _ rO qQ ⟨zJ, hfr, yE, zE, aF, bF, cF, dF, eF, gF, iF, rC, sC, tC, uC⟩ h
    refine E_joinC h (fun (s : Unit) e w => ∃ (g : Gh) , Fr gI wI g w ∧ e 3 = p5 ∧ OB 2003 g w 28 (y4 : FaultLoom) p5 ∧ e 4 = o4 ∧ OB 2004 g w 62 (y11 : FaultDamage) o4 ∧ e 5 = .int .i64 (((((t5).Design).Rows).length : Int)) ∧ e 6 = j3 ∧ RV g.m w (u5.1 : List Str) j3 ∧ e 8 = q3 ∧ RV g.m w (x5.1 : List Str) q3 ∧ e 10 = x4 ∧ RV g.m w (e6.1 : List Str) x4 ∧ e 12 = .int .i64 (d3) ∧ e 13 = .int .i64 (j0)) (fun X20887 jC uI h => ?_) ?_
    ·refine E_block ?_
     refine E_seq (E_region (EL_at (.int .i64 (0)) rfl rfl ?_))
     refine EL_nil (thn_n (E_block ?_))
     refine E_lp h (fun (s : Int) e w => ∃ (g : Gh) , Fr gI wI g w ∧ e 3 = p5 ∧ OB 2003 g w 28 (y4 : FaultLoom) p5 ∧ e 4 = o4 ∧ OB 2004 g w 62 (y11 : FaultDamage) o4 ∧ e 5 = .int .i64 (((((t5).Design).Rows).length : Int)) ∧ e 6 = j3 ∧ RV g.m w (u5.1 : List Str) j3 ∧ e 8 = q3 ∧ RV g.m w (x5.1 : List Str) q3 ∧ e 10 = x4 ∧ RV g.m w (e6.1 : List Str) x4 ∧ e 12 = .int .i64 (d3) ∧ e 13 = .int .i64 (j0) ∧ e 14 = .int .i64 (s)) ⟨zJ, hfr, yE, zE, aF, bF, cF, dF, eF, gF, iF, rC, sC, tC, uC, rfl⟩ (fun X20888 kC vI => ?_)
     rintro s2 sO rQ ⟨cB, hfr, dB, eB, iB, jB, kB, t8, y7, lB, mB, kA, lA, mA, e8, nA⟩ h
     refine E_joinC h (fun (s : Unit) e w => ∃ (g : Gh) , Fr gI wI g w ∧ e 3 = p5 ∧ OB 2003 g w 28 (y4 : FaultLoom) p5 ∧ e 4 = o4 ∧ OB 2004 g w 62 (y11 : FaultDamage) o4 ∧ e 5 = .int .i64 (((((t5).Design).Rows).length : Int)) ∧ e 6 = j3 ∧ RV g.m w (u5.1 : List Str) j3 ∧ e 8 = q3 ∧ RV g.m w (x5.1 : List Str) q3 ∧ e 10 = x4 ∧ RV g.m w (e6.1 : List Str) x4 ∧ e 12 = .int .i64 (d3) ∧ e 13 = .int .i64 (j0) ∧ e 14 = .int .i64 (s2)) (fun X20894 mC xI h => ?_) ?_
     ·refine E_seq (E_region (EL_mv nA rfl ?_))
      refine EL_mv t8 rfl ?_
      refine EL_mv e8 rfl ?_
      obtain ⟨z8, sB, h⟩ := bsome h
      refine EL_pur (v := ePtr j3 j0 1) (P_indexAddr (α := Str) Try.underlying36 Try.sizeOf9 rfl y7 rfl sB) .plain rfl ?_
      have aK := PT_idx y7 sB
      refine EL_do .plain rfl (D_load (g := cB) Try.isAgg9 Try.sizeOf9 rfl aK fun sQ bK => ?_)
      obtain rfl := RV_str.1 bK
      refine EL_pur (v := .int .i64 ((z8).b.length : Int)) (P_lenS Try.underlying9 rfl) .plain rfl ?_
      refine EL_in (.bool ((decide (s2 < ((z8).b.length : Int))))) rfl rfl rfl rfl ?_
      refine EL_nil (thn_n ?_)
      rcases csome h with ⟨k9, h⟩ | ⟨k9, h⟩
      ·refine E_ct k9 rfl ?_
       exact E_skip (thn_n (xI () _ _ ⟨cB, hfr, dB, eB, iB, jB, kB, t8, y7, lB, mB, kA, lA, mA, e8, nA⟩ h))
      ·refine E_cf k9 rfl ?_
       refine E_exit ?_
       refine thn_e ?_
       refine thn_e ?_
       refine blk_hit ?_
       exact blk_n (thn_n (uI () _ _ ⟨cB, hfr, dB, eB, iB, jB, kB, t8, y7, lB, mB, kA, lA, mA, e8⟩ h))
     ·rintro _ tO tQ ⟨cK, hfr, n4, z1, d2, n0, p4, z2, y0, o3, i1, c4, j1, q2, u0, p3⟩ h
      refine E_joinC h (fun (s : Unit) e w => ∃ (g : Gh) , Fr gI wI g w ∧ e 3 = p5 ∧ OB 2003 g w 28 (y4 : FaultLoom) p5 ∧ e 4 = o4 ∧ OB 2004 g w 62 (y11 : FaultDamage) o4 ∧ e 5 = .int .i64 (((((t5).Design).Rows).length : Int)) ∧ e 6 = j3 ∧ RV g.m w (u5.1 : List Str) j3 ∧ e 8 = q3 ∧ RV g.m w (x5.1 : List Str) q3 ∧ e 10 = x4 ∧ RV g.m w (e6.1 : List Str) x4 ∧ e 12 = .int .i64 (d3) ∧ e 13 = .int .i64 (j0) ∧ e 14 = .int .i64 (s2)) (fun X24360 x6 z6 h => ?_) ?_
      ·refine E_block ?_
       refine E_seq ?_
       obtain ⟨sA, tB, h⟩ := bsome h
       have dK := PT_idx y0 tB
       refine L_load (x := .tmp 83) Try.isAgg9 Try.sizeOf9 dK fun uQ eK yI => ?_
       obtain rfl := RV_str.1 eK
       obtain ⟨u3, zI, h⟩ := bsome h
       obtain ⟨tA, uB, h⟩ := bsome h
       have gK := PT_idx i1 uB
       refine L_load (x := .tmp 89) Try.isAgg9 Try.sizeOf9 gK fun vQ iK aJ => ?_
       obtain rfl := RV_str.1 iK
       obtain ⟨z3, bJ, h⟩ := bsome h
       refine E_drawL (g := cK) (n := 14) [] [0, 1, 2, 3, 4, 5, 6, 7, 8, 9, 10, 11, 12, 13] rfl mixed (by kernel_rfl) trivial ?_
       refine L_pur (c := j3) rfl rfl .plain (fun _ _ hd => P_move z2) ?_
       refine L_pur (c := .int .i64 (j0)) rfl rfl .plain (fun _ _ hd => P_move u0) ?_
       refine L_pur (c := ePtr j3 j0 1) rfl rfl .plain (fun _ _ hd => P_indexAddr (α := Str) Try.underlying36 Try.sizeOf9 rfl y0 rfl tB) ?_
       refine L_ld (c := Str.v (sA)) rfl rfl .plain (fun _ _ h => h.ch) yI rfl ?_
       refine L_pur (c := .int .i64 (s2)) rfl rfl .plain (fun _ _ hd => P_move p3) ?_
       refine L_pur (c := .int .u8 (UInt8.toNat (u3))) rfl rfl .plain (fun _ _ hd => P_indexS Try.underlying9 rfl rfl zI) ?_
       refine L_pur (c := q3) rfl rfl .plain (fun _ _ hd => P_move o3) ?_
       refine L_pur (c := .int .i64 (j0)) rfl rfl .plain (fun _ _ hd => P_move u0) ?_
       refine L_pur (c := ePtr q3 j0 1) rfl rfl .plain (fun _ _ hd => P_indexAddr (α := Str) Try.underlying36 Try.sizeOf9 rfl i1 rfl uB) ?_
       refine L_ld (c := Str.v (tA)) rfl rfl .plain (fun _ _ h => h.ch) aJ rfl ?_
       refine L_pur (c := .int .i64 (s2)) rfl rfl .plain (fun _ _ hd => P_move p3) ?_
       refine L_pur (c := .int .u8 (UInt8.toNat (z3))) rfl rfl .plain (fun _ _ hd => P_indexS Try.underlying9 rfl rfl bJ) ?_
       refine L_pur (c := .bool ((u3 != z3))) rfl rfl .plain (fun _ _ hd => P_u8 rfl rfl rfl) ?_
       refine L_pur (c := .bool ((u3 != z3))) rfl rfl .plain (fun _ _ hd => P_assign rfl) ?_
       refine L_nil fun u4 xQ hall => ?_
       have hs := hall.1
       have hfr := hfr.ext hs
       have z1 := z1.ext hs
       have n0 := n0.ext hs
       have y0 := y0.ext hs
       have i1 := i1.ext hs
       have j1 := j1.ext hs
       clear hs hall
       refine EL_nil (thn_n (E_seq (E_region (EL_pur (v := fPtr o4 0) (P_fieldAddr at_62_0 d2 (OB.ptr n0)) .plain rfl ?_))))
       refine EL_do .plain rfl (D_loadF (g := u4) part_FaultDamage_0.1 Try.isAgg60 Try.sizeOf60 rfl n0 fun yQ jK => ?_)
       obtain rfl := RV_int.1 jK
       refine EL_nil (thn_n (E_block ?_))
       refine E_seq (E_region (EL_in (.bool (((y11).Kind == (5 : Int)))) rfl rfl rfl rfl ?_))
       refine EL_at (.bool (((y11).Kind == (5 : Int)))) rfl rfl ?_
       refine EL_nil (thn_n ?_)
       rcases csome h with ⟨l9, h⟩ | ⟨l9, h⟩
       ·refine E_ct l9 rfl ?_
        obtain ⟨p6, hx, h⟩ := bsome h
        refine E_join (fun e w => ∃ (g : Gh) , Fr gI wI g w ∧ e 3 = p5 ∧ OB 2003 g w 28 (y4 : FaultLoom) p5 ∧ e 4 = o4 ∧ OB 2004 g w 62 (y11 : FaultDamage) o4 ∧ e 5 = .int .i64 (((((t5).Design).Rows).length : Int)) ∧ e 6 = j3 ∧ RV g.m w (u5.1 : List Str) j3 ∧ e 8 = q3 ∧ RV g.m w (x5.1 : List Str) q3 ∧ e 10 = x4 ∧ RV g.m w (e6.1 : List Str) x4 ∧ e 12 = .int .i64 (d3) ∧ e 13 = .int .i64 (j0) ∧ e 14 = .int .i64 (s2) ∧ e 165 = .bool (p6)) (fun Q' hQ => ?_) (fun uO zQ hR => ?_)
        ·replace h := hx
         clear hx
         refine E_region (EL_mv p3 rfl ?_)
         refine EL_pur (v := fPtr o4 3) (P_fieldAddr at_62_3 d2 (OB.ptr n0)) .plain rfl ?_
         refine EL_do .plain rfl (D_loadF (g := u4) part_FaultDamage_3.1 Try.isAgg3 Try.sizeOf3 rfl n0 fun aR kK => ?_)
         obtain rfl := RV_int.1 kK
         refine EL_in (.bool ((s2 == (y11).Warp))) rfl rfl rfl rfl ?_
         refine EL_mw (.bool ((s2 == (y11).Warp))) rfl rfl ?_
         rcases csome h with ⟨m5, h⟩ | ⟨m5, h⟩
         ·refine EL_pur (v := j3) (P_move z2) (.yes2 rfl rfl m5) rfl ?_
          refine EL_pur (v := .int .i64 (j0)) (P_move u0) (.yes2 rfl rfl m5) rfl ?_
          obtain ⟨lC, vB, h⟩ := bsome h
          refine EL_pur (v := ePtr j3 j0 1) (P_indexAddr (α := Str) Try.underlying36 Try.sizeOf9 rfl y0 rfl vB) (.yes2 rfl rfl m5) rfl ?_
          have lK := PT_idx y0 vB
          refine EL_do (.yes2 rfl rfl m5) rfl (D_load (g := u4) Try.isAgg9 Try.sizeOf9 rfl lK fun bR mK => ?_)
          obtain rfl := RV_str.1 mK
          refine EL_pur (v := .int .i64 (s2)) (P_move p3) (.yes2 rfl rfl m5) rfl ?_
          obtain ⟨o6, cJ, h⟩ := bsome h
          refine EL_pur (v := .int .u8 (UInt8.toNat (o6))) (P_indexS Try.underlying9 rfl rfl cJ) (.yes2 rfl rfl m5) rfl ?_
          refine EL_pur (v := .bool ((o6 != (46 : UInt8)))) (P_u8 rfl rfl rfl) (.yes2 rfl rfl m5) rfl ?_
          refine EL_pur (v := .bool ((o6 != (46 : UInt8)))) (P_pick (b := (s2 == (y11).Warp)) rfl (pick_t m5 rfl)) .plain rfl ?_
          refine EL_mw (.bool ((o6 != (46 : UInt8)))) rfl rfl ?_
          rcases csome h with ⟨n5, h⟩ | ⟨n5, h⟩
          ·refine EL_skip (.no2 rfl rfl n5 rfl) rfl ?_
           refine EL_skip (.no2 rfl rfl n5 rfl) rfl ?_
           refine EL_skip (.no2 rfl rfl n5 rfl) rfl ?_
           refine EL_skip (.no2 rfl rfl n5 rfl) rfl ?_
           refine EL_skip (.no2 rfl rfl n5 rfl) rfl ?_
           refine EL_skip (.off rfl rfl) rfl ?_
           refine EL_skip (.no2 rfl rfl n5 rfl) rfl ?_
           refine EL_pur (v := .bool true) (P_pick (b := (o6 != (46 : UInt8))) rfl (pick_t n5 rfl)) .plain rfl ?_
           refine EL_nil ?_
           obtain rfl := sinj h
           exact hQ _ _ ⟨u4, hfr, n4, z1, d2, n0, p4, z2, y0, o3, i1, c4, j1, q2, u0, p3, rfl⟩
          ·refine EL_pur (v := .int .i64 (s2)) (P_move p3) (.yes2 rfl rfl n5) rfl ?_
           refine EL_pur (v := fPtr o4 3) (P_fieldAddr at_62_3 d2 (OB.ptr n0)) (.yes2 rfl rfl n5) rfl ?_
           refine EL_do (.yes2 rfl rfl n5) rfl (D_loadF (g := u4) part_FaultDamage_3.1 Try.isAgg3 Try.sizeOf3 rfl n0 fun cR nK => ?_)
           obtain rfl := RV_int.1 nK
           refine EL_pur (v := .bool ((s2 != (y11).Warp))) (P_int rfl rfl rfl) (.yes2 rfl rfl n5) rfl ?_
           refine EL_pur (v := .bool ((s2 != (y11).Warp))) (P_move rfl) (.yes2 rfl rfl n5) rfl ?_
           rcases csome h with ⟨a7, h⟩ | ⟨a7, h⟩
           ·refine EL_pur (v := .bool ((u3 != z3))) (P_move rfl) (.yes2 rfl rfl a7) rfl ?_
            refine EL_pur (v := .bool ((u3 != z3))) (P_pick (b := (s2 != (y11).Warp)) rfl (pick_t a7 rfl)) (.yes2 rfl rfl n5) rfl ?_
            refine EL_pur (v := .bool ((u3 != z3))) (P_pick (b := (o6 != (46 : UInt8))) rfl (pick_f n5 rfl)) .plain rfl ?_
            refine EL_nil ?_
            obtain rfl := sinj h
            exact hQ _ _ ⟨u4, hfr, n4, z1, d2, n0, p4, z2, y0, o3, i1, c4, j1, q2, u0, p3, rfl⟩
           ·refine EL_skip (.no2 rfl rfl a7 rfl) rfl ?_
            refine EL_pur (v := .bool false) (P_pick (b := (s2 != (y11).Warp)) rfl (pick_f a7 rfl)) (.yes2 rfl rfl n5) rfl ?_
            refine EL_pur (v := .bool false) (P_pick (b := (o6 != (46 : UInt8))) rfl (pick_f n5 rfl)) .plain rfl ?_
            refine EL_nil ?_
            obtain rfl := sinj h
            exact hQ _ _ ⟨u4, hfr, n4, z1, d2, n0, p4, z2, y0, o3, i1, c4, j1, q2, u0, p3, rfl⟩
         ·refine EL_skip (.no2 rfl rfl m5 rfl) rfl ?_
          refine EL_skip (.no2 rfl rfl m5 rfl) rfl ?_
          refine EL_skip (.no2 rfl rfl m5 rfl) rfl ?_
          refine EL_skip (.no2 rfl rfl m5 rfl) rfl ?_
          refine EL_skip (.no2 rfl rfl m5 rfl) rfl ?_
          refine EL_skip (.no2 rfl rfl m5 rfl) rfl ?_
          refine EL_skip (.no2 rfl rfl m5 rfl) rfl ?_
          refine EL_pur (v := .bool false) (P_pick (b := (s2 == (y11).Warp)) rfl (pick_f m5 rfl)) .plain rfl ?_
          refine EL_mw (.bool false) rfl rfl ?_
          refine EL_pur (v := .int .i64 (s2)) (P_move p3) (.yes2 rfl rfl rfl) rfl ?_
          refine EL_pur (v := fPtr o4 3) (P_fieldAddr at_62_3 d2 (OB.ptr n0)) (.yes2 rfl rfl rfl) rfl ?_
          refine EL_do (.yes2 rfl rfl rfl) rfl (D_loadF (g := u4) part_FaultDamage_3.1 Try.isAgg3 Try.sizeOf3 rfl n0 fun dR oK => ?_)
          obtain rfl := RV_int.1 oK
          refine EL_pur (v := .bool ((s2 != (y11).Warp))) (P_int rfl rfl rfl) (.yes2 rfl rfl rfl) rfl ?_
          refine EL_pur (v := .bool ((s2 != (y11).Warp))) (P_move rfl) (.yes2 rfl rfl rfl) rfl ?_
          rcases csome h with ⟨b7, h⟩ | ⟨b7, h⟩
          ·refine EL_pur (v := .bool ((u3 != z3))) (P_move rfl) (.yes2 rfl rfl b7) rfl ?_
           refine EL_pur (v := .bool ((u3 != z3))) (P_pick (b := (s2 != (y11).Warp)) rfl (pick_t b7 rfl)) (.yes2 rfl rfl rfl) rfl ?_
           refine EL_pur (v := .bool ((u3 != z3))) (P_pick (b := false) rfl (pick_f rfl rfl)) .plain rfl ?_
           refine EL_nil ?_
           obtain rfl := sinj h
           exact hQ _ _ ⟨u4, hfr, n4, z1, d2, n0, p4, z2, y0, o3, i1, c4, j1, q2, u0, p3, rfl⟩
          ·refine EL_skip (.no2 rfl rfl b7 rfl) rfl ?_
           refine EL_pur (v := .bool false) (P_pick (b := (s2 != (y11).Warp)) rfl (pick_f b7 rfl)) (.yes2 rfl rfl rfl) rfl ?_
           refine EL_pur (v := .bool false) (P_pick (b := false) rfl (pick_f rfl rfl)) .plain rfl ?_
           refine EL_nil ?_
           obtain rfl := sinj h
           exact hQ _ _ ⟨u4, hfr, n4, z1, d2, n0, p4, z2, y0, o3, i1, c4, j1, q2, u0, p3, rfl⟩
        ·clear hx
         obtain ⟨pK, hfr, jF, kF, lF, mF, nF, oF, pF, qF, rF, vC, xC, yC, zC, aD, a9⟩ := hR
         rcases csome h with ⟨m9, h⟩ | ⟨m9, h⟩
         ·refine E_cond_true (Eq.trans (show ev _ _ = .bool (p6) from a9) (congrArg Value.bool m9)) ?_
          refine E_seq (E_region (EL_at (.bool false) rfl rfl ?_))
          refine EL_nil (thn_n (E_ret (blk_r ?_)))
          refine blk_r ?_
          refine thn_r ?_
          refine thn_r ?_
          refine blk_r ?_
          refine blk_r ?_
          refine thn_r ?_
          refine thn_r ?_
          refine blk_r ?_
          refine thn_r ?_
          obtain rfl := sinj h
          exact end1 rfl rfl (show _ = .bool false from rfl) ⟨_, hfr, rfl⟩
         ·refine E_cond_false (Eq.trans (show ev _ _ = .bool (p6) from a9) (congrArg Value.bool m9)) ?_
          exact E_skip (blk_n (blk_n (thn_n (z6 () _ _ ⟨pK, hfr, jF, kF, lF, mF, nF, oF, pF, qF, rF, vC, xC, yC, zC, aD⟩ h))))
       ·refine E_cf l9 rfl ?_
        refine E_seq (E_region (EL_in (.bool (((y11).Kind == (2 : Int)))) rfl rfl rfl rfl ?_))
        refine EL_at (.bool (((y11).Kind == (2 : Int)))) rfl rfl ?_
        refine EL_nil (thn_n ?_)
        rcases csome h with ⟨n9, h⟩ | ⟨n9, h⟩
        ·refine E_ct n9 rfl ?_
         refine E_seq (L_loadO (x := .tmp 169) (SubS.comp part_FaultLoom_0 part_TieHarness_1 rfl).1 Try.isAgg22 Try.sizeOf22 z1 fun bD cD dJ => ?_)
         obtain ⟨q4, xB, h⟩ := bsome h
         have qK := PT_idx cD xB
         refine L_load (x := .tmp 172) Try.isAgg3 Try.sizeOf3 qK fun eR sK eJ => ?_
         obtain rfl := RV_int.1 sK
         refine L_loadO (x := .tmp 174) part_FaultDamage_2.1 Try.isAgg3 Try.sizeOf3 n0 fun gR tK gJ => ?_
         obtain rfl := RV_int.1 tK
         refine E_drawL (g := u4) (n := 10) [] [0, 1, 2, 3, 4, 5, 6, 7, 8, 9] rfl mixed (by kernel_rfl) trivial ?_
         refine L_pur (c := fPtr p5 0) rfl rfl .plain (fun _ _ hd => P_fieldAddr at_28_0 n4 (OB.ptr z1)) ?_
         refine L_pur (c := fPtr p5 1) rfl rfl .plain (fun _ _ hd => P_fieldAddr2 (o1 := 0) rfl at_24_1 rfl (OB.ptr z1)) ?_
         refine L_ld (c := bD) rfl rfl .plain (fun _ _ h => ⟨h.ch, fun b hb _ => h.below.block b hb⟩) dJ rfl ?_
         refine L_pur (c := .int .i64 (s2)) rfl rfl .plain (fun _ _ hd => P_move p3) ?_
         refine L_pur (c := ePtr bD s2 1) rfl rfl .plain (fun _ _ hd => P_indexAddr (α := Int) Try.underlying22 Try.sizeOf3 rfl cD rfl xB) ?_
         refine L_ld (c := .int .i64 (q4)) rfl rfl .plain (fun _ _ h => h.ch) eJ rfl ?_
         refine L_pur (c := fPtr o4 2) rfl rfl .plain (fun _ _ hd => P_fieldAddr at_62_2 d2 (OB.ptr n0)) ?_
         refine L_ld (c := .int .i64 ((y11).Hook)) rfl rfl .plain (fun _ _ h => ⟨h.ch, fun b hb _ => h.below.block b hb⟩) gJ rfl ?_
         refine L_pur (c := .bool ((q4 == (y11).Hook))) rfl rfl .plain (fun _ _ hd => P_int rfl rfl rfl) ?_
         refine L_pur (c := .bool ((q4 == (y11).Hook))) rfl rfl .plain (fun _ _ hd => P_assign rfl) ?_
         refine L_nil fun g8 iR hall => ?_
         have hs := hall.1
         have hfr := hfr.ext hs
         have z1 := z1.ext hs
         have n0 := n0.ext hs
         have y0 := y0.ext hs
         have i1 := i1.ext hs
         have j1 := j1.ext hs
         clear hs hall
         refine EL_nil (thn_n ?_)
         obtain ⟨q6, hx, h⟩ := bsome h
         refine E_join (fun e w => ∃ (g : Gh) , Fr gI wI g w ∧ e 3 = p5 ∧ OB 2003 g w 28 (y4 : FaultLoom) p5 ∧ e 4 = o4 ∧ OB 2004 g w 62 (y11 : FaultDamage) o4 ∧ e 5 = .int .i64 (((((t5).Design).Rows).length : Int)) ∧ e 6 = j3 ∧ RV g.m w (u5.1 : List Str) j3 ∧ e 8 = q3 ∧ RV g.m w (x5.1 : List Str) q3 ∧ e 10 = x4 ∧ RV g.m w (e6.1 : List Str) x4 ∧ e 12 = .int .i64 (d3) ∧ e 13 = .int .i64 (j0) ∧ e 14 = .int .i64 (s2) ∧ e 196 = .bool (q6)) (fun Q' hQ => ?_) (fun vO jR hR => ?_)
         ·replace h := hx
          clear hx
          rcases csome h with ⟨i3, h⟩ | ⟨i3, h⟩
          ·obtain ⟨c8, i8, h⟩ := bsome h
           have uK := PT_idx y0 i8
           refine L_load (x := .tmp 181) Try.isAgg9 Try.sizeOf9 uK fun kR vK o9 => ?_
           obtain rfl := RV_str.1 vK
           obtain ⟨l5, p9, h⟩ := bsome h
           refine L_loadO (x := .tmp 186) part_FaultDamage_4.1 Try.isAgg4 Try.sizeOf4 n0 fun lR xK q9 => ?_
           obtain rfl := RV_bool.1 xK
           rcases csome h with ⟨o5, h⟩ | ⟨o5, h⟩
           ·refine E_drawL (g := g8) (n := 20) [] [0, 1, 2, 3, 4, 5, 6, 7, 8, 9, 10, 11, 12, 13, 14, 15, 16, 17, 18, 19] rfl mixed (by kernel_rfl) trivial ?_
            refine L_pur (c := .bool ((q4 == (y11).Hook))) rfl rfl .plain (fun _ _ hd => P_move rfl) ?_
            refine L_pur (c := .bool ((q4 == (y11).Hook))) rfl rfl .plain (fun _ _ hd => P_move rfl) ?_
            refine L_pur (c := j3) rfl rfl (.yes2 rfl rfl i3) (fun _ _ hd => P_move z2) ?_
            refine L_pur (c := .int .i64 (j0)) rfl rfl (.yes2 rfl rfl i3) (fun _ _ hd => P_move u0) ?_
            refine L_pur (c := ePtr j3 j0 1) rfl rfl (.yes2 rfl rfl i3) (fun _ _ hd => P_indexAddr (α := Str) Try.underlying36 Try.sizeOf9 rfl y0 rfl i8) ?_
            refine L_ld (c := Str.v (c8)) rfl rfl (.yes2 rfl rfl i3) (fun _ _ h => h.ch) o9 rfl ?_
            refine L_pur (c := .int .i64 (s2)) rfl rfl (.yes2 rfl rfl i3) (fun _ _ hd => P_move p3) ?_
            refine L_pur (c := .int .u8 (UInt8.toNat (l5))) rfl rfl (.yes2 rfl rfl i3) (fun _ _ hd => P_indexS Try.underlying9 rfl rfl p9) ?_
            refine L_pur (c := .bool ((l5 == (120 : UInt8)))) rfl rfl (.yes2 rfl rfl i3) (fun _ _ hd => P_u8 rfl rfl rfl) ?_
            refine L_pur (c := fPtr o4 4) rfl rfl (.yes2 rfl rfl i3) (fun _ _ hd => P_fieldAddr at_62_4 d2 (OB.ptr n0)) ?_
            refine L_ld (c := .bool ((y11).Up)) rfl rfl (.yes2 rfl rfl i3) (fun _ _ h => ⟨h.ch, fun b hb _ => h.below.block b hb⟩) q9 rfl ?_
            refine L_pur (c := .bool ((!((l5 == (120 : UInt8)) == (y11).Up)))) rfl rfl (.yes2 rfl rfl i3) (fun _ _ hd => P_bool Try.underlying4 rfl rfl rfl) ?_
            refine L_pur (c := .bool ((!((l5 == (120 : UInt8)) == (y11).Up)))) rfl rfl .plain (fun _ _ hd => P_pick (b := (q4 == (y11).Hook)) rfl (pick_t i3 rfl)) ?_
            refine L_pur (c := .bool ((!((l5 == (120 : UInt8)) == (y11).Up)))) rfl rfl .plain (fun _ _ hd => P_move rfl) ?_
            refine L_skip rfl (.no2 rfl rfl o5 rfl) ?_
            refine L_skip rfl (.no2 rfl rfl o5 rfl) ?_
            refine L_skip rfl (.no2 rfl rfl o5 rfl) ?_
            refine L_skip rfl (.off rfl rfl) ?_
            refine L_skip rfl (.no2 rfl rfl o5 rfl) ?_
            refine L_pur (c := .bool true) rfl rfl .plain (fun _ _ hd => P_pick (b := (!((l5 == (120 : UInt8)) == (y11).Up))) rfl (pick_t o5 rfl)) ?_
            refine L_nil fun yK mR hall => ?_
            have hs := hall.1
            have hfr := hfr.ext hs
            have z1 := z1.ext hs
            have n0 := n0.ext hs
            have y0 := y0.ext hs
            have i1 := i1.ext hs
            have j1 := j1.ext hs
            clear hs hall
            refine EL_nil ?_
            obtain rfl := sinj h
            exact hQ _ _ ⟨yK, hfr, n4, z1, d2, n0, p4, z2, y0, o3, i1, c4, j1, q2, u0, p3, rfl⟩
           ·rcases csome h with ⟨c7, h⟩ | ⟨c7, h⟩
            ·refine E_drawL (g := g8) (n := 20) [] [0, 1, 2, 3, 4, 5, 6, 7, 8, 9, 10, 11, 12, 13, 14, 15, 16, 17, 18, 19] rfl mixed (by kernel_rfl) trivial ?_
             refine L_pur (c := .bool ((q4 == (y11).Hook))) rfl rfl .plain (fun _ _ hd => P_move rfl) ?_
             refine L_pur (c := .bool ((q4 == (y11).Hook))) rfl rfl .plain (fun _ _ hd => P_move rfl) ?_
             refine L_pur (c := j3) rfl rfl (.yes2 rfl rfl i3) (fun _ _ hd => P_move z2) ?_
             refine L_pur (c := .int .i64 (j0)) rfl rfl (.yes2 rfl rfl i3) (fun _ _ hd => P_move u0) ?_
             refine L_pur (c := ePtr j3 j0 1) rfl rfl (.yes2 rfl rfl i3) (fun _ _ hd => P_indexAddr (α := Str) Try.underlying36 Try.sizeOf9 rfl y0 rfl i8) ?_
             refine L_ld (c := Str.v (c8)) rfl rfl (.yes2 rfl rfl i3) (fun _ _ h => h.ch) o9 rfl ?_
             refine L_pur (c := .int .i64 (s2)) rfl rfl (.yes2 rfl rfl i3) (fun _ _ hd => P_move p3) ?_
             refine L_pur (c := .int .u8 (UInt8.toNat (l5))) rfl rfl (.yes2 rfl rfl i3) (fun _ _ hd => P_indexS Try.underlying9 rfl rfl p9) ?_
             refine L_pur (c := .bool ((l5 == (120 : UInt8)))) rfl rfl (.yes2 rfl rfl i3) (fun _ _ hd => P_u8 rfl rfl rfl) ?_
             refine L_pur (c := fPtr o4 4) rfl rfl (.yes2 rfl rfl i3) (fun _ _ hd => P_fieldAddr at_62_4 d2 (OB.ptr n0)) ?_
             refine L_ld (c := .bool ((y11).Up)) rfl rfl (.yes2 rfl rfl i3) (fun _ _ h => ⟨h.ch, fun b hb _ => h.below.block b hb⟩) q9 rfl ?_
             refine L_pur (c := .bool ((!((l5 == (120 : UInt8)) == (y11).Up)))) rfl rfl (.yes2 rfl rfl i3) (fun _ _ hd => P_bool Try.underlying4 rfl rfl rfl) ?_
             refine L_pur (c := .bool ((!((l5 == (120 : UInt8)) == (y11).Up)))) rfl rfl .plain (fun _ _ hd => P_pick (b := (q4 == (y11).Hook)) rfl (pick_t i3 rfl)) ?_
             refine L_pur (c := .bool ((!((l5 == (120 : UInt8)) == (y11).Up)))) rfl rfl .plain (fun _ _ hd => P_move rfl) ?_
             refine L_pur (c := .bool ((q4 == (y11).Hook))) rfl rfl (.yes2 rfl rfl o5) (fun _ _ hd => P_move rfl) ?_
             refine L_pur (c := .bool (!(q4 == (y11).Hook))) rfl rfl (.yes2 rfl rfl o5) (fun _ _ hd => P_not rfl) ?_
             refine L_pur (c := .bool (!(q4 == (y11).Hook))) rfl rfl (.yes2 rfl rfl o5) (fun _ _ hd => P_move rfl) ?_
             refine L_pur (c := .bool ((u3 != z3))) rfl rfl (.yes2 rfl rfl c7) (fun _ _ hd => P_move rfl) ?_
             refine L_pur (c := .bool ((u3 != z3))) rfl rfl (.yes2 rfl rfl o5) (fun _ _ hd => P_pick (b := (!(q4 == (y11).Hook))) rfl (pick_t c7 rfl)) ?_
             refine L_pur (c := .bool ((u3 != z3))) rfl rfl .plain (fun _ _ hd => P_pick (b := (!((l5 == (120 : UInt8)) == (y11).Up))) rfl (pick_f o5 rfl)) ?_
             refine L_nil fun zK nR hall => ?_
             have hs := hall.1
             have hfr := hfr.ext hs
             have z1 := z1.ext hs
             have n0 := n0.ext hs
             have y0 := y0.ext hs
             have i1 := i1.ext hs
             have j1 := j1.ext hs
             clear hs hall
             refine EL_nil ?_
             obtain rfl := sinj h
             exact hQ _ _ ⟨zK, hfr, n4, z1, d2, n0, p4, z2, y0, o3, i1, c4, j1, q2, u0, p3, rfl⟩
            ·refine E_drawL (g := g8) (n := 20) [] [0, 1, 2, 3, 4, 5, 6, 7, 8, 9, 10, 11, 12, 13, 14, 15, 16, 17, 18, 19] rfl mixed (by kernel_rfl) trivial ?_
             refine L_pur (c := .bool ((q4 == (y11).Hook))) rfl rfl .plain (fun _ _ hd => P_move rfl) ?_
             refine L_pur (c := .bool ((q4 == (y11).Hook))) rfl rfl .plain (fun _ _ hd => P_move rfl) ?_
             refine L_pur (c := j3) rfl rfl (.yes2 rfl rfl i3) (fun _ _ hd => P_move z2) ?_
             refine L_pur (c := .int .i64 (j0)) rfl rfl (.yes2 rfl rfl i3) (fun _ _ hd => P_move u0) ?_
             refine L_pur (c := ePtr j3 j0 1) rfl rfl (.yes2 rfl rfl i3) (fun _ _ hd => P_indexAddr (α := Str) Try.underlying36 Try.sizeOf9 rfl y0 rfl i8) ?_
             refine L_ld (c := Str.v (c8)) rfl rfl (.yes2 rfl rfl i3) (fun _ _ h => h.ch) o9 rfl ?_
             refine L_pur (c := .int .i64 (s2)) rfl rfl (.yes2 rfl rfl i3) (fun _ _ hd => P_move p3) ?_
             refine L_pur (c := .int .u8 (UInt8.toNat (l5))) rfl rfl (.yes2 rfl rfl i3) (fun _ _ hd => P_indexS Try.underlying9 rfl rfl p9) ?_
             refine L_pur (c := .bool ((l5 == (120 : UInt8)))) rfl rfl (.yes2 rfl rfl i3) (fun _ _ hd => P_u8 rfl rfl rfl) ?_
             refine L_pur (c := fPtr o4 4) rfl rfl (.yes2 rfl rfl i3) (fun _ _ hd => P_fieldAddr at_62_4 d2 (OB.ptr n0)) ?_
             refine L_ld (c := .bool ((y11).Up)) rfl rfl (.yes2 rfl rfl i3) (fun _ _ h => ⟨h.ch, fun b hb _ => h.below.block b hb⟩) q9 rfl ?_
             refine L_pur (c := .bool ((!((l5 == (120 : UInt8)) == (y11).Up)))) rfl rfl (.yes2 rfl rfl i3) (fun _ _ hd => P_bool Try.underlying4 rfl rfl rfl) ?_
             refine L_pur (c := .bool ((!((l5 == (120 : UInt8)) == (y11).Up)))) rfl rfl .plain (fun _ _ hd => P_pick (b := (q4 == (y11).Hook)) rfl (pick_t i3 rfl)) ?_
             refine L_pur (c := .bool ((!((l5 == (120 : UInt8)) == (y11).Up)))) rfl rfl .plain (fun _ _ hd => P_move rfl) ?_
             refine L_pur (c := .bool ((q4 == (y11).Hook))) rfl rfl (.yes2 rfl rfl o5) (fun _ _ hd => P_move rfl) ?_
             refine L_pur (c := .bool (!(q4 == (y11).Hook))) rfl rfl (.yes2 rfl rfl o5) (fun _ _ hd => P_not rfl) ?_
             refine L_pur (c := .bool (!(q4 == (y11).Hook))) rfl rfl (.yes2 rfl rfl o5) (fun _ _ hd => P_move rfl) ?_
             refine L_skip rfl (.no2 rfl rfl c7 rfl) ?_
             refine L_pur (c := .bool false) rfl rfl (.yes2 rfl rfl o5) (fun _ _ hd => P_pick (b := (!(q4 == (y11).Hook))) rfl (pick_f c7 rfl)) ?_
             refine L_pur (c := .bool false) rfl rfl .plain (fun _ _ hd => P_pick (b := (!((l5 == (120 : UInt8)) == (y11).Up))) rfl (pick_f o5 rfl)) ?_
             refine L_nil fun aL oR hall => ?_
             have hs := hall.1
             have hfr := hfr.ext hs
             have z1 := z1.ext hs
             have n0 := n0.ext hs
             have y0 := y0.ext hs
             have i1 := i1.ext hs
             have j1 := j1.ext hs
             clear hs hall
             refine EL_nil ?_
             obtain rfl := sinj h
             exact hQ _ _ ⟨aL, hfr, n4, z1, d2, n0, p4, z2, y0, o3, i1, c4, j1, q2, u0, p3, rfl⟩
          ·rcases csome h with ⟨d7, h⟩ | ⟨d7, h⟩
           ·refine E_drawL (g := g8) (n := 20) [] [0, 1, 2, 3, 4, 5, 6, 7, 8, 9, 10, 11, 12, 13, 14, 15, 16, 17, 18, 19] rfl mixed (by kernel_rfl) trivial ?_
            refine L_pur (c := .bool ((q4 == (y11).Hook))) rfl rfl .plain (fun _ _ hd => P_move rfl) ?_
            refine L_pur (c := .bool ((q4 == (y11).Hook))) rfl rfl .plain (fun _ _ hd => P_move rfl) ?_
            refine L_skip rfl (.no2 rfl rfl i3 rfl) ?_
            refine L_skip rfl (.no2 rfl rfl i3 rfl) ?_
            refine L_skip rfl (.no2 rfl rfl i3 rfl) ?_
            refine L_skip rfl (.no2 rfl rfl i3 rfl) ?_
            refine L_skip rfl (.no2 rfl rfl i3 rfl) ?_
            refine L_skip rfl (.no2 rfl rfl i3 rfl) ?_
            refine L_skip rfl (.no2 rfl rfl i3 rfl) ?_
            refine L_skip rfl (.no2 rfl rfl i3 rfl) ?_
            refine L_skip rfl (.no2 rfl rfl i3 rfl) ?_
            refine L_skip rfl (.no2 rfl rfl i3 rfl) ?_
            refine L_pur (c := .bool false) rfl rfl .plain (fun _ _ hd => P_pick (b := (q4 == (y11).Hook)) rfl (pick_f i3 rfl)) ?_
            refine L_pur (c := .bool false) rfl rfl .plain (fun _ _ hd => P_move rfl) ?_
            refine L_pur (c := .bool ((q4 == (y11).Hook))) rfl rfl (.yes2 rfl rfl rfl) (fun _ _ hd => P_move rfl) ?_
            refine L_pur (c := .bool (!(q4 == (y11).Hook))) rfl rfl (.yes2 rfl rfl rfl) (fun _ _ hd => P_not rfl) ?_
            refine L_pur (c := .bool (!(q4 == (y11).Hook))) rfl rfl (.yes2 rfl rfl rfl) (fun _ _ hd => P_move rfl) ?_
            refine L_pur (c := .bool ((u3 != z3))) rfl rfl (.yes2 rfl rfl d7) (fun _ _ hd => P_move rfl) ?_
            refine L_pur (c := .bool ((u3 != z3))) rfl rfl (.yes2 rfl rfl rfl) (fun _ _ hd => P_pick (b := (!(q4 == (y11).Hook))) rfl (pick_t d7 rfl)) ?_
            refine L_pur (c := .bool ((u3 != z3))) rfl rfl .plain (fun _ _ hd => P_pick (b := false) rfl (pick_f rfl rfl)) ?_
            refine L_nil fun bL pR hall => ?_
            have hs := hall.1
            have hfr := hfr.ext hs
            have z1 := z1.ext hs
            have n0 := n0.ext hs
            have y0 := y0.ext hs
            have i1 := i1.ext hs
            have j1 := j1.ext hs
            clear hs hall
            refine EL_nil ?_
            obtain rfl := sinj h
            exact hQ _ _ ⟨bL, hfr, n4, z1, d2, n0, p4, z2, y0, o3, i1, c4, j1, q2, u0, p3, rfl⟩
           ·refine E_drawL (g := g8) (n := 20) [] [0, 1, 2, 3, 4, 5, 6, 7, 8, 9, 10, 11, 12, 13, 14, 15, 16, 17, 18, 19] rfl mixed (by kernel_rfl) trivial ?_
            refine L_pur (c := .bool ((q4 == (y11).Hook))) rfl rfl .plain (fun _ _ hd => P_move rfl) ?_
            refine L_pur (c := .bool ((q4 == (y11).Hook))) rfl rfl .plain (fun _ _ hd => P_move rfl) ?_
            refine L_skip rfl (.no2 rfl rfl i3 rfl) ?_
            refine L_skip rfl (.no2 rfl rfl i3 rfl) ?_
            refine L_skip rfl (.no2 rfl rfl i3 rfl) ?_
            refine L_skip rfl (.no2 rfl rfl i3 rfl) ?_
            refine L_skip rfl (.no2 rfl rfl i3 rfl) ?_
            refine L_skip rfl (.no2 rfl rfl i3 rfl) ?_
            refine L_skip rfl (.no2 rfl rfl i3 rfl) ?_
            refine L_skip rfl (.no2 rfl rfl i3 rfl) ?_
            refine L_skip rfl (.no2 rfl rfl i3 rfl) ?_
            refine L_skip rfl (.no2 rfl rfl i3 rfl) ?_
            refine L_pur (c := .bool false) rfl rfl .plain (fun _ _ hd => P_pick (b := (q4 == (y11).Hook)) rfl (pick_f i3 rfl)) ?_
            refine L_pur (c := .bool false) rfl rfl .plain (fun _ _ hd => P_move rfl) ?_
            refine L_pur (c := .bool ((q4 == (y11).Hook))) rfl rfl (.yes2 rfl rfl rfl) (fun _ _ hd => P_move rfl) ?_
            refine L_pur (c := .bool (!(q4 == (y11).Hook))) rfl rfl (.yes2 rfl rfl rfl) (fun _ _ hd => P_not rfl) ?_
            refine L_pur (c := .bool (!(q4 == (y11).Hook))) rfl rfl (.yes2 rfl rfl rfl) (fun _ _ hd => P_move rfl) ?_
            refine L_skip rfl (.no2 rfl rfl d7 rfl) ?_
            refine L_pur (c := .bool false) rfl rfl (.yes2 rfl rfl rfl) (fun _ _ hd => P_pick (b := (!(q4 == (y11).Hook))) rfl (pick_f d7 rfl)) ?_
            refine L_pur (c := .bool false) rfl rfl .plain (fun _ _ hd => P_pick (b := false) rfl (pick_f rfl rfl)) ?_
            refine L_nil fun cL qR hall => ?_
            have hs := hall.1
            have hfr := hfr.ext hs
            have z1 := z1.ext hs
            have n0 := n0.ext hs
            have y0 := y0.ext hs
            have i1 := i1.ext hs
            have j1 := j1.ext hs
            clear hs hall
            refine EL_nil ?_
            obtain rfl := sinj h
            exact hQ _ _ ⟨cL, hfr, n4, z1, d2, n0, p4, z2, y0, o3, i1, c4, j1, q2, u0, p3, rfl⟩
         ·clear hx
          obtain ⟨dL, hfr, sF, tF, uF, vF, xF, yF, zF, aG, bG, dD, eD, gD, iD, jD, b9⟩ := hR
          rcases csome h with ⟨r9, h⟩ | ⟨r9, h⟩
          ·refine E_cond_true (Eq.trans (show ev _ _ = .bool (q6) from b9) (congrArg Value.bool r9)) ?_
           refine E_seq (E_region (EL_at (.bool false) rfl rfl ?_))
           refine EL_nil (thn_n (E_ret (blk_r ?_)))
           refine blk_r ?_
           refine thn_r ?_
           refine thn_r ?_
           refine blk_r ?_
           refine blk_r ?_
           refine thn_r ?_
           refine thn_r ?_
           refine blk_r ?_
           refine thn_r ?_
           obtain rfl := sinj h
           exact end1 rfl rfl (show _ = .bool false from rfl) ⟨_, hfr, rfl⟩
          ·refine E_cond_false (Eq.trans (show ev _ _ = .bool (q6) from b9) (congrArg Value.bool r9)) ?_
           exact E_skip (blk_n (blk_n (thn_n (z6 () _ _ ⟨dL, hfr, sF, tF, uF, vF, xF, yF, zF, aG, bG, dD, eD, gD, iD, jD⟩ h))))
        ·refine E_cf n9 rfl ?_
         refine E_seq (E_region (EL_in (.bool (((y11).Kind == (1 : Int)))) rfl rfl rfl rfl ?_))
         refine EL_at (.bool (((y11).Kind == (1 : Int)))) rfl rfl ?_
         refine EL_nil (thn_n ?_)
         rcases csome h with ⟨s9, h⟩ | ⟨s9, h⟩
         ·refine E_ct s9 rfl ?_
          obtain ⟨r6, hx, h⟩ := bsome h
          refine E_join (fun e w => ∃ (g : Gh) , Fr gI wI g w ∧ e 3 = p5 ∧ OB 2003 g w 28 (y4 : FaultLoom) p5 ∧ e 4 = o4 ∧ OB 2004 g w 62 (y11 : FaultDamage) o4 ∧ e 5 = .int .i64 (((((t5).Design).Rows).length : Int)) ∧ e 6 = j3 ∧ RV g.m w (u5.1 : List Str) j3 ∧ e 8 = q3 ∧ RV g.m w (x5.1 : List Str) q3 ∧ e 10 = x4 ∧ RV g.m w (e6.1 : List Str) x4 ∧ e 12 = .int .i64 (d3) ∧ e 13 = .int .i64 (j0) ∧ e 14 = .int .i64 (s2) ∧ e 215 = .bool (r6)) (fun Q' hQ => ?_) (fun xO rR hR => ?_)
          ·replace h := hx
           clear hx
           refine L_loadO (x := .tmp 201) part_FaultDamage_1.1 Try.isAgg3 Try.sizeOf3 n0 fun sR eL yB => ?_
           obtain rfl := RV_int.1 eL
           rcases csome h with ⟨j5, h⟩ | ⟨j5, h⟩
           ·refine L_loadO (x := .tmp 206) (SubS.comp part_FaultLoom_0 part_TieHarness_1 rfl).1 Try.isAgg22 Try.sizeOf22 z1 fun kD lD iJ => ?_
            obtain ⟨y6, zB, h⟩ := bsome h
            have gL := PT_idx lD zB
            refine L_load (x := .tmp 209) Try.isAgg3 Try.sizeOf3 gL fun tR iL jJ => ?_
            obtain rfl := RV_int.1 iL
            refine L_loadO (x := .tmp 211) part_FaultDamage_2.1 Try.isAgg3 Try.sizeOf3 n0 fun uR jL kJ => ?_
            obtain rfl := RV_int.1 jL
            refine E_drawL (g := u4) (n := 17) [] [0, 1, 2, 3, 4, 5, 6, 7, 8, 9, 10, 11, 12, 13, 14, 15, 16] rfl mixed (by kernel_rfl) trivial ?_
            refine L_pur (c := .bool ((u3 != z3))) rfl rfl .plain (fun _ _ hd => P_move rfl) ?_
            refine L_pur (c := .int .i64 (j0)) rfl rfl .plain (fun _ _ hd => P_move u0) ?_
            refine L_pur (c := fPtr o4 1) rfl rfl .plain (fun _ _ hd => P_fieldAddr at_62_1 d2 (OB.ptr n0)) ?_
            refine L_ld (c := .int .i64 ((y11).Pick)) rfl rfl .plain (fun _ _ h => ⟨h.ch, fun b hb _ => h.below.block b hb⟩) yB rfl ?_
            refine L_pur (c := .bool ((j0 == (y11).Pick))) rfl rfl .plain (fun _ _ hd => P_int rfl rfl rfl) ?_
            refine L_pur (c := .bool ((j0 == (y11).Pick))) rfl rfl .plain (fun _ _ hd => P_move rfl) ?_
            refine L_pur (c := fPtr p5 0) rfl rfl (.yes2 rfl rfl j5) (fun _ _ hd => P_fieldAddr at_28_0 n4 (OB.ptr z1)) ?_
            refine L_pur (c := fPtr p5 1) rfl rfl (.yes2 rfl rfl j5) (fun _ _ hd => P_fieldAddr2 (o1 := 0) rfl at_24_1 rfl (OB.ptr z1)) ?_
            refine L_ld (c := kD) rfl rfl (.yes2 rfl rfl j5) (fun _ _ h => ⟨h.ch, fun b hb _ => h.below.block b hb⟩) iJ rfl ?_
            refine L_pur (c := .int .i64 (s2)) rfl rfl (.yes2 rfl rfl j5) (fun _ _ hd => P_move p3) ?_
            refine L_pur (c := ePtr kD s2 1) rfl rfl (.yes2 rfl rfl j5) (fun _ _ hd => P_indexAddr (α := Int) Try.underlying22 Try.sizeOf3 rfl lD rfl zB) ?_
            refine L_ld (c := .int .i64 (y6)) rfl rfl (.yes2 rfl rfl j5) (fun _ _ h => h.ch) jJ rfl ?_
            refine L_pur (c := fPtr o4 2) rfl rfl (.yes2 rfl rfl j5) (fun _ _ hd => P_fieldAddr at_62_2 d2 (OB.ptr n0)) ?_
            refine L_ld (c := .int .i64 ((y11).Hook)) rfl rfl (.yes2 rfl rfl j5) (fun _ _ h => ⟨h.ch, fun b hb _ => h.below.block b hb⟩) kJ rfl ?_
            refine L_pur (c := .bool ((y6 == (y11).Hook))) rfl rfl (.yes2 rfl rfl j5) (fun _ _ hd => P_int rfl rfl rfl) ?_
            refine L_pur (c := .bool ((y6 == (y11).Hook))) rfl rfl .plain (fun _ _ hd => P_pick (b := (j0 == (y11).Pick)) rfl (pick_t j5 rfl)) ?_
            refine L_pur (c := .bool ((!((u3 != z3) == (y6 == (y11).Hook))))) rfl rfl .plain (fun _ _ hd => P_bool Try.underlying4 rfl rfl rfl) ?_
            refine L_nil fun kL vR hall => ?_
            have hs := hall.1
            have hfr := hfr.ext hs
            have z1 := z1.ext hs
            have n0 := n0.ext hs
            have y0 := y0.ext hs
            have i1 := i1.ext hs
            have j1 := j1.ext hs
            clear hs hall
            refine EL_nil ?_
            obtain rfl := sinj h
            exact hQ _ _ ⟨kL, hfr, n4, z1, d2, n0, p4, z2, y0, o3, i1, c4, j1, q2, u0, p3, rfl⟩
           ·refine E_drawL (g := u4) (n := 17) [] [0, 1, 2, 3, 4, 5, 6, 7, 8, 9, 10, 11, 12, 13, 14, 15, 16] rfl mixed (by kernel_rfl) trivial ?_
            refine L_pur (c := .bool ((u3 != z3))) rfl rfl .plain (fun _ _ hd => P_move rfl) ?_
            refine L_pur (c := .int .i64 (j0)) rfl rfl .plain (fun _ _ hd => P_move u0) ?_
            refine L_pur (c := fPtr o4 1) rfl rfl .plain (fun _ _ hd => P_fieldAddr at_62_1 d2 (OB.ptr n0)) ?_
            refine L_ld (c := .int .i64 ((y11).Pick)) rfl rfl .plain (fun _ _ h => ⟨h.ch, fun b hb _ => h.below.block b hb⟩) yB rfl ?_
            refine L_pur (c := .bool ((j0 == (y11).Pick))) rfl rfl .plain (fun _ _ hd => P_int rfl rfl rfl) ?_
            refine L_pur (c := .bool ((j0 == (y11).Pick))) rfl rfl .plain (fun _ _ hd => P_move rfl) ?_
            refine L_skip rfl (.no2 rfl rfl j5 rfl) ?_
            refine L_skip rfl (.no2 rfl rfl j5 rfl) ?_
            refine L_skip rfl (.no2 rfl rfl j5 rfl) ?_
            refine L_skip rfl (.no2 rfl rfl j5 rfl) ?_
            refine L_skip rfl (.no2 rfl rfl j5 rfl) ?_
            refine L_skip rfl (.no2 rfl rfl j5 rfl) ?_
            refine L_skip rfl (.no2 rfl rfl j5 rfl) ?_
            refine L_skip rfl (.no2 rfl rfl j5 rfl) ?_
            refine L_skip rfl (.no2 rfl rfl j5 rfl) ?_
            refine L_pur (c := .bool false) rfl rfl .plain (fun _ _ hd => P_pick (b := (j0 == (y11).Pick)) rfl (pick_f j5 rfl)) ?_
            refine L_pur (c := .bool ((!((u3 != z3) == false)))) rfl rfl .plain (fun _ _ hd => P_bool Try.underlying4 rfl rfl rfl) ?_
            refine L_nil fun lL xR hall => ?_
            have hs := hall.1
            have hfr := hfr.ext hs
            have z1 := z1.ext hs
            have n0 := n0.ext hs
            have y0 := y0.ext hs
            have i1 := i1.ext hs
            have j1 := j1.ext hs
            clear hs hall
            refine EL_nil ?_
            obtain rfl := sinj h
            exact hQ _ _ ⟨lL, hfr, n4, z1, d2, n0, p4, z2, y0, o3, i1, c4, j1, q2, u0, p3, rfl⟩
          ·clear hx
           obtain ⟨mL, hfr, cG, dG, eG, gG, hG, iG, jG, kG, lG, mD, nD, oD, pD, qD, c9⟩ := hR
           rcases csome h with ⟨t9, h⟩ | ⟨t9, h⟩
           ·refine E_cond_true (Eq.trans (show ev _ _ = .bool (r6) from c9) (congrArg Value.bool t9)) ?_
            refine E_seq (E_region (EL_at (.bool false) rfl rfl ?_))
            refine EL_nil (thn_n (E_ret (blk_r ?_)))
            refine blk_r ?_
            refine thn_r ?_
            refine thn_r ?_
            refine blk_r ?_
            refine blk_r ?_
            refine thn_r ?_
            refine thn_r ?_
            refine blk_r ?_
            refine thn_r ?_
            obtain rfl := sinj h
            exact end1 rfl rfl (show _ = .bool false from rfl) ⟨_, hfr, rfl⟩
           ·refine E_cond_false (Eq.trans (show ev _ _ = .bool (r6) from c9) (congrArg Value.bool t9)) ?_
            exact E_skip (blk_n (blk_n (thn_n (z6 () _ _ ⟨mL, hfr, cG, dG, eG, gG, hG, iG, jG, kG, lG, mD, nD, oD, pD, qD⟩ h))))
         ·refine E_cf s9 rfl ?_
          refine E_seq (E_region (EL_in (.bool (((y11).Kind == (3 : Int)))) rfl rfl rfl rfl ?_))
          refine EL_at (.bool (((y11).Kind == (3 : Int)))) rfl rfl ?_
          refine EL_nil (thn_n ?_)
          rcases csome h with ⟨u9, h⟩ | ⟨u9, h⟩
          ·refine E_ct u9 rfl ?_
           obtain ⟨t6, hx, h⟩ := bsome h
           refine E_join (fun e w => ∃ (g : Gh) , Fr gI wI g w ∧ e 3 = p5 ∧ OB 2003 g w 28 (y4 : FaultLoom) p5 ∧ e 4 = o4 ∧ OB 2004 g w 62 (y11 : FaultDamage) o4 ∧ e 5 = .int .i64 (((((t5).Design).Rows).length : Int)) ∧ e 6 = j3 ∧ RV g.m w (u5.1 : List Str) j3 ∧ e 8 = q3 ∧ RV g.m w (x5.1 : List Str) q3 ∧ e 10 = x4 ∧ RV g.m w (e6.1 : List Str) x4 ∧ e 12 = .int .i64 (d3) ∧ e 13 = .int .i64 (j0) ∧ e 14 = .int .i64 (s2) ∧ e 224 = .bool (t6)) (fun Q' hQ => ?_) (fun yO yR hR => ?_)
           ·replace h := hx
            clear hx
            refine E_region (EL_mw (.bool ((u3 != z3))) rfl rfl ?_)
            refine EL_mw (.bool ((u3 != z3))) rfl rfl ?_
            rcases csome h with ⟨d6, h⟩ | ⟨d6, h⟩
            ·refine EL_pur (v := .int .i64 (j0)) (P_move u0) (.yes2 rfl rfl d6) rfl ?_
             refine EL_pur (v := fPtr o4 1) (P_fieldAddr at_62_1 d2 (OB.ptr n0)) (.yes2 rfl rfl d6) rfl ?_
             refine EL_do (.yes2 rfl rfl d6) rfl (D_loadF (g := u4) part_FaultDamage_1.1 Try.isAgg3 Try.sizeOf3 rfl n0 fun zR nL => ?_)
             obtain rfl := RV_int.1 nL
             refine EL_pur (v := .bool ((j0 != (y11).Pick))) (P_int rfl rfl rfl) (.yes2 rfl rfl d6) rfl ?_
             refine EL_pur (v := .bool ((j0 != (y11).Pick))) (P_pick (b := (u3 != z3)) rfl (pick_t d6 rfl)) .plain rfl ?_
             refine EL_nil ?_
             obtain rfl := sinj h
             exact hQ _ _ ⟨u4, hfr, n4, z1, d2, n0, p4, z2, y0, o3, i1, c4, j1, q2, u0, p3, rfl⟩
            ·refine EL_skip (.no2 rfl rfl d6 rfl) rfl ?_
             refine EL_skip (.no2 rfl rfl d6 rfl) rfl ?_
             refine EL_skip (.no2 rfl rfl d6 rfl) rfl ?_
             refine EL_skip (.no2 rfl rfl d6 rfl) rfl ?_
             refine EL_pur (v := .bool false) (P_pick (b := (u3 != z3)) rfl (pick_f d6 rfl)) .plain rfl ?_
             refine EL_nil ?_
             obtain rfl := sinj h
             exact hQ _ _ ⟨u4, hfr, n4, z1, d2, n0, p4, z2, y0, o3, i1, c4, j1, q2, u0, p3, rfl⟩
           ·clear hx
            obtain ⟨oL, hfr, mG, nG, oG, pG, qG, rG, sG, tG, uG, rD, sD, tD, uD, vD, d9⟩ := hR
            rcases csome h with ⟨x9, h⟩ | ⟨x9, h⟩
            ·refine E_cond_true (Eq.trans (show ev _ _ = .bool (t6) from d9) (congrArg Value.bool x9)) ?_
             refine E_seq (E_region (EL_at (.bool false) rfl rfl ?_))
             refine EL_nil (thn_n (E_ret (blk_r ?_)))
             refine blk_r ?_
             refine thn_r ?_
             refine thn_r ?_
             refine blk_r ?_
             refine blk_r ?_
             refine thn_r ?_
             refine thn_r ?_
             refine blk_r ?_
             refine thn_r ?_
             obtain rfl := sinj h
             exact end1 rfl rfl (show _ = .bool false from rfl) ⟨_, hfr, rfl⟩
            ·refine E_cond_false (Eq.trans (show ev _ _ = .bool (t6) from d9) (congrArg Value.bool x9)) ?_
             exact E_skip (blk_n (blk_n (thn_n (z6 () _ _ ⟨oL, hfr, mG, nG, oG, pG, qG, rG, sG, tG, uG, rD, sD, tD, uD, vD⟩ h))))
          ·refine E_cf u9 rfl ?_
           obtain ⟨u6, hx, h⟩ := bsome h
           refine E_join (fun e w => ∃ (g : Gh) , Fr gI wI g w ∧ e 3 = p5 ∧ OB 2003 g w 28 (y4 : FaultLoom) p5 ∧ e 4 = o4 ∧ OB 2004 g w 62 (y11 : FaultDamage) o4 ∧ e 5 = .int .i64 (((((t5).Design).Rows).length : Int)) ∧ e 6 = j3 ∧ RV g.m w (u5.1 : List Str) j3 ∧ e 8 = q3 ∧ RV g.m w (x5.1 : List Str) q3 ∧ e 10 = x4 ∧ RV g.m w (e6.1 : List Str) x4 ∧ e 12 = .int .i64 (d3) ∧ e 13 = .int .i64 (j0) ∧ e 14 = .int .i64 (s2) ∧ e 141 = .bool (u6)) (fun Q' hQ => ?_) (fun zO aS hR => ?_)
           ·replace h := hx
            clear hx
            refine L_loadO (x := .tmp 97) part_FaultDamage_1.1 Try.isAgg3 Try.sizeOf3 n0 fun bS pL q5 => ?_
            obtain rfl := RV_int.1 pL
            rcases csome h with ⟨o0, h⟩ | ⟨o0, h⟩
            ·obtain ⟨j4, i6, h⟩ := bsome h
             have qL := PT_idx y0 i6
             refine L_load (x := .tmp 103) Try.isAgg9 Try.sizeOf9 qL fun cS rL l6 => ?_
             obtain rfl := RV_str.1 rL
             obtain ⟨m4, j6, h⟩ := bsome h
             have sL := PT_idx i1 j6
             refine L_load (x := .tmp 107) Try.isAgg9 Try.sizeOf9 sL fun dS tL m6 => ?_
             obtain rfl := RV_str.1 tL
             rcases csome h with ⟨s3, h⟩ | ⟨s3, h⟩
             ·refine E_drawL (g := u4) (n := 46) [] [0, 1, 2, 3, 4, 5, 6, 7, 8, 9, 10, 11, 12, 13, 14, 15, 16, 17, 18, 19, 20, 21, 22, 23, 24, 25, 26, 27, 28, 29, 30, 31, 32, 33, 34, 35, 36, 37, 38, 39, 40, 41, 42, 43, 44, 45] rfl mixed (by kernel_rfl) trivial ?_
              refine L_pur (c := .int .i64 (j0)) rfl rfl .plain (fun _ _ hd => P_move u0) ?_
              refine L_pur (c := fPtr o4 1) rfl rfl .plain (fun _ _ hd => P_fieldAddr at_62_1 d2 (OB.ptr n0)) ?_
              refine L_ld (c := .int .i64 ((y11).Pick)) rfl rfl .plain (fun _ _ h => ⟨h.ch, fun b hb _ => h.below.block b hb⟩) q5 rfl ?_
              refine L_pur (c := .bool ((j0 == (y11).Pick))) rfl rfl .plain (fun _ _ hd => P_int rfl rfl rfl) ?_
              refine L_pur (c := .bool ((j0 == (y11).Pick))) rfl rfl .plain (fun _ _ hd => P_move rfl) ?_
              refine L_pur (c := j3) rfl rfl (.yes2 rfl rfl o0) (fun _ _ hd => P_move z2) ?_
              refine L_pur (c := .int .i64 (j0)) rfl rfl (.yes2 rfl rfl o0) (fun _ _ hd => P_move u0) ?_
              refine L_pur (c := ePtr j3 j0 1) rfl rfl (.yes2 rfl rfl o0) (fun _ _ hd => P_indexAddr (α := Str) Try.underlying36 Try.sizeOf9 rfl y0 rfl i6) ?_
              refine L_ld (c := Str.v (j4)) rfl rfl (.yes2 rfl rfl o0) (fun _ _ h => h.ch) l6 rfl ?_
              refine L_pur (c := q3) rfl rfl (.yes2 rfl rfl o0) (fun _ _ hd => P_move o3) ?_
              refine L_pur (c := .int .i64 (d3)) rfl rfl (.yes2 rfl rfl o0) (fun _ _ hd => P_move q2) ?_
              refine L_pur (c := ePtr q3 d3 1) rfl rfl (.yes2 rfl rfl o0) (fun _ _ hd => P_indexAddr (α := Str) Try.underlying36 Try.sizeOf9 rfl i1 rfl j6) ?_
              refine L_ld (c := Str.v (m4)) rfl rfl (.yes2 rfl rfl o0) (fun _ _ h => h.ch) m6 rfl ?_
              refine L_pur (c := .bool ((!((j4).b == (m4).b)))) rfl rfl (.yes2 rfl rfl o0) (fun _ _ hd => P_str rfl rfl rfl) ?_
              refine L_pur (c := .bool ((!((j4).b == (m4).b)))) rfl rfl .plain (fun _ _ hd => P_pick (b := (j0 == (y11).Pick)) rfl (pick_t o0 rfl)) ?_
              refine L_pur (c := .bool ((!((j4).b == (m4).b)))) rfl rfl .plain (fun _ _ hd => P_move rfl) ?_
              refine L_skip rfl (.no2 rfl rfl s3 rfl) ?_
              refine L_skip rfl (.no2 rfl rfl s3 rfl) ?_
              refine L_skip rfl (.no2 rfl rfl s3 rfl) ?_
              refine L_skip rfl (.no2 rfl rfl s3 rfl) ?_
              refine L_dead (fun _ => rfl) 10 rfl ?_
              refine L_skip rfl (.no2 rfl rfl s3 rfl) ?_
              refine L_pur (c := .bool true) rfl rfl .plain (fun _ _ hd => P_pick (b := (!((j4).b == (m4).b))) rfl (pick_t s3 rfl)) ?_
              refine L_dead (fun _ => rfl) 14 rfl ?_
              refine L_nil fun uL eS hall => ?_
              have hs := hall.1
              have hfr := hfr.ext hs
              have z1 := z1.ext hs
              have n0 := n0.ext hs
              have y0 := y0.ext hs
              have i1 := i1.ext hs
              have j1 := j1.ext hs
              clear hs hall
              refine EL_nil ?_
              obtain rfl := sinj h
              exact hQ _ _ ⟨uL, hfr, n4, z1, d2, n0, p4, z2, y0, o3, i1, c4, j1, q2, u0, p3, rfl⟩
             ·rcases csome h with ⟨i2, h⟩ | ⟨i2, h⟩
              ·obtain ⟨z4, e7, h⟩ := bsome h
               have vL := PT_idx y0 e7
               refine L_load (x := .tmp 118) Try.isAgg9 Try.sizeOf9 vL fun gS xL j8 => ?_
               obtain rfl := RV_str.1 xL
               refine L_loadO (x := .tmp 121) part_FaultDamage_1.1 Try.isAgg3 Try.sizeOf3 n0 fun iS yL k8 => ?_
               obtain rfl := RV_int.1 yL
               obtain ⟨c5, g7, h⟩ := bsome h
               have zL := PT_idx i1 g7
               refine L_load (x := .tmp 123) Try.isAgg9 Try.sizeOf9 zL fun jS aM l8 => ?_
               obtain rfl := RV_str.1 aM
               rcases csome h with ⟨d4, h⟩ | ⟨d4, h⟩
               ·refine E_drawL (g := u4) (n := 46) [] [0, 1, 2, 3, 4, 5, 6, 7, 8, 9, 10, 11, 12, 13, 14, 15, 16, 17, 18, 19, 20, 21, 22, 23, 24, 25, 26, 27, 28, 29, 30, 31, 32, 33, 34, 35, 36, 37, 38, 39, 40, 41, 42, 43, 44, 45] rfl mixed (by kernel_rfl) trivial ?_
                refine L_pur (c := .int .i64 (j0)) rfl rfl .plain (fun _ _ hd => P_move u0) ?_
                refine L_pur (c := fPtr o4 1) rfl rfl .plain (fun _ _ hd => P_fieldAddr at_62_1 d2 (OB.ptr n0)) ?_
                refine L_ld (c := .int .i64 ((y11).Pick)) rfl rfl .plain (fun _ _ h => ⟨h.ch, fun b hb _ => h.below.block b hb⟩) q5 rfl ?_
                refine L_pur (c := .bool ((j0 == (y11).Pick))) rfl rfl .plain (fun _ _ hd => P_int rfl rfl rfl) ?_
                refine L_pur (c := .bool ((j0 == (y11).Pick))) rfl rfl .plain (fun _ _ hd => P_move rfl) ?_
                refine L_pur (c := j3) rfl rfl (.yes2 rfl rfl o0) (fun _ _ hd => P_move z2) ?_
                refine L_pur (c := .int .i64 (j0)) rfl rfl (.yes2 rfl rfl o0) (fun _ _ hd => P_move u0) ?_
                refine L_pur (c := ePtr j3 j0 1) rfl rfl (.yes2 rfl rfl o0) (fun _ _ hd => P_indexAddr (α := Str) Try.underlying36 Try.sizeOf9 rfl y0 rfl i6) ?_
                refine L_ld (c := Str.v (j4)) rfl rfl (.yes2 rfl rfl o0) (fun _ _ h => h.ch) l6 rfl ?_
                refine L_pur (c := q3) rfl rfl (.yes2 rfl rfl o0) (fun _ _ hd => P_move o3) ?_
                refine L_pur (c := .int .i64 (d3)) rfl rfl (.yes2 rfl rfl o0) (fun _ _ hd => P_move q2) ?_
                refine L_pur (c := ePtr q3 d3 1) rfl rfl (.yes2 rfl rfl o0) (fun _ _ hd => P_indexAddr (α := Str) Try.underlying36 Try.sizeOf9 rfl i1 rfl j6) ?_
                refine L_ld (c := Str.v (m4)) rfl rfl (.yes2 rfl rfl o0) (fun _ _ h => h.ch) m6 rfl ?_
                refine L_pur (c := .bool ((!((j4).b == (m4).b)))) rfl rfl (.yes2 rfl rfl o0) (fun _ _ hd => P_str rfl rfl rfl) ?_
                refine L_pur (c := .bool ((!((j4).b == (m4).b)))) rfl rfl .plain (fun _ _ hd => P_pick (b := (j0 == (y11).Pick)) rfl (pick_t o0 rfl)) ?_
                refine L_pur (c := .bool ((!((j4).b == (m4).b)))) rfl rfl .plain (fun _ _ hd => P_move rfl) ?_
                refine L_pur (c := .int .i64 (j0)) rfl rfl (.yes2 rfl rfl s3) (fun _ _ hd => P_move u0) ?_
                refine L_pur (c := .int .i64 (d3)) rfl rfl (.yes2 rfl rfl s3) (fun _ _ hd => P_move q2) ?_
                refine L_pur (c := .bool ((j0 == d3))) rfl rfl (.yes2 rfl rfl s3) (fun _ _ hd => P_int rfl rfl rfl) ?_
                refine L_pur (c := .bool ((j0 == d3))) rfl rfl (.yes2 rfl rfl s3) (fun _ _ hd => P_move rfl) ?_
                refine L_pur (c := j3) rfl rfl (.yes2 rfl rfl i2) (fun _ _ hd => P_move z2) ?_
                refine L_pur (c := .int .i64 (j0)) rfl rfl (.yes2 rfl rfl i2) (fun _ _ hd => P_move u0) ?_
                refine L_pur (c := ePtr j3 j0 1) rfl rfl (.yes2 rfl rfl i2) (fun _ _ hd => P_indexAddr (α := Str) Try.underlying36 Try.sizeOf9 rfl y0 rfl e7) ?_
                refine L_ld (c := Str.v (z4)) rfl rfl (.yes2 rfl rfl i2) (fun _ _ h => h.ch) j8 rfl ?_
                refine L_pur (c := q3) rfl rfl (.yes2 rfl rfl i2) (fun _ _ hd => P_move o3) ?_
                refine L_pur (c := fPtr o4 1) rfl rfl (.yes2 rfl rfl i2) (fun _ _ hd => P_fieldAddr at_62_1 d2 (OB.ptr n0)) ?_
                refine L_ld (c := .int .i64 ((y11).Pick)) rfl rfl (.yes2 rfl rfl i2) (fun _ _ h => ⟨h.ch, fun b hb _ => h.below.block b hb⟩) k8 rfl ?_
                refine L_pur (c := ePtr q3 (y11).Pick 1) rfl rfl (.yes2 rfl rfl i2) (fun _ _ hd => P_indexAddr (α := Str) Try.underlying36 Try.sizeOf9 rfl i1 rfl g7) ?_
                refine L_ld (c := Str.v (c5)) rfl rfl (.yes2 rfl rfl i2) (fun _ _ h => h.ch) l8 rfl ?_
                refine L_pur (c := .bool ((!((z4).b == (c5).b)))) rfl rfl (.yes2 rfl rfl i2) (fun _ _ hd => P_str rfl rfl rfl) ?_
                refine L_pur (c := .bool ((!((z4).b == (c5).b)))) rfl rfl (.yes2 rfl rfl s3) (fun _ _ hd => P_pick (b := (j0 == d3)) rfl (pick_t i2 rfl)) ?_
                refine L_pur (c := .bool ((!((z4).b == (c5).b)))) rfl rfl .plain (fun _ _ hd => P_pick (b := (!((j4).b == (m4).b))) rfl (pick_f s3 rfl)) ?_
                refine L_pur (c := .bool ((!((z4).b == (c5).b)))) rfl rfl .plain (fun _ _ hd => P_move rfl) ?_
                refine L_skip rfl (.no2 rfl rfl d4 rfl) ?_
                refine L_skip rfl (.no2 rfl rfl d4 rfl) ?_
                refine L_skip rfl (.no2 rfl rfl d4 rfl) ?_
                refine L_skip rfl (.no2 rfl rfl d4 rfl) ?_
                refine L_skip rfl (.no2 rfl rfl d4 rfl) ?_
                refine L_dead (fun _ => rfl) 3 rfl ?_
                refine L_skip rfl (.no2 rfl rfl d4 rfl) ?_
                refine L_skip rfl (.no2 rfl rfl d4 rfl) ?_
                refine L_skip rfl (.off rfl rfl) ?_
                refine L_skip rfl (.no2 rfl rfl d4 rfl) ?_
                refine L_pur (c := .bool true) rfl rfl .plain (fun _ _ hd => P_pick (b := (!((z4).b == (c5).b))) rfl (pick_t d4 rfl)) ?_
                refine L_nil fun bM kS hall => ?_
                have hs := hall.1
                have hfr := hfr.ext hs
                have z1 := z1.ext hs
                have n0 := n0.ext hs
                have y0 := y0.ext hs
                have i1 := i1.ext hs
                have j1 := j1.ext hs
                clear hs hall
                refine EL_nil ?_
                obtain rfl := sinj h
                exact hQ _ _ ⟨bM, hfr, n4, z1, d2, n0, p4, z2, y0, o3, i1, c4, j1, q2, u0, p3, rfl⟩
               ·refine L_loadO (x := .tmp 130) part_FaultDamage_1.1 Try.isAgg3 Try.sizeOf3 n0 fun lS cM y9 => ?_
                obtain rfl := RV_int.1 cM
                rcases csome h with ⟨y5, h⟩ | ⟨y5, h⟩
                ·rcases csome h with ⟨i7, h⟩ | ⟨i7, h⟩
                 ·refine E_drawL (g := u4) (n := 46) [] [0, 1, 2, 3, 4, 5, 6, 7, 8, 9, 10, 11, 12, 13, 14, 15, 16, 17, 18, 19, 20, 21, 22, 23, 24, 25, 26, 27, 28, 29, 30, 31, 32, 33, 34, 35, 36, 37, 38, 39, 40, 41, 42, 43, 44, 45] rfl mixed (by kernel_rfl) trivial ?_
                  refine L_pur (c := .int .i64 (j0)) rfl rfl .plain (fun _ _ hd => P_move u0) ?_
                  refine L_pur (c := fPtr o4 1) rfl rfl .plain (fun _ _ hd => P_fieldAddr at_62_1 d2 (OB.ptr n0)) ?_
                  refine L_ld (c := .int .i64 ((y11).Pick)) rfl rfl .plain (fun _ _ h => ⟨h.ch, fun b hb _ => h.below.block b hb⟩) q5 rfl ?_
                  refine L_pur (c := .bool ((j0 == (y11).Pick))) rfl rfl .plain (fun _ _ hd => P_int rfl rfl rfl) ?_
                  refine L_pur (c := .bool ((j0 == (y11).Pick))) rfl rfl .plain (fun _ _ hd => P_move rfl) ?_
                  refine L_pur (c := j3) rfl rfl (.yes2 rfl rfl o0) (fun _ _ hd => P_move z2) ?_
                  refine L_pur (c := .int .i64 (j0)) rfl rfl (.yes2 rfl rfl o0) (fun _ _ hd => P_move u0) ?_
                  refine L_pur (c := ePtr j3 j0 1) rfl rfl (.yes2 rfl rfl o0) (fun _ _ hd => P_indexAddr (α := Str) Try.underlying36 Try.sizeOf9 rfl y0 rfl i6) ?_
                  refine L_ld (c := Str.v (j4)) rfl rfl (.yes2 rfl rfl o0) (fun _ _ h => h.ch) l6 rfl ?_
                  refine L_pur (c := q3) rfl rfl (.yes2 rfl rfl o0) (fun _ _ hd => P_move o3) ?_
                  refine L_pur (c := .int .i64 (d3)) rfl rfl (.yes2 rfl rfl o0) (fun _ _ hd => P_move q2) ?_
                  refine L_pur (c := ePtr q3 d3 1) rfl rfl (.yes2 rfl rfl o0) (fun _ _ hd => P_indexAddr (α := Str) Try.underlying36 Try.sizeOf9 rfl i1 rfl j6) ?_
                  refine L_ld (c := Str.v (m4)) rfl rfl (.yes2 rfl rfl o0) (fun _ _ h => h.ch) m6 rfl ?_
                  refine L_pur (c := .bool ((!((j4).b == (m4).b)))) rfl rfl (.yes2 rfl rfl o0) (fun _ _ hd => P_str rfl rfl rfl) ?_
                  refine L_pur (c := .bool ((!((j4).b == (m4).b)))) rfl rfl .plain (fun _ _ hd => P_pick (b := (j0 == (y11).Pick)) rfl (pick_t o0 rfl)) ?_
                  refine L_pur (c := .bool ((!((j4).b == (m4).b)))) rfl rfl .plain (fun _ _ hd => P_move rfl) ?_
                  refine L_pur (c := .int .i64 (j0)) rfl rfl (.yes2 rfl rfl s3) (fun _ _ hd => P_move u0) ?_
                  refine L_pur (c := .int .i64 (d3)) rfl rfl (.yes2 rfl rfl s3) (fun _ _ hd => P_move q2) ?_
                  refine L_pur (c := .bool ((j0 == d3))) rfl rfl (.yes2 rfl rfl s3) (fun _ _ hd => P_int rfl rfl rfl) ?_
                  refine L_pur (c := .bool ((j0 == d3))) rfl rfl (.yes2 rfl rfl s3) (fun _ _ hd => P_move rfl) ?_
                  refine L_pur (c := j3) rfl rfl (.yes2 rfl rfl i2) (fun _ _ hd => P_move z2) ?_
                  refine L_pur (c := .int .i64 (j0)) rfl rfl (.yes2 rfl rfl i2) (fun _ _ hd => P_move u0) ?_
                  refine L_pur (c := ePtr j3 j0 1) rfl rfl (.yes2 rfl rfl i2) (fun _ _ hd => P_indexAddr (α := Str) Try.underlying36 Try.sizeOf9 rfl y0 rfl e7) ?_
                  refine L_ld (c := Str.v (z4)) rfl rfl (.yes2 rfl rfl i2) (fun _ _ h => h.ch) j8 rfl ?_
                  refine L_pur (c := q3) rfl rfl (.yes2 rfl rfl i2) (fun _ _ hd => P_move o3) ?_
                  refine L_pur (c := fPtr o4 1) rfl rfl (.yes2 rfl rfl i2) (fun _ _ hd => P_fieldAddr at_62_1 d2 (OB.ptr n0)) ?_
                  refine L_ld (c := .int .i64 ((y11).Pick)) rfl rfl (.yes2 rfl rfl i2) (fun _ _ h => ⟨h.ch, fun b hb _ => h.below.block b hb⟩) k8 rfl ?_
                  refine L_pur (c := ePtr q3 (y11).Pick 1) rfl rfl (.yes2 rfl rfl i2) (fun _ _ hd => P_indexAddr (α := Str) Try.underlying36 Try.sizeOf9 rfl i1 rfl g7) ?_
                  refine L_ld (c := Str.v (c5)) rfl rfl (.yes2 rfl rfl i2) (fun _ _ h => h.ch) l8 rfl ?_
                  refine L_pur (c := .bool ((!((z4).b == (c5).b)))) rfl rfl (.yes2 rfl rfl i2) (fun _ _ hd => P_str rfl rfl rfl) ?_
                  refine L_pur (c := .bool ((!((z4).b == (c5).b)))) rfl rfl (.yes2 rfl rfl s3) (fun _ _ hd => P_pick (b := (j0 == d3)) rfl (pick_t i2 rfl)) ?_
                  refine L_pur (c := .bool ((!((z4).b == (c5).b)))) rfl rfl .plain (fun _ _ hd => P_pick (b := (!((j4).b == (m4).b))) rfl (pick_f s3 rfl)) ?_
                  refine L_pur (c := .bool ((!((z4).b == (c5).b)))) rfl rfl .plain (fun _ _ hd => P_move rfl) ?_
                  refine L_pur (c := .int .i64 (j0)) rfl rfl (.yes2 rfl rfl d4) (fun _ _ hd => P_move u0) ?_
                  refine L_pur (c := fPtr o4 1) rfl rfl (.yes2 rfl rfl d4) (fun _ _ hd => P_fieldAddr at_62_1 d2 (OB.ptr n0)) ?_
                  refine L_ld (c := .int .i64 ((y11).Pick)) rfl rfl (.yes2 rfl rfl d4) (fun _ _ h => ⟨h.ch, fun b hb _ => h.below.block b hb⟩) y9 rfl ?_
                  refine L_pur (c := .bool ((j0 != (y11).Pick))) rfl rfl (.yes2 rfl rfl d4) (fun _ _ hd => P_int rfl rfl rfl) ?_
                  refine L_pur (c := .bool ((j0 != (y11).Pick))) rfl rfl (.yes2 rfl rfl d4) (fun _ _ hd => P_move rfl) ?_
                  refine L_pur (c := .int .i64 (j0)) rfl rfl (.yes2 rfl rfl y5) (fun _ _ hd => P_move u0) ?_
                  refine L_pur (c := .int .i64 (d3)) rfl rfl (.yes2 rfl rfl y5) (fun _ _ hd => P_move q2) ?_
                  refine L_pur (c := .bool ((j0 != d3))) rfl rfl (.yes2 rfl rfl y5) (fun _ _ hd => P_int rfl rfl rfl) ?_
                  refine L_pur (c := .bool ((j0 != d3))) rfl rfl (.yes2 rfl rfl d4) (fun _ _ hd => P_pick (b := (j0 != (y11).Pick)) rfl (pick_t y5 rfl)) ?_
                  refine L_pur (c := .bool ((j0 != d3))) rfl rfl (.yes2 rfl rfl d4) (fun _ _ hd => P_move rfl) ?_
                  refine L_pur (c := .bool ((u3 != z3))) rfl rfl (.yes2 rfl rfl i7) (fun _ _ hd => P_move rfl) ?_
                  refine L_pur (c := .bool ((u3 != z3))) rfl rfl (.yes2 rfl rfl d4) (fun _ _ hd => P_pick (b := (j0 != d3)) rfl (pick_t i7 rfl)) ?_
                  refine L_pur (c := .bool ((u3 != z3))) rfl rfl .plain (fun _ _ hd => P_pick (b := (!((z4).b == (c5).b))) rfl (pick_f d4 rfl)) ?_
                  refine L_nil fun dM mS hall => ?_
                  have hs := hall.1
                  have hfr := hfr.ext hs
                  have z1 := z1.ext hs
                  have n0 := n0.ext hs
                  have y0 := y0.ext hs
                  have i1 := i1.ext hs
                  have j1 := j1.ext hs
                  clear hs hall
                  refine EL_nil ?_
                  obtain rfl := sinj h
                  exact hQ _ _ ⟨dM, hfr, n4, z1, d2, n0, p4, z2, y0, o3, i1, c4, j1, q2, u0, p3, rfl⟩
                 ·refine E_drawL (g := u4) (n := 46) [] [0, 1, 2, 3, 4, 5, 6, 7, 8, 9, 10, 11, 12, 13, 14, 15, 16, 17, 18, 19, 20, 21, 22, 23, 24, 25, 26, 27, 28, 29, 30, 31, 32, 33, 34, 35, 36, 37, 38, 39, 40, 41, 42, 43, 44, 45] rfl mixed (by kernel_rfl) trivial ?_
                  refine L_pur (c := .int .i64 (j0)) rfl rfl .plain (fun _ _ hd => P_move u0) ?_
                  refine L_pur (c := fPtr o4 1) rfl rfl .plain (fun _ _ hd => P_fieldAddr at_62_1 d2 (OB.ptr n0)) ?_
                  refine L_ld (c := .int .i64 ((y11).Pick)) rfl rfl .plain (fun _ _ h => ⟨h.ch, fun b hb _ => h.below.block b hb⟩) q5 rfl ?_
                  refine L_pur (c := .bool ((j0 == (y11).Pick))) rfl rfl .plain (fun _ _ hd => P_int rfl rfl rfl) ?_
                  refine L_pur (c := .bool ((j0 == (y11).Pick))) rfl rfl .plain (fun _ _ hd => P_move rfl) ?_
                  refine L_pur (c := j3) rfl rfl (.yes2 rfl rfl o0) (fun _ _ hd => P_move z2) ?_
                  refine L_pur (c := .int .i64 (j0)) rfl rfl (.yes2 rfl rfl o0) (fun _ _ hd => P_move u0) ?_
                  refine L_pur (c := ePtr j3 j0 1) rfl rfl (.yes2 rfl rfl o0) (fun _ _ hd => P_indexAddr (α := Str) Try.underlying36 Try.sizeOf9 rfl y0 rfl i6) ?_
                  refine L_ld (c := Str.v (j4)) rfl rfl (.yes2 rfl rfl o0) (fun _ _ h => h.ch) l6 rfl ?_
                  refine L_pur (c := q3) rfl rfl (.yes2 rfl rfl o0) (fun _ _ hd => P_move o3) ?_
                  refine L_pur (c := .int .i64 (d3)) rfl rfl (.yes2 rfl rfl o0) (fun _ _ hd => P_move q2) ?_
                  refine L_pur (c := ePtr q3 d3 1) rfl rfl (.yes2 rfl rfl o0) (fun _ _ hd => P_indexAddr (α := Str) Try.underlying36 Try.sizeOf9 rfl i1 rfl j6) ?_
                  refine L_ld (c := Str.v (m4)) rfl rfl (.yes2 rfl rfl o0) (fun _ _ h => h.ch) m6 rfl ?_
                  refine L_pur (c := .bool ((!((j4).b == (m4).b)))) rfl rfl (.yes2 rfl rfl o0) (fun _ _ hd => P_str rfl rfl rfl) ?_
                  refine L_pur (c := .bool ((!((j4).b == (m4).b)))) rfl rfl .plain (fun _ _ hd => P_pick (b := (j0 == (y11).Pick)) rfl (pick_t o0 rfl)) ?_
                  refine L_pur (c := .bool ((!((j4).b == (m4).b)))) rfl rfl .plain (fun _ _ hd => P_move rfl) ?_
                  refine L_pur (c := .int .i64 (j0)) rfl rfl (.yes2 rfl rfl s3) (fun _ _ hd => P_move u0) ?_
                  refine L_pur (c := .int .i64 (d3)) rfl rfl (.yes2 rfl rfl s3) (fun _ _ hd => P_move q2) ?_
                  refine L_pur (c := .bool ((j0 == d3))) rfl rfl (.yes2 rfl rfl s3) (fun _ _ hd => P_int rfl rfl rfl) ?_
                  refine L_pur (c := .bool ((j0 == d3))) rfl rfl (.yes2 rfl rfl s3) (fun _ _ hd => P_move rfl) ?_
                  refine L_pur (c := j3) rfl rfl (.yes2 rfl rfl i2) (fun _ _ hd => P_move z2) ?_
                  refine L_pur (c := .int .i64 (j0)) rfl rfl (.yes2 rfl rfl i2) (fun _ _ hd => P_move u0) ?_
                  refine L_pur (c := ePtr j3 j0 1) rfl rfl (.yes2 rfl rfl i2) (fun _ _ hd => P_indexAddr (α := Str) Try.underlying36 Try.sizeOf9 rfl y0 rfl e7) ?_
                  refine L_ld (c := Str.v (z4)) rfl rfl (.yes2 rfl rfl i2) (fun _ _ h => h.ch) j8 rfl ?_
                  refine L_pur (c := q3) rfl rfl (.yes2 rfl rfl i2) (fun _ _ hd => P_move o3) ?_
                  refine L_pur (c := fPtr o4 1) rfl rfl (.yes2 rfl rfl i2) (fun _ _ hd => P_fieldAddr at_62_1 d2 (OB.ptr n0)) ?_
                  refine L_ld (c := .int .i64 ((y11).Pick)) rfl rfl (.yes2 rfl rfl i2) (fun _ _ h => ⟨h.ch, fun b hb _ => h.below.block b hb⟩) k8 rfl ?_
                  refine L_pur (c := ePtr q3 (y11).Pick 1) rfl rfl (.yes2 rfl rfl i2) (fun _ _ hd => P_indexAddr (α := Str) Try.underlying36 Try.sizeOf9 rfl i1 rfl g7) ?_
                  refine L_ld (c := Str.v (c5)) rfl rfl (.yes2 rfl rfl i2) (fun _ _ h => h.ch) l8 rfl ?_
                  refine L_pur (c := .bool ((!((z4).b == (c5).b)))) rfl rfl (.yes2 rfl rfl i2) (fun _ _ hd => P_str rfl rfl rfl) ?_
                  refine L_pur (c := .bool ((!((z4).b == (c5).b)))) rfl rfl (.yes2 rfl rfl s3) (fun _ _ hd => P_pick (b := (j0 == d3)) rfl (pick_t i2 rfl)) ?_
                  refine L_pur (c := .bool ((!((z4).b == (c5).b)))) rfl rfl .plain (fun _ _ hd => P_pick (b := (!((j4).b == (m4).b))) rfl (pick_f s3 rfl)) ?_
                  refine L_pur (c := .bool ((!((z4).b == (c5).b)))) rfl rfl .plain (fun _ _ hd => P_move rfl) ?_
                  refine L_pur (c := .int .i64 (j0)) rfl rfl (.yes2 rfl rfl d4) (fun _ _ hd => P_move u0) ?_
                  refine L_pur (c := fPtr o4 1) rfl rfl (.yes2 rfl rfl d4) (fun _ _ hd => P_fieldAddr at_62_1 d2 (OB.ptr n0)) ?_
                  refine L_ld (c := .int .i64 ((y11).Pick)) rfl rfl (.yes2 rfl rfl d4) (fun _ _ h => ⟨h.ch, fun b hb _ => h.below.block b hb⟩) y9 rfl ?_
                  refine L_pur (c := .bool ((j0 != (y11).Pick))) rfl rfl (.yes2 rfl rfl d4) (fun _ _ hd => P_int rfl rfl rfl) ?_
                  refine L_pur (c := .bool ((j0 != (y11).Pick))) rfl rfl (.yes2 rfl rfl d4) (fun _ _ hd => P_move rfl) ?_
                  refine L_pur (c := .int .i64 (j0)) rfl rfl (.yes2 rfl rfl y5) (fun _ _ hd => P_move u0) ?_
                  refine L_pur (c := .int .i64 (d3)) rfl rfl (.yes2 rfl rfl y5) (fun _ _ hd => P_move q2) ?_
                  refine L_pur (c := .bool ((j0 != d3))) rfl rfl (.yes2 rfl rfl y5) (fun _ _ hd => P_int rfl rfl rfl) ?_
                  refine L_pur (c := .bool ((j0 != d3))) rfl rfl (.yes2 rfl rfl d4) (fun _ _ hd => P_pick (b := (j0 != (y11).Pick)) rfl (pick_t y5 rfl)) ?_
                  refine L_pur (c := .bool ((j0 != d3))) rfl rfl (.yes2 rfl rfl d4) (fun _ _ hd => P_move rfl) ?_
                  refine L_skip rfl (.no2 rfl rfl i7 rfl) ?_
                  refine L_pur (c := .bool false) rfl rfl (.yes2 rfl rfl d4) (fun _ _ hd => P_pick (b := (j0 != d3)) rfl (pick_f i7 rfl)) ?_
                  refine L_pur (c := .bool false) rfl rfl .plain (fun _ _ hd => P_pick (b := (!((z4).b == (c5).b))) rfl (pick_f d4 rfl)) ?_
                  refine L_nil fun eM nS hall => ?_
                  have hs := hall.1
                  have hfr := hfr.ext hs
                  have z1 := z1.ext hs
                  have n0 := n0.ext hs
                  have y0 := y0.ext hs
                  have i1 := i1.ext hs
                  have j1 := j1.ext hs
                  clear hs hall
                  refine EL_nil ?_
                  obtain rfl := sinj h
                  exact hQ _ _ ⟨eM, hfr, n4, z1, d2, n0, p4, z2, y0, o3, i1, c4, j1, q2, u0, p3, rfl⟩
                ·refine E_drawL (g := u4) (n := 46) [] [0, 1, 2, 3, 4, 5, 6, 7, 8, 9, 10, 11, 12, 13, 14, 15, 16, 17, 18, 19, 20, 21, 22, 23, 24, 25, 26, 27, 28, 29, 30, 31, 32, 33, 34, 35, 36, 37, 38, 39, 40, 41, 42, 43, 44, 45] rfl mixed (by kernel_rfl) trivial ?_
                 refine L_pur (c := .int .i64 (j0)) rfl rfl .plain (fun _ _ hd => P_move u0) ?_
                 refine L_pur (c := fPtr o4 1) rfl rfl .plain (fun _ _ hd => P_fieldAddr at_62_1 d2 (OB.ptr n0)) ?_
                 refine L_ld (c := .int .i64 ((y11).Pick)) rfl rfl .plain (fun _ _ h => ⟨h.ch, fun b hb _ => h.below.block b hb⟩) q5 rfl ?_
                 refine L_pur (c := .bool ((j0 == (y11).Pick))) rfl rfl .plain (fun _ _ hd => P_int rfl rfl rfl) ?_
                 refine L_pur (c := .bool ((j0 == (y11).Pick))) rfl rfl .plain (fun _ _ hd => P_move rfl) ?_
                 refine L_pur (c := j3) rfl rfl (.yes2 rfl rfl o0) (fun _ _ hd => P_move z2) ?_
                 refine L_pur (c := .int .i64 (j0)) rfl rfl (.yes2 rfl rfl o0) (fun _ _ hd => P_move u0) ?_
                 refine L_pur (c := ePtr j3 j0 1) rfl rfl (.yes2 rfl rfl o0) (fun _ _ hd => P_indexAddr (α := Str) Try.underlying36 Try.sizeOf9 rfl y0 rfl i6) ?_
                 refine L_ld (c := Str.v (j4)) rfl rfl (.yes2 rfl rfl o0) (fun _ _ h => h.ch) l6 rfl ?_
                 refine L_pur (c := q3) rfl rfl (.yes2 rfl rfl o0) (fun _ _ hd => P_move o3) ?_
                 refine L_pur (c := .int .i64 (d3)) rfl rfl (.yes2 rfl rfl o0) (fun _ _ hd => P_move q2) ?_
                 refine L_pur (c := ePtr q3 d3 1) rfl rfl (.yes2 rfl rfl o0) (fun _ _ hd => P_indexAddr (α := Str) Try.underlying36 Try.sizeOf9 rfl i1 rfl j6) ?_
                 refine L_ld (c := Str.v (m4)) rfl rfl (.yes2 rfl rfl o0) (fun _ _ h => h.ch) m6 rfl ?_
                 refine L_pur (c := .bool ((!((j4).b == (m4).b)))) rfl rfl (.yes2 rfl rfl o0) (fun _ _ hd => P_str rfl rfl rfl) ?_
                 refine L_pur (c := .bool ((!((j4).b == (m4).b)))) rfl rfl .plain (fun _ _ hd => P_pick (b := (j0 == (y11).Pick)) rfl (pick_t o0 rfl)) ?_
                 refine L_pur (c := .bool ((!((j4).b == (m4).b)))) rfl rfl .plain (fun _ _ hd => P_move rfl) ?_
                 refine L_pur (c := .int .i64 (j0)) rfl rfl (.yes2 rfl rfl s3) (fun _ _ hd => P_move u0) ?_
                 refine L_pur (c := .int .i64 (d3)) rfl rfl (.yes2 rfl rfl s3) (fun _ _ hd => P_move q2) ?_
                 refine L_pur (c := .bool ((j0 == d3))) rfl rfl (.yes2 rfl rfl s3) (fun _ _ hd => P_int rfl rfl rfl) ?_
                 refine L_pur (c := .bool ((j0 == d3))) rfl rfl (.yes2 rfl rfl s3) (fun _ _ hd => P_move rfl) ?_
                 refine L_pur (c := j3) rfl rfl (.yes2 rfl rfl i2) (fun _ _ hd => P_move z2) ?_
                 refine L_pur (c := .int .i64 (j0)) rfl rfl (.yes2 rfl rfl i2) (fun _ _ hd => P_move u0) ?_
                 refine L_pur (c := ePtr j3 j0 1) rfl rfl (.yes2 rfl rfl i2) (fun _ _ hd => P_indexAddr (α := Str) Try.underlying36 Try.sizeOf9 rfl y0 rfl e7) ?_
                 refine L_ld (c := Str.v (z4)) rfl rfl (.yes2 rfl rfl i2) (fun _ _ h => h.ch) j8 rfl ?_
                 refine L_pur (c := q3) rfl rfl (.yes2 rfl rfl i2) (fun _ _ hd => P_move o3) ?_
                 refine L_pur (c := fPtr o4 1) rfl rfl (.yes2 rfl rfl i2) (fun _ _ hd => P_fieldAddr at_62_1 d2 (OB.ptr n0)) ?_
                 refine L_ld (c := .int .i64 ((y11).Pick)) rfl rfl (.yes2 rfl rfl i2) (fun _ _ h => ⟨h.ch, fun b hb _ => h.below.block b hb⟩) k8 rfl ?_
                 refine L_pur (c := ePtr q3 (y11).Pick 1) rfl rfl (.yes2 rfl rfl i2) (fun _ _ hd => P_indexAddr (α := Str) Try.underlying36 Try.sizeOf9 rfl i1 rfl g7) ?_
                 refine L_ld (c := Str.v (c5)) rfl rfl (.yes2 rfl rfl i2) (fun _ _ h => h.ch) l8 rfl ?_
                 refine L_pur (c := .bool ((!((z4).b == (c5).b)))) rfl rfl (.yes2 rfl rfl i2) (fun _ _ hd => P_str rfl rfl rfl) ?_
                 refine L_pur (c := .bool ((!((z4).b == (c5).b)))) rfl rfl (.yes2 rfl rfl s3) (fun _ _ hd => P_pick (b := (j0 == d3)) rfl (pick_t i2 rfl)) ?_
                 refine L_pur (c := .bool ((!((z4).b == (c5).b)))) rfl rfl .plain (fun _ _ hd => P_pick (b := (!((j4).b == (m4).b))) rfl (pick_f s3 rfl)) ?_
                 refine L_pur (c := .bool ((!((z4).b == (c5).b)))) rfl rfl .plain (fun _ _ hd => P_move rfl) ?_
                 refine L_pur (c := .int .i64 (j0)) rfl rfl (.yes2 rfl rfl d4) (fun _ _ hd => P_move u0) ?_
                 refine L_pur (c := fPtr o4 1) rfl rfl (.yes2 rfl rfl d4) (fun _ _ hd => P_fieldAddr at_62_1 d2 (OB.ptr n0)) ?_
                 refine L_ld (c := .int .i64 ((y11).Pick)) rfl rfl (.yes2 rfl rfl d4) (fun _ _ h => ⟨h.ch, fun b hb _ => h.below.block b hb⟩) y9 rfl ?_
                 refine L_pur (c := .bool ((j0 != (y11).Pick))) rfl rfl (.yes2 rfl rfl d4) (fun _ _ hd => P_int rfl rfl rfl) ?_
                 refine L_pur (c := .bool ((j0 != (y11).Pick))) rfl rfl (.yes2 rfl rfl d4) (fun _ _ hd => P_move rfl) ?_
                 refine L_skip rfl (.no2 rfl rfl y5 rfl) ?_
                 refine L_skip rfl (.no2 rfl rfl y5 rfl) ?_
                 refine L_skip rfl (.no2 rfl rfl y5 rfl) ?_
                 refine L_pur (c := .bool false) rfl rfl (.yes2 rfl rfl d4) (fun _ _ hd => P_pick (b := (j0 != (y11).Pick)) rfl (pick_f y5 rfl)) ?_
                 refine L_pur (c := .bool false) rfl rfl (.yes2 rfl rfl d4) (fun _ _ hd => P_move rfl) ?_
                 refine L_skip rfl (.no2 rfl rfl rfl rfl) ?_
                 refine L_pur (c := .bool false) rfl rfl (.yes2 rfl rfl d4) (fun _ _ hd => P_pick (b := false) rfl (pick_f rfl rfl)) ?_
                 refine L_pur (c := .bool false) rfl rfl .plain (fun _ _ hd => P_pick (b := (!((z4).b == (c5).b))) rfl (pick_f d4 rfl)) ?_
                 refine L_nil fun gM oS hall => ?_
                 have hs := hall.1
                 have hfr := hfr.ext hs
                 have z1 := z1.ext hs
                 have n0 := n0.ext hs
                 have y0 := y0.ext hs
                 have i1 := i1.ext hs
                 have j1 := j1.ext hs
                 clear hs hall
                 refine EL_nil ?_
                 obtain rfl := sinj h
                 exact hQ _ _ ⟨gM, hfr, n4, z1, d2, n0, p4, z2, y0, o3, i1, c4, j1, q2, u0, p3, rfl⟩
              ·refine L_loadO (x := .tmp 130) part_FaultDamage_1.1 Try.isAgg3 Try.sizeOf3 n0 fun pS iM z9 => ?_
               obtain rfl := RV_int.1 iM
               rcases csome h with ⟨z5, h⟩ | ⟨z5, h⟩
               ·rcases csome h with ⟨j7, h⟩ | ⟨j7, h⟩
                ·refine E_drawL (g := u4) (n := 46) [] [0, 1, 2, 3, 4, 5, 6, 7, 8, 9, 10, 11, 12, 13, 14, 15, 16, 17, 18, 19, 20, 21, 22, 23, 24, 25, 26, 27, 28, 29, 30, 31, 32, 33, 34, 35, 36, 37, 38, 39, 40, 41, 42, 43, 44, 45] rfl mixed (by kernel_rfl) trivial ?_
                 refine L_pur (c := .int .i64 (j0)) rfl rfl .plain (fun _ _ hd => P_move u0) ?_
                 refine L_pur (c := fPtr o4 1) rfl rfl .plain (fun _ _ hd => P_fieldAddr at_62_1 d2 (OB.ptr n0)) ?_
                 refine L_ld (c := .int .i64 ((y11).Pick)) rfl rfl .plain (fun _ _ h => ⟨h.ch, fun b hb _ => h.below.block b hb⟩) q5 rfl ?_
                 refine L_pur (c := .bool ((j0 == (y11).Pick))) rfl rfl .plain (fun _ _ hd => P_int rfl rfl rfl) ?_
                 refine L_pur (c := .bool ((j0 == (y11).Pick))) rfl rfl .plain (fun _ _ hd => P_move rfl) ?_
                 refine L_pur (c := j3) rfl rfl (.yes2 rfl rfl o0) (fun _ _ hd => P_move z2) ?_
                 refine L_pur (c := .int .i64 (j0)) rfl rfl (.yes2 rfl rfl o0) (fun _ _ hd => P_move u0) ?_
                 refine L_pur (c := ePtr j3 j0 1) rfl rfl (.yes2 rfl rfl o0) (fun _ _ hd => P_indexAddr (α := Str) Try.underlying36 Try.sizeOf9 rfl y0 rfl i6) ?_
                 refine L_ld (c := Str.v (j4)) rfl rfl (.yes2 rfl rfl o0) (fun _ _ h => h.ch) l6 rfl ?_
                 refine L_pur (c := q3) rfl rfl (.yes2 rfl rfl o0) (fun _ _ hd => P_move o3) ?_
                 refine L_pur (c := .int .i64 (d3)) rfl rfl (.yes2 rfl rfl o0) (fun _ _ hd => P_move q2) ?_
                 refine L_pur (c := ePtr q3 d3 1) rfl rfl (.yes2 rfl rfl o0) (fun _ _ hd => P_indexAddr (α := Str) Try.underlying36 Try.sizeOf9 rfl i1 rfl j6) ?_
                 refine L_ld (c := Str.v (m4)) rfl rfl (.yes2 rfl rfl o0) (fun _ _ h => h.ch) m6 rfl ?_
                 refine L_pur (c := .bool ((!((j4).b == (m4).b)))) rfl rfl (.yes2 rfl rfl o0) (fun _ _ hd => P_str rfl rfl rfl) ?_
                 refine L_pur (c := .bool ((!((j4).b == (m4).b)))) rfl rfl .plain (fun _ _ hd => P_pick (b := (j0 == (y11).Pick)) rfl (pick_t o0 rfl)) ?_
                 refine L_pur (c := .bool ((!((j4).b == (m4).b)))) rfl rfl .plain (fun _ _ hd => P_move rfl) ?_
                 refine L_pur (c := .int .i64 (j0)) rfl rfl (.yes2 rfl rfl s3) (fun _ _ hd => P_move u0) ?_
                 refine L_pur (c := .int .i64 (d3)) rfl rfl (.yes2 rfl rfl s3) (fun _ _ hd => P_move q2) ?_
                 refine L_pur (c := .bool ((j0 == d3))) rfl rfl (.yes2 rfl rfl s3) (fun _ _ hd => P_int rfl rfl rfl) ?_
                 refine L_pur (c := .bool ((j0 == d3))) rfl rfl (.yes2 rfl rfl s3) (fun _ _ hd => P_move rfl) ?_
                 refine L_skip rfl (.no2 rfl rfl i2 rfl) ?_
                 refine L_skip rfl (.no2 rfl rfl i2 rfl) ?_
                 refine L_skip rfl (.no2 rfl rfl i2 rfl) ?_
                 refine L_skip rfl (.no2 rfl rfl i2 rfl) ?_
                 refine L_skip rfl (.no2 rfl rfl i2 rfl) ?_
                 refine L_skip rfl (.no2 rfl rfl i2 rfl) ?_
                 refine L_skip rfl (.no2 rfl rfl i2 rfl) ?_
                 refine L_skip rfl (.no2 rfl rfl i2 rfl) ?_
                 refine L_skip rfl (.no2 rfl rfl i2 rfl) ?_
                 refine L_skip rfl (.no2 rfl rfl i2 rfl) ?_
                 refine L_pur (c := .bool false) rfl rfl (.yes2 rfl rfl s3) (fun _ _ hd => P_pick (b := (j0 == d3)) rfl (pick_f i2 rfl)) ?_
                 refine L_pur (c := .bool false) rfl rfl .plain (fun _ _ hd => P_pick (b := (!((j4).b == (m4).b))) rfl (pick_f s3 rfl)) ?_
                 refine L_pur (c := .bool false) rfl rfl .plain (fun _ _ hd => P_move rfl) ?_
                 refine L_pur (c := .int .i64 (j0)) rfl rfl (.yes2 rfl rfl rfl) (fun _ _ hd => P_move u0) ?_
                 refine L_pur (c := fPtr o4 1) rfl rfl (.yes2 rfl rfl rfl) (fun _ _ hd => P_fieldAddr at_62_1 d2 (OB.ptr n0)) ?_
                 refine L_ld (c := .int .i64 ((y11).Pick)) rfl rfl (.yes2 rfl rfl rfl) (fun _ _ h => ⟨h.ch, fun b hb _ => h.below.block b hb⟩) z9 rfl ?_
                 refine L_pur (c := .bool ((j0 != (y11).Pick))) rfl rfl (.yes2 rfl rfl rfl) (fun _ _ hd => P_int rfl rfl rfl) ?_
                 refine L_pur (c := .bool ((j0 != (y11).Pick))) rfl rfl (.yes2 rfl rfl rfl) (fun _ _ hd => P_move rfl) ?_
                 refine L_pur (c := .int .i64 (j0)) rfl rfl (.yes2 rfl rfl z5) (fun _ _ hd => P_move u0) ?_
                 refine L_pur (c := .int .i64 (d3)) rfl rfl (.yes2 rfl rfl z5) (fun _ _ hd => P_move q2) ?_
                 refine L_pur (c := .bool ((j0 != d3))) rfl rfl (.yes2 rfl rfl z5) (fun _ _ hd => P_int rfl rfl rfl) ?_
                 refine L_pur (c := .bool ((j0 != d3))) rfl rfl (.yes2 rfl rfl rfl) (fun _ _ hd => P_pick (b := (j0 != (y11).Pick)) rfl (pick_t z5 rfl)) ?_
                 refine L_pur (c := .bool ((j0 != d3))) rfl rfl (.yes2 rfl rfl rfl) (fun _ _ hd => P_move rfl) ?_
                 refine L_pur (c := .bool ((u3 != z3))) rfl rfl (.yes2 rfl rfl j7) (fun _ _ hd => P_move rfl) ?_
                 refine L_pur (c := .bool ((u3 != z3))) rfl rfl (.yes2 rfl rfl rfl) (fun _ _ hd => P_pick (b := (j0 != d3)) rfl (pick_t j7 rfl)) ?_
                 refine L_pur (c := .bool ((u3 != z3))) rfl rfl .plain (fun _ _ hd => P_pick (b := false) rfl (pick_f rfl rfl)) ?_
                 refine L_nil fun jM qS hall => ?_
                 have hs := hall.1
                 have hfr := hfr.ext hs
                 have z1 := z1.ext hs
                 have n0 := n0.ext hs
                 have y0 := y0.ext hs
                 have i1 := i1.ext hs
                 have j1 := j1.ext hs
                 clear hs hall
                 refine EL_nil ?_
                 obtain rfl := sinj h
                 exact hQ _ _ ⟨jM, hfr, n4, z1, d2, n0, p4, z2, y0, o3, i1, c4, j1, q2, u0, p3, rfl⟩
                ·refine E_drawL (g := u4) (n := 46) [] [0, 1, 2, 3, 4, 5, 6, 7, 8, 9, 10, 11, 12, 13, 14, 15, 16, 17, 18, 19, 20, 21, 22, 23, 24, 25, 26, 27, 28, 29, 30, 31, 32, 33, 34, 35, 36, 37, 38, 39, 40, 41, 42, 43, 44, 45] rfl mixed (by kernel_rfl) trivial ?_
                 refine L_pur (c := .int .i64 (j0)) rfl rfl .plain (fun _ _ hd => P_move u0) ?_
                 refine L_pur (c := fPtr o4 1) rfl rfl .plain (fun _ _ hd => P_fieldAddr at_62_1 d2 (OB.ptr n0)) ?_
                 refine L_ld (c := .int .i64 ((y11).Pick)) rfl rfl .plain (fun _ _ h => ⟨h.ch, fun b hb _ => h.below.block b hb⟩) q5 rfl ?_
                 refine L_pur (c := .bool ((j0 == (y11).Pick))) rfl rfl .plain (fun _ _ hd => P_int rfl rfl rfl) ?_
                 refine L_pur (c := .bool ((j0 == (y11).Pick))) rfl rfl .plain (fun _ _ hd => P_move rfl) ?_
                 refine L_pur (c := j3) rfl rfl (.yes2 rfl rfl o0) (fun _ _ hd => P_move z2) ?_
                 refine L_pur (c := .int .i64 (j0)) rfl rfl (.yes2 rfl rfl o0) (fun _ _ hd => P_move u0) ?_
                 refine L_pur (c := ePtr j3 j0 1) rfl rfl (.yes2 rfl rfl o0) (fun _ _ hd => P_indexAddr (α := Str) Try.underlying36 Try.sizeOf9 rfl y0 rfl i6) ?_
                 refine L_ld (c := Str.v (j4)) rfl rfl (.yes2 rfl rfl o0) (fun _ _ h => h.ch) l6 rfl ?_
                 refine L_pur (c := q3) rfl rfl (.yes2 rfl rfl o0) (fun _ _ hd => P_move o3) ?_
                 refine L_pur (c := .int .i64 (d3)) rfl rfl (.yes2 rfl rfl o0) (fun _ _ hd => P_move q2) ?_
                 refine L_pur (c := ePtr q3 d3 1) rfl rfl (.yes2 rfl rfl o0) (fun _ _ hd => P_indexAddr (α := Str) Try.underlying36 Try.sizeOf9 rfl i1 rfl j6) ?_
                 refine L_ld (c := Str.v (m4)) rfl rfl (.yes2 rfl rfl o0) (fun _ _ h => h.ch) m6 rfl ?_
                 refine L_pur (c := .bool ((!((j4).b == (m4).b)))) rfl rfl (.yes2 rfl rfl o0) (fun _ _ hd => P_str rfl rfl rfl) ?_
                 refine L_pur (c := .bool ((!((j4).b == (m4).b)))) rfl rfl .plain (fun _ _ hd => P_pick (b := (j0 == (y11).Pick)) rfl (pick_t o0 rfl)) ?_
                 refine L_pur (c := .bool ((!((j4).b == (m4).b)))) rfl rfl .plain (fun _ _ hd => P_move rfl) ?_
                 refine L_pur (c := .int .i64 (j0)) rfl rfl (.yes2 rfl rfl s3) (fun _ _ hd => P_move u0) ?_
                 refine L_pur (c := .int .i64 (d3)) rfl rfl (.yes2 rfl rfl s3) (fun _ _ hd => P_move q2) ?_
                 refine L_pur (c := .bool ((j0 == d3))) rfl rfl (.yes2 rfl rfl s3) (fun _ _ hd => P_int rfl rfl rfl) ?_
                 refine L_pur (c := .bool ((j0 == d3))) rfl rfl (.yes2 rfl rfl s3) (fun _ _ hd => P_move rfl) ?_
                 refine L_skip rfl (.no2 rfl rfl i2 rfl) ?_
                 refine L_skip rfl (.no2 rfl rfl i2 rfl) ?_
                 refine L_skip rfl (.no2 rfl rfl i2 rfl) ?_
                 refine L_skip rfl (.no2 rfl rfl i2 rfl) ?_
                 refine L_skip rfl (.no2 rfl rfl i2 rfl) ?_
                 refine L_skip rfl (.no2 rfl rfl i2 rfl) ?_
                 refine L_skip rfl (.no2 rfl rfl i2 rfl) ?_
                 refine L_skip rfl (.no2 rfl rfl i2 rfl) ?_
                 refine L_skip rfl (.no2 rfl rfl i2 rfl) ?_
                 refine L_skip rfl (.no2 rfl rfl i2 rfl) ?_
                 refine L_pur (c := .bool false) rfl rfl (.yes2 rfl rfl s3) (fun _ _ hd => P_pick (b := (j0 == d3)) rfl (pick_f i2 rfl)) ?_
                 refine L_pur (c := .bool false) rfl rfl .plain (fun _ _ hd => P_pick (b := (!((j4).b == (m4).b))) rfl (pick_f s3 rfl)) ?_
                 refine L_pur (c := .bool false) rfl rfl .plain (fun _ _ hd => P_move rfl) ?_
                 refine L_pur (c := .int .i64 (j0)) rfl rfl (.yes2 rfl rfl rfl) (fun _ _ hd => P_move u0) ?_
                 refine L_pur (c := fPtr o4 1) rfl rfl (.yes2 rfl rfl rfl) (fun _ _ hd => P_fieldAddr at_62_1 d2 (OB.ptr n0)) ?_
                 refine L_ld (c := .int .i64 ((y11).Pick)) rfl rfl (.yes2 rfl rfl rfl) (fun _ _ h => ⟨h.ch, fun b hb _ => h.below.block b hb⟩) z9 rfl ?_
                 refine L_pur (c := .bool ((j0 != (y11).Pick))) rfl rfl (.yes2 rfl rfl rfl) (fun _ _ hd => P_int rfl rfl rfl) ?_
                 refine L_pur (c := .bool ((j0 != (y11).Pick))) rfl rfl (.yes2 rfl rfl rfl) (fun _ _ hd => P_move rfl) ?_
                 refine L_pur (c := .int .i64 (j0)) rfl rfl (.yes2 rfl rfl z5) (fun _ _ hd => P_move u0) ?_
                 refine L_pur (c := .int .i64 (d3)) rfl rfl (.yes2 rfl rfl z5) (fun _ _ hd => P_move q2) ?_
                 refine L_pur (c := .bool ((j0 != d3))) rfl rfl (.yes2 rfl rfl z5) (fun _ _ hd => P_int rfl rfl rfl) ?_
                 refine L_pur (c := .bool ((j0 != d3))) rfl rfl (.yes2 rfl rfl rfl) (fun _ _ hd => P_pick (b := (j0 != (y11).Pick)) rfl (pick_t z5 rfl)) ?_
                 refine L_pur (c := .bool ((j0 != d3))) rfl rfl (.yes2 rfl rfl rfl) (fun _ _ hd => P_move rfl) ?_
                 refine L_skip rfl (.no2 rfl rfl j7 rfl) ?_
                 refine L_pur (c := .bool false) rfl rfl (.yes2 rfl rfl rfl) (fun _ _ hd => P_pick (b := (j0 != d3)) rfl (pick_f j7 rfl)) ?_
                 refine L_pur (c := .bool false) rfl rfl .plain (fun _ _ hd => P_pick (b := false) rfl (pick_f rfl rfl)) ?_
                 refine L_nil fun kM rS hall => ?_
                 have hs := hall.1
                 have hfr := hfr.ext hs
                 have z1 := z1.ext hs
                 have n0 := n0.ext hs
                 have y0 := y0.ext hs
                 have i1 := i1.ext hs
                 have j1 := j1.ext hs
                 clear hs hall
                 refine EL_nil ?_
                 obtain rfl := sinj h
                 exact hQ _ _ ⟨kM, hfr, n4, z1, d2, n0, p4, z2, y0, o3, i1, c4, j1, q2, u0, p3, rfl⟩
               ·refine E_drawL (g := u4) (n := 46) [] [0, 1, 2, 3, 4, 5, 6, 7, 8, 9, 10, 11, 12, 13, 14, 15, 16, 17, 18, 19, 20, 21, 22, 23, 24, 25, 26, 27, 28, 29, 30, 31, 32, 33, 34, 35, 36, 37, 38, 39, 40, 41, 42, 43, 44, 45] rfl mixed (by kernel_rfl) trivial ?_
                refine L_pur (c := .int .i64 (j0)) rfl rfl .plain (fun _ _ hd => P_move u0) ?_
                refine L_pur (c := fPtr o4 1) rfl rfl .plain (fun _ _ hd => P_fieldAddr at_62_1 d2 (OB.ptr n0)) ?_
                refine L_ld (c := .int .i64 ((y11).Pick)) rfl rfl .plain (fun _ _ h => ⟨h.ch, fun b hb _ => h.below.block b hb⟩) q5 rfl ?_
                refine L_pur (c := .bool ((j0 == (y11).Pick))) rfl rfl .plain (fun _ _ hd => P_int rfl rfl rfl) ?_
                refine L_pur (c := .bool ((j0 == (y11).Pick))) rfl rfl .plain (fun _ _ hd => P_move rfl) ?_
                refine L_pur (c := j3) rfl rfl (.yes2 rfl rfl o0) (fun _ _ hd => P_move z2) ?_
                refine L_pur (c := .int .i64 (j0)) rfl rfl (.yes2 rfl rfl o0) (fun _ _ hd => P_move u0) ?_
                refine L_pur (c := ePtr j3 j0 1) rfl rfl (.yes2 rfl rfl o0) (fun _ _ hd => P_indexAddr (α := Str) Try.underlying36 Try.sizeOf9 rfl y0 rfl i6) ?_
                refine L_ld (c := Str.v (j4)) rfl rfl (.yes2 rfl rfl o0) (fun _ _ h => h.ch) l6 rfl ?_
                refine L_pur (c := q3) rfl rfl (.yes2 rfl rfl o0) (fun _ _ hd => P_move o3) ?_
                refine L_pur (c := .int .i64 (d3)) rfl rfl (.yes2 rfl rfl o0) (fun _ _ hd => P_move q2) ?_
                refine L_pur (c := ePtr q3 d3 1) rfl rfl (.yes2 rfl rfl o0) (fun _ _ hd => P_indexAddr (α := Str) Try.underlying36 Try.sizeOf9 rfl i1 rfl j6) ?_
                refine L_ld (c := Str.v (m4)) rfl rfl (.yes2 rfl rfl o0) (fun _ _ h => h.ch) m6 rfl ?_
                refine L_pur (c := .bool ((!((j4).b == (m4).b)))) rfl rfl (.yes2 rfl rfl o0) (fun _ _ hd => P_str rfl rfl rfl) ?_
                refine L_pur (c := .bool ((!((j4).b == (m4).b)))) rfl rfl .plain (fun _ _ hd => P_pick (b := (j0 == (y11).Pick)) rfl (pick_t o0 rfl)) ?_
                refine L_pur (c := .bool ((!((j4).b == (m4).b)))) rfl rfl .plain (fun _ _ hd => P_move rfl) ?_
                refine L_pur (c := .int .i64 (j0)) rfl rfl (.yes2 rfl rfl s3) (fun _ _ hd => P_move u0) ?_
                refine L_pur (c := .int .i64 (d3)) rfl rfl (.yes2 rfl rfl s3) (fun _ _ hd => P_move q2) ?_
                refine L_pur (c := .bool ((j0 == d3))) rfl rfl (.yes2 rfl rfl s3) (fun _ _ hd => P_int rfl rfl rfl) ?_
                refine L_pur (c := .bool ((j0 == d3))) rfl rfl (.yes2 rfl rfl s3) (fun _ _ hd => P_move rfl) ?_
                refine L_skip rfl (.no2 rfl rfl i2 rfl) ?_
                refine L_skip rfl (.no2 rfl rfl i2 rfl) ?_
                refine L_skip rfl (.no2 rfl rfl i2 rfl) ?_
                refine L_skip rfl (.no2 rfl rfl i2 rfl) ?_
                refine L_skip rfl (.no2 rfl rfl i2 rfl) ?_
                refine L_skip rfl (.no2 rfl rfl i2 rfl) ?_
                refine L_skip rfl (.no2 rfl rfl i2 rfl) ?_
                refine L_skip rfl (.no2 rfl rfl i2 rfl) ?_
                refine L_skip rfl (.no2 rfl rfl i2 rfl) ?_
                refine L_skip rfl (.no2 rfl rfl i2 rfl) ?_
                refine L_pur (c := .bool false) rfl rfl (.yes2 rfl rfl s3) (fun _ _ hd => P_pick (b := (j0 == d3)) rfl (pick_f i2 rfl)) ?_
                refine L_pur (c := .bool false) rfl rfl .plain (fun _ _ hd => P_pick (b := (!((j4).b == (m4).b))) rfl (pick_f s3 rfl)) ?_
                refine L_pur (c := .bool false) rfl rfl .plain (fun _ _ hd => P_move rfl) ?_
                refine L_pur (c := .int .i64 (j0)) rfl rfl (.yes2 rfl rfl rfl) (fun _ _ hd => P_move u0) ?_
                refine L_pur (c := fPtr o4 1) rfl rfl (.yes2 rfl rfl rfl) (fun _ _ hd => P_fieldAddr at_62_1 d2 (OB.ptr n0)) ?_
                refine L_ld (c := .int .i64 ((y11).Pick)) rfl rfl (.yes2 rfl rfl rfl) (fun _ _ h => ⟨h.ch, fun b hb _ => h.below.block b hb⟩) z9 rfl ?_
                refine L_pur (c := .bool ((j0 != (y11).Pick))) rfl rfl (.yes2 rfl rfl rfl) (fun _ _ hd => P_int rfl rfl rfl) ?_
                refine L_pur (c := .bool ((j0 != (y11).Pick))) rfl rfl (.yes2 rfl rfl rfl) (fun _ _ hd => P_move rfl) ?_
                refine L_skip rfl (.no2 rfl rfl z5 rfl) ?_
                refine L_skip rfl (.no2 rfl rfl z5 rfl) ?_
                refine L_skip rfl (.no2 rfl rfl z5 rfl) ?_
                refine L_pur (c := .bool false) rfl rfl (.yes2 rfl rfl rfl) (fun _ _ hd => P_pick (b := (j0 != (y11).Pick)) rfl (pick_f z5 rfl)) ?_
                refine L_pur (c := .bool false) rfl rfl (.yes2 rfl rfl rfl) (fun _ _ hd => P_move rfl) ?_
                refine L_skip rfl (.no2 rfl rfl rfl rfl) ?_
                refine L_pur (c := .bool false) rfl rfl (.yes2 rfl rfl rfl) (fun _ _ hd => P_pick (b := false) rfl (pick_f rfl rfl)) ?_
                refine L_pur (c := .bool false) rfl rfl .plain (fun _ _ hd => P_pick (b := false) rfl (pick_f rfl rfl)) ?_
                refine L_nil fun lM sS hall => ?_
                have hs := hall.1
                have hfr := hfr.ext hs
                have z1 := z1.ext hs
                have n0 := n0.ext hs
                have y0 := y0.ext hs
                have i1 := i1.ext hs
                have j1 := j1.ext hs
                clear hs hall
                refine EL_nil ?_
                obtain rfl := sinj h
                exact hQ _ _ ⟨lM, hfr, n4, z1, d2, n0, p4, z2, y0, o3, i1, c4, j1, q2, u0, p3, rfl⟩
            ·rcases csome h with ⟨j2, h⟩ | ⟨j2, h⟩
             ·obtain ⟨d5, l7, h⟩ := bsome h
              have mM := PT_idx y0 l7
              refine L_load (x := .tmp 118) Try.isAgg9 Try.sizeOf9 mM fun tS nM m8 => ?_
              obtain rfl := RV_str.1 nM
              refine L_loadO (x := .tmp 121) part_FaultDamage_1.1 Try.isAgg3 Try.sizeOf3 n0 fun uS oM n8 => ?_
              obtain rfl := RV_int.1 oM
              obtain ⟨i5, m7, h⟩ := bsome h
              have pM := PT_idx i1 m7
              refine L_load (x := .tmp 123) Try.isAgg9 Try.sizeOf9 pM fun vS qM o8 => ?_
              obtain rfl := RV_str.1 qM
              rcases csome h with ⟨i4, h⟩ | ⟨i4, h⟩
              ·refine E_drawL (g := u4) (n := 46) [] [0, 1, 2, 3, 4, 5, 6, 7, 8, 9, 10, 11, 12, 13, 14, 15, 16, 17, 18, 19, 20, 21, 22, 23, 24, 25, 26, 27, 28, 29, 30, 31, 32, 33, 34, 35, 36, 37, 38, 39, 40, 41, 42, 43, 44, 45] rfl mixed (by kernel_rfl) trivial ?_
               refine L_pur (c := .int .i64 (j0)) rfl rfl .plain (fun _ _ hd => P_move u0) ?_
               refine L_pur (c := fPtr o4 1) rfl rfl .plain (fun _ _ hd => P_fieldAddr at_62_1 d2 (OB.ptr n0)) ?_
               refine L_ld (c := .int .i64 ((y11).Pick)) rfl rfl .plain (fun _ _ h => ⟨h.ch, fun b hb _ => h.below.block b hb⟩) q5 rfl ?_
               refine L_pur (c := .bool ((j0 == (y11).Pick))) rfl rfl .plain (fun _ _ hd => P_int rfl rfl rfl) ?_
               refine L_pur (c := .bool ((j0 == (y11).Pick))) rfl rfl .plain (fun _ _ hd => P_move rfl) ?_
               refine L_skip rfl (.no2 rfl rfl o0 rfl) ?_
               refine L_skip rfl (.no2 rfl rfl o0 rfl) ?_
               refine L_skip rfl (.no2 rfl rfl o0 rfl) ?_
               refine L_skip rfl (.no2 rfl rfl o0 rfl) ?_
               refine L_skip rfl (.no2 rfl rfl o0 rfl) ?_
               refine L_skip rfl (.no2 rfl rfl o0 rfl) ?_
               refine L_skip rfl (.no2 rfl rfl o0 rfl) ?_
               refine L_skip rfl (.no2 rfl rfl o0 rfl) ?_
               refine L_skip rfl (.no2 rfl rfl o0 rfl) ?_
               refine L_pur (c := .bool false) rfl rfl .plain (fun _ _ hd => P_pick (b := (j0 == (y11).Pick)) rfl (pick_f o0 rfl)) ?_
               refine L_pur (c := .bool false) rfl rfl .plain (fun _ _ hd => P_move rfl) ?_
               refine L_pur (c := .int .i64 (j0)) rfl rfl (.yes2 rfl rfl rfl) (fun _ _ hd => P_move u0) ?_
               refine L_pur (c := .int .i64 (d3)) rfl rfl (.yes2 rfl rfl rfl) (fun _ _ hd => P_move q2) ?_
               refine L_pur (c := .bool ((j0 == d3))) rfl rfl (.yes2 rfl rfl rfl) (fun _ _ hd => P_int rfl rfl rfl) ?_
               refine L_pur (c := .bool ((j0 == d3))) rfl rfl (.yes2 rfl rfl rfl) (fun _ _ hd => P_move rfl) ?_
               refine L_pur (c := j3) rfl rfl (.yes2 rfl rfl j2) (fun _ _ hd => P_move z2) ?_
               refine L_pur (c := .int .i64 (j0)) rfl rfl (.yes2 rfl rfl j2) (fun _ _ hd => P_move u0) ?_
               refine L_pur (c := ePtr j3 j0 1) rfl rfl (.yes2 rfl rfl j2) (fun _ _ hd => P_indexAddr (α := Str) Try.underlying36 Try.sizeOf9 rfl y0 rfl l7) ?_
               refine L_ld (c := Str.v (d5)) rfl rfl (.yes2 rfl rfl j2) (fun _ _ h => h.ch) m8 rfl ?_
               refine L_pur (c := q3) rfl rfl (.yes2 rfl rfl j2) (fun _ _ hd => P_move o3) ?_
               refine L_pur (c := fPtr o4 1) rfl rfl (.yes2 rfl rfl j2) (fun _ _ hd => P_fieldAddr at_62_1 d2 (OB.ptr n0)) ?_
               refine L_ld (c := .int .i64 ((y11).Pick)) rfl rfl (.yes2 rfl rfl j2) (fun _ _ h => ⟨h.ch, fun b hb _ => h.below.block b hb⟩) n8 rfl ?_
               refine L_pur (c := ePtr q3 (y11).Pick 1) rfl rfl (.yes2 rfl rfl j2) (fun _ _ hd => P_indexAddr (α := Str) Try.underlying36 Try.sizeOf9 rfl i1 rfl m7) ?_
               refine L_ld (c := Str.v (i5)) rfl rfl (.yes2 rfl rfl j2) (fun _ _ h => h.ch) o8 rfl ?_
               refine L_pur (c := .bool ((!((d5).b == (i5).b)))) rfl rfl (.yes2 rfl rfl j2) (fun _ _ hd => P_str rfl rfl rfl) ?_
               refine L_pur (c := .bool ((!((d5).b == (i5).b)))) rfl rfl (.yes2 rfl rfl rfl) (fun _ _ hd => P_pick (b := (j0 == d3)) rfl (pick_t j2 rfl)) ?_
               refine L_pur (c := .bool ((!((d5).b == (i5).b)))) rfl rfl .plain (fun _ _ hd => P_pick (b := false) rfl (pick_f rfl rfl)) ?_
               refine L_pur (c := .bool ((!((d5).b == (i5).b)))) rfl rfl .plain (fun _ _ hd => P_move rfl) ?_
               refine L_skip rfl (.no2 rfl rfl i4 rfl) ?_
               refine L_skip rfl (.no2 rfl rfl i4 rfl) ?_
               refine L_skip rfl (.no2 rfl rfl i4 rfl) ?_
               refine L_skip rfl (.no2 rfl rfl i4 rfl) ?_
               refine L_skip rfl (.no2 rfl rfl i4 rfl) ?_
               refine L_dead (fun _ => rfl) 3 rfl ?_
               refine L_skip rfl (.no2 rfl rfl i4 rfl) ?_
               refine L_skip rfl (.no2 rfl rfl i4 rfl) ?_
               refine L_skip rfl (.off rfl rfl) ?_
               refine L_skip rfl (.no2 rfl rfl i4 rfl) ?_
               refine L_pur (c := .bool true) rfl rfl .plain (fun _ _ hd => P_pick (b := (!((d5).b == (i5).b))) rfl (pick_t i4 rfl)) ?_
               refine L_nil fun rM xS hall => ?_
               have hs := hall.1
               have hfr := hfr.ext hs
               have z1 := z1.ext hs
               have n0 := n0.ext hs
               have y0 := y0.ext hs
               have i1 := i1.ext hs
               have j1 := j1.ext hs
               clear hs hall
               refine EL_nil ?_
               obtain rfl := sinj h
               exact hQ _ _ ⟨rM, hfr, n4, z1, d2, n0, p4, z2, y0, o3, i1, c4, j1, q2, u0, p3, rfl⟩
              ·refine L_loadO (x := .tmp 130) part_FaultDamage_1.1 Try.isAgg3 Try.sizeOf3 n0 fun yS sM aA => ?_
               obtain rfl := RV_int.1 sM
               rcases csome h with ⟨a6, h⟩ | ⟨a6, h⟩
               ·rcases csome h with ⟨n7, h⟩ | ⟨n7, h⟩
                ·refine E_drawL (g := u4) (n := 46) [] [0, 1, 2, 3, 4, 5, 6, 7, 8, 9, 10, 11, 12, 13, 14, 15, 16, 17, 18, 19, 20, 21, 22, 23, 24, 25, 26, 27, 28, 29, 30, 31, 32, 33, 34, 35, 36, 37, 38, 39, 40, 41, 42, 43, 44, 45] rfl mixed (by kernel_rfl) trivial ?_
                 refine L_pur (c := .int .i64 (j0)) rfl rfl .plain (fun _ _ hd => P_move u0) ?_
                 refine L_pur (c := fPtr o4 1) rfl rfl .plain (fun _ _ hd => P_fieldAddr at_62_1 d2 (OB.ptr n0)) ?_
                 refine L_ld (c := .int .i64 ((y11).Pick)) rfl rfl .plain (fun _ _ h => ⟨h.ch, fun b hb _ => h.below.block b hb⟩) q5 rfl ?_
                 refine L_pur (c := .bool ((j0 == (y11).Pick))) rfl rfl .plain (fun _ _ hd => P_int rfl rfl rfl) ?_
                 refine L_pur (c := .bool ((j0 == (y11).Pick))) rfl rfl .plain (fun _ _ hd => P_move rfl) ?_
                 refine L_skip rfl (.no2 rfl rfl o0 rfl) ?_
                 refine L_skip rfl (.no2 rfl rfl o0 rfl) ?_
                 refine L_skip rfl (.no2 rfl rfl o0 rfl) ?_
                 refine L_skip rfl (.no2 rfl rfl o0 rfl) ?_
                 refine L_skip rfl (.no2 rfl rfl o0 rfl) ?_
                 refine L_skip rfl (.no2 rfl rfl o0 rfl) ?_
                 refine L_skip rfl (.no2 rfl rfl o0 rfl) ?_
                 refine L_skip rfl (.no2 rfl rfl o0 rfl) ?_
                 refine L_skip rfl (.no2 rfl rfl o0 rfl) ?_
                 refine L_pur (c := .bool false) rfl rfl .plain (fun _ _ hd => P_pick (b := (j0 == (y11).Pick)) rfl (pick_f o0 rfl)) ?_
                 refine L_pur (c := .bool false) rfl rfl .plain (fun _ _ hd => P_move rfl) ?_
                 refine L_pur (c := .int .i64 (j0)) rfl rfl (.yes2 rfl rfl rfl) (fun _ _ hd => P_move u0) ?_
                 refine L_pur (c := .int .i64 (d3)) rfl rfl (.yes2 rfl rfl rfl) (fun _ _ hd => P_move q2) ?_
                 refine L_pur (c := .bool ((j0 == d3))) rfl rfl (.yes2 rfl rfl rfl) (fun _ _ hd => P_int rfl rfl rfl) ?_
                 refine L_pur (c := .bool ((j0 == d3))) rfl rfl (.yes2 rfl rfl rfl) (fun _ _ hd => P_move rfl) ?_
                 refine L_pur (c := j3) rfl rfl (.yes2 rfl rfl j2) (fun _ _ hd => P_move z2) ?_
                 refine L_pur (c := .int .i64 (j0)) rfl rfl (.yes2 rfl rfl j2) (fun _ _ hd => P_move u0) ?_
                 refine L_pur (c := ePtr j3 j0 1) rfl rfl (.yes2 rfl rfl j2) (fun _ _ hd => P_indexAddr (α := Str) Try.underlying36 Try.sizeOf9 rfl y0 rfl l7) ?_
                 refine L_ld (c := Str.v (d5)) rfl rfl (.yes2 rfl rfl j2) (fun _ _ h => h.ch) m8 rfl ?_
                 refine L_pur (c := q3) rfl rfl (.yes2 rfl rfl j2) (fun _ _ hd => P_move o3) ?_
                 refine L_pur (c := fPtr o4 1) rfl rfl (.yes2 rfl rfl j2) (fun _ _ hd => P_fieldAddr at_62_1 d2 (OB.ptr n0)) ?_
                 refine L_ld (c := .int .i64 ((y11).Pick)) rfl rfl (.yes2 rfl rfl j2) (fun _ _ h => ⟨h.ch, fun b hb _ => h.below.block b hb⟩) n8 rfl ?_
                 refine L_pur (c := ePtr q3 (y11).Pick 1) rfl rfl (.yes2 rfl rfl j2) (fun _ _ hd => P_indexAddr (α := Str) Try.underlying36 Try.sizeOf9 rfl i1 rfl m7) ?_
                 refine L_ld (c := Str.v (i5)) rfl rfl (.yes2 rfl rfl j2) (fun _ _ h => h.ch) o8 rfl ?_
                 refine L_pur (c := .bool ((!((d5).b == (i5).b)))) rfl rfl (.yes2 rfl rfl j2) (fun _ _ hd => P_str rfl rfl rfl) ?_
                 refine L_pur (c := .bool ((!((d5).b == (i5).b)))) rfl rfl (.yes2 rfl rfl rfl) (fun _ _ hd => P_pick (b := (j0 == d3)) rfl (pick_t j2 rfl)) ?_
                 refine L_pur (c := .bool ((!((d5).b == (i5).b)))) rfl rfl .plain (fun _ _ hd => P_pick (b := false) rfl (pick_f rfl rfl)) ?_
                 refine L_pur (c := .bool ((!((d5).b == (i5).b)))) rfl rfl .plain (fun _ _ hd => P_move rfl) ?_
                 refine L_pur (c := .int .i64 (j0)) rfl rfl (.yes2 rfl rfl i4) (fun _ _ hd => P_move u0) ?_
                 refine L_pur (c := fPtr o4 1) rfl rfl (.yes2 rfl rfl i4) (fun _ _ hd => P_fieldAddr at_62_1 d2 (OB.ptr n0)) ?_
                 refine L_ld (c := .int .i64 ((y11).Pick)) rfl rfl (.yes2 rfl rfl i4) (fun _ _ h => ⟨h.ch, fun b hb _ => h.below.block b hb⟩) aA rfl ?_
                 refine L_pur (c := .bool ((j0 != (y11).Pick))) rfl rfl (.yes2 rfl rfl i4) (fun _ _ hd => P_int rfl rfl rfl) ?_
                 refine L_pur (c := .bool ((j0 != (y11).Pick))) rfl rfl (.yes2 rfl rfl i4) (fun _ _ hd => P_move rfl) ?_
                 refine L_pur (c := .int .i64 (j0)) rfl rfl (.yes2 rfl rfl a6) (fun _ _ hd => P_move u0) ?_
                 refine L_pur (c := .int .i64 (d3)) rfl rfl (.yes2 rfl rfl a6) (fun _ _ hd => P_move q2) ?_
                 refine L_pur (c := .bool ((j0 != d3))) rfl rfl (.yes2 rfl rfl a6) (fun _ _ hd => P_int rfl rfl rfl) ?_
                 refine L_pur (c := .bool ((j0 != d3))) rfl rfl (.yes2 rfl rfl i4) (fun _ _ hd => P_pick (b := (j0 != (y11).Pick)) rfl (pick_t a6 rfl)) ?_
                 refine L_pur (c := .bool ((j0 != d3))) rfl rfl (.yes2 rfl rfl i4) (fun _ _ hd => P_move rfl) ?_
                 refine L_pur (c := .bool ((u3 != z3))) rfl rfl (.yes2 rfl rfl n7) (fun _ _ hd => P_move rfl) ?_
                 refine L_pur (c := .bool ((u3 != z3))) rfl rfl (.yes2 rfl rfl i4) (fun _ _ hd => P_pick (b := (j0 != d3)) rfl (pick_t n7 rfl)) ?_
                 refine L_pur (c := .bool ((u3 != z3))) rfl rfl .plain (fun _ _ hd => P_pick (b := (!((d5).b == (i5).b))) rfl (pick_f i4 rfl)) ?_
                 refine L_nil fun tM zS hall => ?_
                 have hs := hall.1
                 have hfr := hfr.ext hs
                 have z1 := z1.ext hs
                 have n0 := n0.ext hs
                 have y0 := y0.ext hs
                 have i1 := i1.ext hs
                 have j1 := j1.ext hs
                 clear hs hall
                 refine EL_nil ?_
                 obtain rfl := sinj h
                 exact hQ _ _ ⟨tM, hfr, n4, z1, d2, n0, p4, z2, y0, o3, i1, c4, j1, q2, u0, p3, rfl⟩
                ·refine E_drawL (g := u4) (n := 46) [] [0, 1, 2, 3, 4, 5, 6, 7, 8, 9, 10, 11, 12, 13, 14, 15, 16, 17, 18, 19, 20, 21, 22, 23, 24, 25, 26, 27, 28, 29, 30, 31, 32, 33, 34, 35, 36, 37, 38, 39, 40, 41, 42, 43, 44, 45] rfl mixed (by kernel_rfl) trivial ?_
                 refine L_pur (c := .int .i64 (j0)) rfl rfl .plain (fun _ _ hd => P_move u0) ?_
                 refine L_pur (c := fPtr o4 1) rfl rfl .plain (fun _ _ hd => P_fieldAddr at_62_1 d2 (OB.ptr n0)) ?_
                 refine L_ld (c := .int .i64 ((y11).Pick)) rfl rfl .plain (fun _ _ h => ⟨h.ch, fun b hb _ => h.below.block b hb⟩) q5 rfl ?_
                 refine L_pur (c := .bool ((j0 == (y11).Pick))) rfl rfl .plain (fun _ _ hd => P_int rfl rfl rfl) ?_
                 refine L_pur (c := .bool ((j0 == (y11).Pick))) rfl rfl .plain (fun _ _ hd => P_move rfl) ?_
                 refine L_skip rfl (.no2 rfl rfl o0 rfl) ?_
                 refine L_skip rfl (.no2 rfl rfl o0 rfl) ?_
                 refine L_skip rfl (.no2 rfl rfl o0 rfl) ?_
                 refine L_skip rfl (.no2 rfl rfl o0 rfl) ?_
                 refine L_skip rfl (.no2 rfl rfl o0 rfl) ?_
                 refine L_skip rfl (.no2 rfl rfl o0 rfl) ?_
                 refine L_skip rfl (.no2 rfl rfl o0 rfl) ?_
                 refine L_skip rfl (.no2 rfl rfl o0 rfl) ?_
                 refine L_skip rfl (.no2 rfl rfl o0 rfl) ?_
                 refine L_pur (c := .bool false) rfl rfl .plain (fun _ _ hd => P_pick (b := (j0 == (y11).Pick)) rfl (pick_f o0 rfl)) ?_
                 refine L_pur (c := .bool false) rfl rfl .plain (fun _ _ hd => P_move rfl) ?_
                 refine L_pur (c := .int .i64 (j0)) rfl rfl (.yes2 rfl rfl rfl) (fun _ _ hd => P_move u0) ?_
                 refine L_pur (c := .int .i64 (d3)) rfl rfl (.yes2 rfl rfl rfl) (fun _ _ hd => P_move q2) ?_
                 refine L_pur (c := .bool ((j0 == d3))) rfl rfl (.yes2 rfl rfl rfl) (fun _ _ hd => P_int rfl rfl rfl) ?_
                 refine L_pur (c := .bool ((j0 == d3))) rfl rfl (.yes2 rfl rfl rfl) (fun _ _ hd => P_move rfl) ?_
                 refine L_pur (c := j3) rfl rfl (.yes2 rfl rfl j2) (fun _ _ hd => P_move z2) ?_
                 refine L_pur (c := .int .i64 (j0)) rfl rfl (.yes2 rfl rfl j2) (fun _ _ hd => P_move u0) ?_
                 refine L_pur (c := ePtr j3 j0 1) rfl rfl (.yes2 rfl rfl j2) (fun _ _ hd => P_indexAddr (α := Str) Try.underlying36 Try.sizeOf9 rfl y0 rfl l7) ?_
                 refine L_ld (c := Str.v (d5)) rfl rfl (.yes2 rfl rfl j2) (fun _ _ h => h.ch) m8 rfl ?_
                 refine L_pur (c := q3) rfl rfl (.yes2 rfl rfl j2) (fun _ _ hd => P_move o3) ?_
                 refine L_pur (c := fPtr o4 1) rfl rfl (.yes2 rfl rfl j2) (fun _ _ hd => P_fieldAddr at_62_1 d2 (OB.ptr n0)) ?_
                 refine L_ld (c := .int .i64 ((y11).Pick)) rfl rfl (.yes2 rfl rfl j2) (fun _ _ h => ⟨h.ch, fun b hb _ => h.below.block b hb⟩) n8 rfl ?_
                 refine L_pur (c := ePtr q3 (y11).Pick 1) rfl rfl (.yes2 rfl rfl j2) (fun _ _ hd => P_indexAddr (α := Str) Try.underlying36 Try.sizeOf9 rfl i1 rfl m7) ?_
                 refine L_ld (c := Str.v (i5)) rfl rfl (.yes2 rfl rfl j2) (fun _ _ h => h.ch) o8 rfl ?_
                 refine L_pur (c := .bool ((!((d5).b == (i5).b)))) rfl rfl (.yes2 rfl rfl j2) (fun _ _ hd => P_str rfl rfl rfl) ?_
                 refine L_pur (c := .bool ((!((d5).b == (i5).b)))) rfl rfl (.yes2 rfl rfl rfl) (fun _ _ hd => P_pick (b := (j0 == d3)) rfl (pick_t j2 rfl)) ?_
                 refine L_pur (c := .bool ((!((d5).b == (i5).b)))) rfl rfl .plain (fun _ _ hd => P_pick (b := false) rfl (pick_f rfl rfl)) ?_
                 refine L_pur (c := .bool ((!((d5).b == (i5).b)))) rfl rfl .plain (fun _ _ hd => P_move rfl) ?_
                 refine L_pur (c := .int .i64 (j0)) rfl rfl (.yes2 rfl rfl i4) (fun _ _ hd => P_move u0) ?_
                 refine L_pur (c := fPtr o4 1) rfl rfl (.yes2 rfl rfl i4) (fun _ _ hd => P_fieldAddr at_62_1 d2 (OB.ptr n0)) ?_
                 refine L_ld (c := .int .i64 ((y11).Pick)) rfl rfl (.yes2 rfl rfl i4) (fun _ _ h => ⟨h.ch, fun b hb _ => h.below.block b hb⟩) aA rfl ?_
                 refine L_pur (c := .bool ((j0 != (y11).Pick))) rfl rfl (.yes2 rfl rfl i4) (fun _ _ hd => P_int rfl rfl rfl) ?_
                 refine L_pur (c := .bool ((j0 != (y11).Pick))) rfl rfl (.yes2 rfl rfl i4) (fun _ _ hd => P_move rfl) ?_
                 refine L_pur (c := .int .i64 (j0)) rfl rfl (.yes2 rfl rfl a6) (fun _ _ hd => P_move u0) ?_
                 refine L_pur (c := .int .i64 (d3)) rfl rfl (.yes2 rfl rfl a6) (fun _ _ hd => P_move q2) ?_
                 refine L_pur (c := .bool ((j0 != d3))) rfl rfl (.yes2 rfl rfl a6) (fun _ _ hd => P_int rfl rfl rfl) ?_
                 refine L_pur (c := .bool ((j0 != d3))) rfl rfl (.yes2 rfl rfl i4) (fun _ _ hd => P_pick (b := (j0 != (y11).Pick)) rfl (pick_t a6 rfl)) ?_
                 refine L_pur (c := .bool ((j0 != d3))) rfl rfl (.yes2 rfl rfl i4) (fun _ _ hd => P_move rfl) ?_
                 refine L_skip rfl (.no2 rfl rfl n7 rfl) ?_
                 refine L_pur (c := .bool false) rfl rfl (.yes2 rfl rfl i4) (fun _ _ hd => P_pick (b := (j0 != d3)) rfl (pick_f n7 rfl)) ?_
                 refine L_pur (c := .bool false) rfl rfl .plain (fun _ _ hd => P_pick (b := (!((d5).b == (i5).b))) rfl (pick_f i4 rfl)) ?_
                 refine L_nil fun uM aT hall => ?_
                 have hs := hall.1
                 have hfr := hfr.ext hs
                 have z1 := z1.ext hs
                 have n0 := n0.ext hs
                 have y0 := y0.ext hs
                 have i1 := i1.ext hs
                 have j1 := j1.ext hs
                 clear hs hall
                 refine EL_nil ?_
                 obtain rfl := sinj h
                 exact hQ _ _ ⟨uM, hfr, n4, z1, d2, n0, p4, z2, y0, o3, i1, c4, j1, q2, u0, p3, rfl⟩
               ·refine E_drawL (g := u4) (n := 46) [] [0, 1, 2, 3, 4, 5, 6, 7, 8, 9, 10, 11, 12, 13, 14, 15, 16, 17, 18, 19, 20, 21, 22, 23, 24, 25, 26, 27, 28, 29, 30, 31, 32, 33, 34, 35, 36, 37, 38, 39, 40, 41, 42, 43, 44, 45] rfl mixed (by kernel_rfl) trivial ?_
                refine L_pur (c := .int .i64 (j0)) rfl rfl .plain (fun _ _ hd => P_move u0) ?_
                refine L_pur (c := fPtr o4 1) rfl rfl .plain (fun _ _ hd => P_fieldAddr at_62_1 d2 (OB.ptr n0)) ?_
                refine L_ld (c := .int .i64 ((y11).Pick)) rfl rfl .plain (fun _ _ h => ⟨h.ch, fun b hb _ => h.below.block b hb⟩) q5 rfl ?_
                refine L_pur (c := .bool ((j0 == (y11).Pick))) rfl rfl .plain (fun _ _ hd => P_int rfl rfl rfl) ?_
                refine L_pur (c := .bool ((j0 == (y11).Pick))) rfl rfl .plain (fun _ _ hd => P_move rfl) ?_
                refine L_skip rfl (.no2 rfl rfl o0 rfl) ?_
                refine L_skip rfl (.no2 rfl rfl o0 rfl) ?_
                refine L_skip rfl (.no2 rfl rfl o0 rfl) ?_
                refine L_skip rfl (.no2 rfl rfl o0 rfl) ?_
                refine L_skip rfl (.no2 rfl rfl o0 rfl) ?_
                refine L_skip rfl (.no2 rfl rfl o0 rfl) ?_
                refine L_skip rfl (.no2 rfl rfl o0 rfl) ?_
                refine L_skip rfl (.no2 rfl rfl o0 rfl) ?_
                refine L_skip rfl (.no2 rfl rfl o0 rfl) ?_
                refine L_pur (c := .bool false) rfl rfl .plain (fun _ _ hd => P_pick (b := (j0 == (y11).Pick)) rfl (pick_f o0 rfl)) ?_
                refine L_pur (c := .bool false) rfl rfl .plain (fun _ _ hd => P_move rfl) ?_
                refine L_pur (c := .int .i64 (j0)) rfl rfl (.yes2 rfl rfl rfl) (fun _ _ hd => P_move u0) ?_
                refine L_pur (c := .int .i64 (d3)) rfl rfl (.yes2 rfl rfl rfl) (fun _ _ hd => P_move q2) ?_
                refine L_pur (c := .bool ((j0 == d3))) rfl rfl (.yes2 rfl rfl rfl) (fun _ _ hd => P_int rfl rfl rfl) ?_
                refine L_pur (c := .bool ((j0 == d3))) rfl rfl (.yes2 rfl rfl rfl) (fun _ _ hd => P_move rfl) ?_
                refine L_pur (c := j3) rfl rfl (.yes2 rfl rfl j2) (fun _ _ hd => P_move z2) ?_
                refine L_pur (c := .int .i64 (j0)) rfl rfl (.yes2 rfl rfl j2) (fun _ _ hd => P_move u0) ?_
                refine L_pur (c := ePtr j3 j0 1) rfl rfl (.yes2 rfl rfl j2) (fun _ _ hd => P_indexAddr (α := Str) Try.underlying36 Try.sizeOf9 rfl y0 rfl l7) ?_
                refine L_ld (c := Str.v (d5)) rfl rfl (.yes2 rfl rfl j2) (fun _ _ h => h.ch) m8 rfl ?_
                refine L_pur (c := q3) rfl rfl (.yes2 rfl rfl j2) (fun _ _ hd => P_move o3) ?_
                refine L_pur (c := fPtr o4 1) rfl rfl (.yes2 rfl rfl j2) (fun _ _ hd => P_fieldAddr at_62_1 d2 (OB.ptr n0)) ?_
                refine L_ld (c := .int .i64 ((y11).Pick)) rfl rfl (.yes2 rfl rfl j2) (fun _ _ h => ⟨h.ch, fun b hb _ => h.below.block b hb⟩) n8 rfl ?_
                refine L_pur (c := ePtr q3 (y11).Pick 1) rfl rfl (.yes2 rfl rfl j2) (fun _ _ hd => P_indexAddr (α := Str) Try.underlying36 Try.sizeOf9 rfl i1 rfl m7) ?_
                refine L_ld (c := Str.v (i5)) rfl rfl (.yes2 rfl rfl j2) (fun _ _ h => h.ch) o8 rfl ?_
                refine L_pur (c := .bool ((!((d5).b == (i5).b)))) rfl rfl (.yes2 rfl rfl j2) (fun _ _ hd => P_str rfl rfl rfl) ?_
                refine L_pur (c := .bool ((!((d5).b == (i5).b)))) rfl rfl (.yes2 rfl rfl rfl) (fun _ _ hd => P_pick (b := (j0 == d3)) rfl (pick_t j2 rfl)) ?_
                refine L_pur (c := .bool ((!((d5).b == (i5).b)))) rfl rfl .plain (fun _ _ hd => P_pick (b := false) rfl (pick_f rfl rfl)) ?_
                refine L_pur (c := .bool ((!((d5).b == (i5).b)))) rfl rfl .plain (fun _ _ hd => P_move rfl) ?_
                refine L_pur (c := .int .i64 (j0)) rfl rfl (.yes2 rfl rfl i4) (fun _ _ hd => P_move u0) ?_
                refine L_pur (c := fPtr o4 1) rfl rfl (.yes2 rfl rfl i4) (fun _ _ hd => P_fieldAddr at_62_1 d2 (OB.ptr n0)) ?_
                refine L_ld (c := .int .i64 ((y11).Pick)) rfl rfl (.yes2 rfl rfl i4) (fun _ _ h => ⟨h.ch, fun b hb _ => h.below.block b hb⟩) aA rfl ?_
                refine L_pur (c := .bool ((j0 != (y11).Pick))) rfl rfl (.yes2 rfl rfl i4) (fun _ _ hd => P_int rfl rfl rfl) ?_
                refine L_pur (c := .bool ((j0 != (y11).Pick))) rfl rfl (.yes2 rfl rfl i4) (fun _ _ hd => P_move rfl) ?_
                refine L_skip rfl (.no2 rfl rfl a6 rfl) ?_
                refine L_skip rfl (.no2 rfl rfl a6 rfl) ?_
                refine L_skip rfl (.no2 rfl rfl a6 rfl) ?_
                refine L_pur (c := .bool false) rfl rfl (.yes2 rfl rfl i4) (fun _ _ hd => P_pick (b := (j0 != (y11).Pick)) rfl (pick_f a6 rfl)) ?_
                refine L_pur (c := .bool false) rfl rfl (.yes2 rfl rfl i4) (fun _ _ hd => P_move rfl) ?_
                refine L_skip rfl (.no2 rfl rfl rfl rfl) ?_
                refine L_pur (c := .bool false) rfl rfl (.yes2 rfl rfl i4) (fun _ _ hd => P_pick (b := false) rfl (pick_f rfl rfl)) ?_
                refine L_pur (c := .bool false) rfl rfl .plain (fun _ _ hd => P_pick (b := (!((d5).b == (i5).b))) rfl (pick_f i4 rfl)) ?_
                refine L_nil fun vM bT hall => ?_
                have hs := hall.1
                have hfr := hfr.ext hs
                have z1 := z1.ext hs
                have n0 := n0.ext hs
                have y0 := y0.ext hs
                have i1 := i1.ext hs
                have j1 := j1.ext hs
                clear hs hall
                refine EL_nil ?_
                obtain rfl := sinj h
                exact hQ _ _ ⟨vM, hfr, n4, z1, d2, n0, p4, z2, y0, o3, i1, c4, j1, q2, u0, p3, rfl⟩
             ·refine L_loadO (x := .tmp 130) part_FaultDamage_1.1 Try.isAgg3 Try.sizeOf3 n0 fun cT xM bA => ?_
              obtain rfl := RV_int.1 xM
              rcases csome h with ⟨c6, h⟩ | ⟨c6, h⟩
              ·rcases csome h with ⟨o7, h⟩ | ⟨o7, h⟩
               ·refine E_drawL (g := u4) (n := 46) [] [0, 1, 2, 3, 4, 5, 6, 7, 8, 9, 10, 11, 12, 13, 14, 15, 16, 17, 18, 19, 20, 21, 22, 23, 24, 25, 26, 27, 28, 29, 30, 31, 32, 33, 34, 35, 36, 37, 38, 39, 40, 41, 42, 43, 44, 45] rfl mixed (by kernel_rfl) trivial ?_
                refine L_pur (c := .int .i64 (j0)) rfl rfl .plain (fun _ _ hd => P_move u0) ?_
                refine L_pur (c := fPtr o4 1) rfl rfl .plain (fun _ _ hd => P_fieldAddr at_62_1 d2 (OB.ptr n0)) ?_
                refine L_ld (c := .int .i64 ((y11).Pick)) rfl rfl .plain (fun _ _ h => ⟨h.ch, fun b hb _ => h.below.block b hb⟩) q5 rfl ?_
                refine L_pur (c := .bool ((j0 == (y11).Pick))) rfl rfl .plain (fun _ _ hd => P_int rfl rfl rfl) ?_
                refine L_pur (c := .bool ((j0 == (y11).Pick))) rfl rfl .plain (fun _ _ hd => P_move rfl) ?_
                refine L_skip rfl (.no2 rfl rfl o0 rfl) ?_
                refine L_skip rfl (.no2 rfl rfl o0 rfl) ?_
                refine L_skip rfl (.no2 rfl rfl o0 rfl) ?_
                refine L_skip rfl (.no2 rfl rfl o0 rfl) ?_
                refine L_skip rfl (.no2 rfl rfl o0 rfl) ?_
                refine L_skip rfl (.no2 rfl rfl o0 rfl) ?_
                refine L_skip rfl (.no2 rfl rfl o0 rfl) ?_
                refine L_skip rfl (.no2 rfl rfl o0 rfl) ?_
                refine L_skip rfl (.no2 rfl rfl o0 rfl) ?_
                refine L_pur (c := .bool false) rfl rfl .plain (fun _ _ hd => P_pick (b := (j0 == (y11).Pick)) rfl (pick_f o0 rfl)) ?_
                refine L_pur (c := .bool false) rfl rfl .plain (fun _ _ hd => P_move rfl) ?_
                refine L_pur (c := .int .i64 (j0)) rfl rfl (.yes2 rfl rfl rfl) (fun _ _ hd => P_move u0) ?_
                refine L_pur (c := .int .i64 (d3)) rfl rfl (.yes2 rfl rfl rfl) (fun _ _ hd => P_move q2) ?_
                refine L_pur (c := .bool ((j0 == d3))) rfl rfl (.yes2 rfl rfl rfl) (fun _ _ hd => P_int rfl rfl rfl) ?_
                refine L_pur (c := .bool ((j0 == d3))) rfl rfl (.yes2 rfl rfl rfl) (fun _ _ hd => P_move rfl) ?_
                refine L_skip rfl (.no2 rfl rfl j2 rfl) ?_
                refine L_skip rfl (.no2 rfl rfl j2 rfl) ?_
                refine L_skip rfl (.no2 rfl rfl j2 rfl) ?_
                refine L_skip rfl (.no2 rfl rfl j2 rfl) ?_
                refine L_skip rfl (.no2 rfl rfl j2 rfl) ?_
                refine L_skip rfl (.no2 rfl rfl j2 rfl) ?_
                refine L_skip rfl (.no2 rfl rfl j2 rfl) ?_
                refine L_skip rfl (.no2 rfl rfl j2 rfl) ?_
                refine L_skip rfl (.no2 rfl rfl j2 rfl) ?_
                refine L_skip rfl (.no2 rfl rfl j2 rfl) ?_
                refine L_pur (c := .bool false) rfl rfl (.yes2 rfl rfl rfl) (fun _ _ hd => P_pick (b := (j0 == d3)) rfl (pick_f j2 rfl)) ?_
                refine L_pur (c := .bool false) rfl rfl .plain (fun _ _ hd => P_pick (b := false) rfl (pick_f rfl rfl)) ?_
                refine L_pur (c := .bool false) rfl rfl .plain (fun _ _ hd => P_move rfl) ?_
                refine L_pur (c := .int .i64 (j0)) rfl rfl (.yes2 rfl rfl rfl) (fun _ _ hd => P_move u0) ?_
                refine L_pur (c := fPtr o4 1) rfl rfl (.yes2 rfl rfl rfl) (fun _ _ hd => P_fieldAddr at_62_1 d2 (OB.ptr n0)) ?_
                refine L_ld (c := .int .i64 ((y11).Pick)) rfl rfl (.yes2 rfl rfl rfl) (fun _ _ h => ⟨h.ch, fun b hb _ => h.below.block b hb⟩) bA rfl ?_
                refine L_pur (c := .bool ((j0 != (y11).Pick))) rfl rfl (.yes2 rfl rfl rfl) (fun _ _ hd => P_int rfl rfl rfl) ?_
                refine L_pur (c := .bool ((j0 != (y11).Pick))) rfl rfl (.yes2 rfl rfl rfl) (fun _ _ hd => P_move rfl) ?_
                refine L_pur (c := .int .i64 (j0)) rfl rfl (.yes2 rfl rfl c6) (fun _ _ hd => P_move u0) ?_
                refine L_pur (c := .int .i64 (d3)) rfl rfl (.yes2 rfl rfl c6) (fun _ _ hd => P_move q2) ?_
                refine L_pur (c := .bool ((j0 != d3))) rfl rfl (.yes2 rfl rfl c6) (fun _ _ hd => P_int rfl rfl rfl) ?_
                refine L_pur (c := .bool ((j0 != d3))) rfl rfl (.yes2 rfl rfl rfl) (fun _ _ hd => P_pick (b := (j0 != (y11).Pick)) rfl (pick_t c6 rfl)) ?_
                refine L_pur (c := .bool ((j0 != d3))) rfl rfl (.yes2 rfl rfl rfl) (fun _ _ hd => P_move rfl) ?_
                refine L_pur (c := .bool ((u3 != z3))) rfl rfl (.yes2 rfl rfl o7) (fun _ _ hd => P_move rfl) ?_
                refine L_pur (c := .bool ((u3 != z3))) rfl rfl (.yes2 rfl rfl rfl) (fun _ _ hd => P_pick (b := (j0 != d3)) rfl (pick_t o7 rfl)) ?_
                refine L_pur (c := .bool ((u3 != z3))) rfl rfl .plain (fun _ _ hd => P_pick (b := false) rfl (pick_f rfl rfl)) ?_
                refine L_nil fun yM dT hall => ?_
                have hs := hall.1
                have hfr := hfr.ext hs
                have z1 := z1.ext hs
                have n0 := n0.ext hs
                have y0 := y0.ext hs
                have i1 := i1.ext hs
                have j1 := j1.ext hs
                clear hs hall
                refine EL_nil ?_
                obtain rfl := sinj h
                exact hQ _ _ ⟨yM, hfr, n4, z1, d2, n0, p4, z2, y0, o3, i1, c4, j1, q2, u0, p3, rfl⟩
               ·refine E_drawL (g := u4) (n := 46) [] [0, 1, 2, 3, 4, 5, 6, 7, 8, 9, 10, 11, 12, 13, 14, 15, 16, 17, 18, 19, 20, 21, 22, 23, 24, 25, 26, 27, 28, 29, 30, 31, 32, 33, 34, 35, 36, 37, 38, 39, 40, 41, 42, 43, 44, 45] rfl mixed (by kernel_rfl) trivial ?_
                refine L_pur (c := .int .i64 (j0)) rfl rfl .plain (fun _ _ hd => P_move u0) ?_
                refine L_pur (c := fPtr o4 1) rfl rfl .plain (fun _ _ hd => P_fieldAddr at_62_1 d2 (OB.ptr n0)) ?_
                refine L_ld (c := .int .i64 ((y11).Pick)) rfl rfl .plain (fun _ _ h => ⟨h.ch, fun b hb _ => h.below.block b hb⟩) q5 rfl ?_
                refine L_pur (c := .bool ((j0 == (y11).Pick))) rfl rfl .plain (fun _ _ hd => P_int rfl rfl rfl) ?_
                refine L_pur (c := .bool ((j0 == (y11).Pick))) rfl rfl .plain (fun _ _ hd => P_move rfl) ?_
                refine L_skip rfl (.no2 rfl rfl o0 rfl) ?_
                refine L_skip rfl (.no2 rfl rfl o0 rfl) ?_
                refine L_skip rfl (.no2 rfl rfl o0 rfl) ?_
                refine L_skip rfl (.no2 rfl rfl o0 rfl) ?_
                refine L_skip rfl (.no2 rfl rfl o0 rfl) ?_
                refine L_skip rfl (.no2 rfl rfl o0 rfl) ?_
                refine L_skip rfl (.no2 rfl rfl o0 rfl) ?_
                refine L_skip rfl (.no2 rfl rfl o0 rfl) ?_
                refine L_skip rfl (.no2 rfl rfl o0 rfl) ?_
                refine L_pur (c := .bool false) rfl rfl .plain (fun _ _ hd => P_pick (b := (j0 == (y11).Pick)) rfl (pick_f o0 rfl)) ?_
                refine L_pur (c := .bool false) rfl rfl .plain (fun _ _ hd => P_move rfl) ?_
                refine L_pur (c := .int .i64 (j0)) rfl rfl (.yes2 rfl rfl rfl) (fun _ _ hd => P_move u0) ?_
                refine L_pur (c := .int .i64 (d3)) rfl rfl (.yes2 rfl rfl rfl) (fun _ _ hd => P_move q2) ?_
                refine L_pur (c := .bool ((j0 == d3))) rfl rfl (.yes2 rfl rfl rfl) (fun _ _ hd => P_int rfl rfl rfl) ?_
                refine L_pur (c := .bool ((j0 == d3))) rfl rfl (.yes2 rfl rfl rfl) (fun _ _ hd => P_move rfl) ?_
                refine L_skip rfl (.no2 rfl rfl j2 rfl) ?_
                refine L_skip rfl (.no2 rfl rfl j2 rfl) ?_
                refine L_skip rfl (.no2 rfl rfl j2 rfl) ?_
                refine L_skip rfl (.no2 rfl rfl j2 rfl) ?_
                refine L_skip rfl (.no2 rfl rfl j2 rfl) ?_
                refine L_skip rfl (.no2 rfl rfl j2 rfl) ?_
                refine L_skip rfl (.no2 rfl rfl j2 rfl) ?_
                refine L_skip rfl (.no2 rfl rfl j2 rfl) ?_
                refine L_skip rfl (.no2 rfl rfl j2 rfl) ?_
                refine L_skip rfl (.no2 rfl rfl j2 rfl) ?_
                refine L_pur (c := .bool false) rfl rfl (.yes2 rfl rfl rfl) (fun _ _ hd => P_pick (b := (j0 == d3)) rfl (pick_f j2 rfl)) ?_
                refine L_pur (c := .bool false) rfl rfl .plain (fun _ _ hd => P_pick (b := false) rfl (pick_f rfl rfl)) ?_
                refine L_pur (c := .bool false) rfl rfl .plain (fun _ _ hd => P_move rfl) ?_
                refine L_pur (c := .int .i64 (j0)) rfl rfl (.yes2 rfl rfl rfl) (fun _ _ hd => P_move u0) ?_
                refine L_pur (c := fPtr o4 1) rfl rfl (.yes2 rfl rfl rfl) (fun _ _ hd => P_fieldAddr at_62_1 d2 (OB.ptr n0)) ?_
                refine L_ld (c := .int .i64 ((y11).Pick)) rfl rfl (.yes2 rfl rfl rfl) (fun _ _ h => ⟨h.ch, fun b hb _ => h.below.block b hb⟩) bA rfl ?_
                refine L_pur (c := .bool ((j0 != (y11).Pick))) rfl rfl (.yes2 rfl rfl rfl) (fun _ _ hd => P_int rfl rfl rfl) ?_
                refine L_pur (c := .bool ((j0 != (y11).Pick))) rfl rfl (.yes2 rfl rfl rfl) (fun _ _ hd => P_move rfl) ?_
                refine L_pur (c := .int .i64 (j0)) rfl rfl (.yes2 rfl rfl c6) (fun _ _ hd => P_move u0) ?_
                refine L_pur (c := .int .i64 (d3)) rfl rfl (.yes2 rfl rfl c6) (fun _ _ hd => P_move q2) ?_
                refine L_pur (c := .bool ((j0 != d3))) rfl rfl (.yes2 rfl rfl c6) (fun _ _ hd => P_int rfl rfl rfl) ?_
                refine L_pur (c := .bool ((j0 != d3))) rfl rfl (.yes2 rfl rfl rfl) (fun _ _ hd => P_pick (b := (j0 != (y11).Pick)) rfl (pick_t c6 rfl)) ?_
                refine L_pur (c := .bool ((j0 != d3))) rfl rfl (.yes2 rfl rfl rfl) (fun _ _ hd => P_move rfl) ?_
                refine L_skip rfl (.no2 rfl rfl o7 rfl) ?_
                refine L_pur (c := .bool false) rfl rfl (.yes2 rfl rfl rfl) (fun _ _ hd => P_pick (b := (j0 != d3)) rfl (pick_f o7 rfl)) ?_
                refine L_pur (c := .bool false) rfl rfl .plain (fun _ _ hd => P_pick (b := false) rfl (pick_f rfl rfl)) ?_
                refine L_nil fun zM eT hall => ?_
                have hs := hall.1
                have hfr := hfr.ext hs
                have z1 := z1.ext hs
                have n0 := n0.ext hs
                have y0 := y0.ext hs
                have i1 := i1.ext hs
                have j1 := j1.ext hs
                clear hs hall
                refine EL_nil ?_
                obtain rfl := sinj h
                exact hQ _ _ ⟨zM, hfr, n4, z1, d2, n0, p4, z2, y0, o3, i1, c4, j1, q2, u0, p3, rfl⟩
              ·refine E_drawL (g := u4) (n := 46) [] [0, 1, 2, 3, 4, 5, 6, 7, 8, 9, 10, 11, 12, 13, 14, 15, 16, 17, 18, 19, 20, 21, 22, 23, 24, 25, 26, 27, 28, 29, 30, 31, 32, 33, 34, 35, 36, 37, 38, 39, 40, 41, 42, 43, 44, 45] rfl mixed (by kernel_rfl) trivial ?_
               refine L_pur (c := .int .i64 (j0)) rfl rfl .plain (fun _ _ hd => P_move u0) ?_
               refine L_pur (c := fPtr o4 1) rfl rfl .plain (fun _ _ hd => P_fieldAddr at_62_1 d2 (OB.ptr n0)) ?_
               refine L_ld (c := .int .i64 ((y11).Pick)) rfl rfl .plain (fun _ _ h => ⟨h.ch, fun b hb _ => h.below.block b hb⟩) q5 rfl ?_
               refine L_pur (c := .bool ((j0 == (y11).Pick))) rfl rfl .plain (fun _ _ hd => P_int rfl rfl rfl) ?_
               refine L_pur (c := .bool ((j0 == (y11).Pick))) rfl rfl .plain (fun _ _ hd => P_move rfl) ?_
               refine L_skip rfl (.no2 rfl rfl o0 rfl) ?_
               refine L_skip rfl (.no2 rfl rfl o0 rfl) ?_
               refine L_skip rfl (.no2 rfl rfl o0 rfl) ?_
               refine L_skip rfl (.no2 rfl rfl o0 rfl) ?_
               refine L_skip rfl (.no2 rfl rfl o0 rfl) ?_
               refine L_skip rfl (.no2 rfl rfl o0 rfl) ?_
               refine L_skip rfl (.no2 rfl rfl o0 rfl) ?_
               refine L_skip rfl (.no2 rfl rfl o0 rfl) ?_
               refine L_skip rfl (.no2 rfl rfl o0 rfl) ?_
               refine L_pur (c := .bool false) rfl rfl .plain (fun _ _ hd => P_pick (b := (j0 == (y11).Pick)) rfl (pick_f o0 rfl)) ?_
               refine L_pur (c := .bool false) rfl rfl .plain (fun _ _ hd => P_move rfl) ?_
               refine L_pur (c := .int .i64 (j0)) rfl rfl (.yes2 rfl rfl rfl) (fun _ _ hd => P_move u0) ?_
               refine L_pur (c := .int .i64 (d3)) rfl rfl (.yes2 rfl rfl rfl) (fun _ _ hd => P_move q2) ?_
               refine L_pur (c := .bool ((j0 == d3))) rfl rfl (.yes2 rfl rfl rfl) (fun _ _ hd => P_int rfl rfl rfl) ?_
               refine L_pur (c := .bool ((j0 == d3))) rfl rfl (.yes2 rfl rfl rfl) (fun _ _ hd => P_move rfl) ?_
               refine L_skip rfl (.no2 rfl rfl j2 rfl) ?_
               refine L_skip rfl (.no2 rfl rfl j2 rfl) ?_
               refine L_skip rfl (.no2 rfl rfl j2 rfl) ?_
               refine L_skip rfl (.no2 rfl rfl j2 rfl) ?_
               refine L_skip rfl (.no2 rfl rfl j2 rfl) ?_
               refine L_skip rfl (.no2 rfl rfl j2 rfl) ?_
               refine L_skip rfl (.no2 rfl rfl j2 rfl) ?_
               refine L_skip rfl (.no2 rfl rfl j2 rfl) ?_
               refine L_skip rfl (.no2 rfl rfl j2 rfl) ?_
               refine L_skip rfl (.no2 rfl rfl j2 rfl) ?_
               refine L_pur (c := .bool false) rfl rfl (.yes2 rfl rfl rfl) (fun _ _ hd => P_pick (b := (j0 == d3)) rfl (pick_f j2 rfl)) ?_
               refine L_pur (c := .bool false) rfl rfl .plain (fun _ _ hd => P_pick (b := false) rfl (pick_f rfl rfl)) ?_
               refine L_pur (c := .bool false) rfl rfl .plain (fun _ _ hd => P_move rfl) ?_
               refine L_pur (c := .int .i64 (j0)) rfl rfl (.yes2 rfl rfl rfl) (fun _ _ hd => P_move u0) ?_
               refine L_pur (c := fPtr o4 1) rfl rfl (.yes2 rfl rfl rfl) (fun _ _ hd => P_fieldAddr at_62_1 d2 (OB.ptr n0)) ?_
               refine L_ld (c := .int .i64 ((y11).Pick)) rfl rfl (.yes2 rfl rfl rfl) (fun _ _ h => ⟨h.ch, fun b hb _ => h.below.block b hb⟩) bA rfl ?_
               refine L_pur (c := .bool ((j0 != (y11).Pick))) rfl rfl (.yes2 rfl rfl rfl) (fun _ _ hd => P_int rfl rfl rfl) ?_
               refine L_pur (c := .bool ((j0 != (y11).Pick))) rfl rfl (.yes2 rfl rfl rfl) (fun _ _ hd => P_move rfl) ?_
               refine L_skip rfl (.no2 rfl rfl c6 rfl) ?_
               refine L_skip rfl (.no2 rfl rfl c6 rfl) ?_
               refine L_skip rfl (.no2 rfl rfl c6 rfl) ?_
               refine L_pur (c := .bool false) rfl rfl (.yes2 rfl rfl rfl) (fun _ _ hd => P_pick (b := (j0 != (y11).Pick)) rfl (pick_f c6 rfl)) ?_
               refine L_pur (c := .bool false) rfl rfl (.yes2 rfl rfl rfl) (fun _ _ hd => P_move rfl) ?_
               refine L_skip rfl (.no2 rfl rfl rfl rfl) ?_
               refine L_pur (c := .bool false) rfl rfl (.yes2 rfl rfl rfl) (fun _ _ hd => P_pick (b := false) rfl (pick_f rfl rfl)) ?_
               refine L_pur (c := .bool false) rfl rfl .plain (fun _ _ hd => P_pick (b := false) rfl (pick_f rfl rfl)) ?_
               refine L_nil fun aN gT hall => ?_
               have hs := hall.1
               have hfr := hfr.ext hs
               have z1 := z1.ext hs
               have n0 := n0.ext hs
               have y0 := y0.ext hs
               have i1 := i1.ext hs
               have j1 := j1.ext hs
               clear hs hall
               refine EL_nil ?_
               obtain rfl := sinj h
               exact hQ _ _ ⟨aN, hfr, n4, z1, d2, n0, p4, z2, y0, o3, i1, c4, j1, q2, u0, p3, rfl⟩
           ·clear hx
            obtain ⟨bN, hfr, vG, xG, yG, zG, aH, bH, cH, dH, gH, xD, yD, zD, aE, bE, e9⟩ := hR
            rcases csome h with ⟨cA, h⟩ | ⟨cA, h⟩
            ·refine E_cond_true (Eq.trans (show ev _ _ = .bool (u6) from e9) (congrArg Value.bool cA)) ?_
             refine E_seq (E_region (EL_at (.bool false) rfl rfl ?_))
             refine EL_nil (thn_n (E_ret (blk_r ?_)))
             refine blk_r ?_
             refine thn_r ?_
             refine thn_r ?_
             refine blk_r ?_
             refine blk_r ?_
             refine thn_r ?_
             refine thn_r ?_
             refine blk_r ?_
             refine thn_r ?_
             obtain rfl := sinj h
             exact end1 rfl rfl (show _ = .bool false from rfl) ⟨_, hfr, rfl⟩
            ·refine E_cond_false (Eq.trans (show ev _ _ = .bool (u6) from e9) (congrArg Value.bool cA)) ?_
             exact E_skip (blk_n (blk_n (thn_n (z6 () _ _ ⟨bN, hfr, vG, xG, yG, zG, aH, bH, cH, dH, gH, xD, yD, zD, aE, bE⟩ h))))
      ·rintro _ aP iT ⟨cN, hfr, iH, jH, kH, lH, mH, nH, oH, pH, qH, cE, dE, eE, gE, iE⟩ h
       refine E_region (EL_mv iE rfl ?_)
       refine EL_in (.int .i64 ((w64 (s2 + (1 : Int))))) rfl rfl rfl rfl ?_
       refine EL_at (.int .i64 ((w64 (s2 + (1 : Int))))) rfl rfl ?_
       exact EL_nil (thn_n (vI ((w64 (s2 + (1 : Int)))) _ _ ⟨cN, hfr, iH, jH, kH, lH, mH, nH, oH, pH, qH, cE, dE, eE, gE, rfl⟩ h))
    ·rintro _ bP jT ⟨dN, hfr, sH, tH, uH, vH, xH, yH, zH, aI, bI, jE, kE, lE, mE⟩ h
     refine E_region (EL_mv mE rfl ?_)
     refine EL_in (.int .i64 ((w64 (j0 + (1 : Int))))) rfl rfl rfl rfl ?_
     refine EL_at (.int .i64 ((w64 (j0 + (1 : Int))))) rfl rfl ?_
     exact EL_nil (thn_n (sI ((w64 (j0 + (1 : Int)))) _ _ ⟨dN, hfr, sH, tH, uH, vH, xH, yH, zH, aI, bI, jE, kE, lE, rfl⟩ h))
  ·rintro _ cP kT ⟨g9, hfr, nB, z7, oB, pB, qB, rB, oA, pA⟩ h
   refine E_joinC h (fun (s : Unit) e w => ∃ (g : Gh) , Fr gI wI g w ∧ e 8 = q3 ∧ RV g.m w (x5.1 : List Str) q3 ∧ e 10 = x4 ∧ RV g.m w (e6.1 : List Str) x4) (fun X27847 dC lJ h => ?_) ?_
   ·obtain ⟨n6, hx, h⟩ := bsome h
    refine E_join (fun e w => ∃ (g : Gh) , Fr gI wI g w ∧ e 6 = j3 ∧ RV g.m w (u5.1 : List Str) j3 ∧ e 8 = q3 ∧ RV g.m w (x5.1 : List Str) q3 ∧ e 10 = x4 ∧ RV g.m w (e6.1 : List Str) x4 ∧ e 232 = .bool (n6)) (fun Q' hQ => ?_) (fun dP lT hR => ?_)
    ·replace h := hx
     clear hx
     refine E_region (EL_pur (v := fPtr o4 0) (P_fieldAddr at_62_0 nB (OB.ptr z7)) .plain rfl ?_)
     refine EL_do .plain rfl (D_loadF (g := g9) part_FaultDamage_0.1 Try.isAgg60 Try.sizeOf60 rfl z7 fun mT eN => ?_)
     obtain rfl := RV_int.1 eN
     refine EL_in (.bool (((y11).Kind == (2 : Int)))) rfl rfl rfl rfl ?_
     refine EL_mw (.bool (((y11).Kind == (2 : Int)))) rfl rfl ?_
     rcases csome h with ⟨k6, h⟩ | ⟨k6, h⟩
     ·refine EL_skip (.no2 rfl rfl k6 rfl) rfl ?_
      refine EL_skip (.no2 rfl rfl k6 rfl) rfl ?_
      refine EL_skip (.no2 rfl rfl k6 rfl) rfl ?_
      refine EL_pur (v := .bool true) (P_pick (b := ((y11).Kind == (2 : Int))) rfl (pick_t k6 rfl)) .plain rfl ?_
      refine EL_nil ?_
      obtain rfl := sinj h
      exact hQ _ _ ⟨g9, hfr, oB, pB, qB, rB, oA, pA, rfl⟩
     ·refine EL_pur (v := fPtr o4 0) (P_fieldAddr at_62_0 nB (OB.ptr z7)) (.yes2 rfl rfl k6) rfl ?_
      refine EL_do (.yes2 rfl rfl k6) rfl (D_loadF (g := g9) part_FaultDamage_0.1 Try.isAgg60 Try.sizeOf60 rfl z7 fun nT gN => ?_)
      obtain rfl := RV_int.1 gN
      refine EL_pur (v := .bool (((y11).Kind == (5 : Int)))) (P_int rfl rfl rfl) (.yes2 rfl rfl k6) rfl ?_
      refine EL_pur (v := .bool (((y11).Kind == (5 : Int)))) (P_pick (b := ((y11).Kind == (2 : Int))) rfl (pick_f k6 rfl)) .plain rfl ?_
      refine EL_nil ?_
      obtain rfl := sinj h
      exact hQ _ _ ⟨g9, hfr, oB, pB, qB, rB, oA, pA, rfl⟩
    ·clear hx
     obtain ⟨nE, hfr, cI, dI, eI, iI, qA, rA, i9⟩ := hR
     rcases csome h with ⟨dA, h⟩ | ⟨dA, h⟩
     ·refine E_cond_true (Eq.trans (show ev _ _ = .bool (n6) from i9) (congrArg Value.bool dA)) ?_
      obtain ⟨u7, hx, h⟩ := bsome h
      refine E_join (fun e w => ∃ (g : Gh) , Fr gI wI g w ∧ e 2 = .bool (u7)) (fun Q' hQ => ?_) (fun eP oT hR => ?_)
      ·replace h := hx
       clear hx
       refine E_region (EL_mv qA rfl ?_)
       refine EL_mv cI rfl ?_
       obtain ⟨b8, mJ, h⟩ := bsome h
       refine EL_do .plain rfl (D_call (g := nE) (vs := [x4, j3]) en46 (.cons rfl (.cons rfl .nil)) (wk46 rA dI mJ) fun oE gP pT hs hr => ?_)
       have hfr := hfr.ext hs
       subst hr
       refine EL_mw (.bool (b8)) rfl rfl ?_
       rcases csome h with ⟨p7, h⟩ | ⟨p7, h⟩
       ·obtain ⟨y8, nJ, h⟩ := bsome h
        refine EL_do (.yes2 rfl rfl p7) rfl (D_call (g := oE) (vs := []) en15 .nil (wk15  nJ) fun iN hP qT hs hr => ?_)
        have hfr := hfr.ext hs
        subst hr
        refine EL_pur (v := .bool (y8)) (P_pick (b := b8) rfl (pick_t p7 rfl)) .plain rfl ?_
        refine EL_at (.bool (y8)) rfl rfl ?_
        refine EL_nil ?_
        obtain rfl := sinj h
        exact hQ _ _ ⟨iN, hfr, rfl⟩
       ·refine EL_skip (.no2 rfl rfl p7 rfl) rfl ?_
        refine EL_pur (v := .bool false) (P_pick (b := b8) rfl (pick_f p7 rfl)) .plain rfl ?_
        refine EL_at (.bool false) rfl rfl ?_
        refine EL_nil ?_
        obtain rfl := sinj h
        exact hQ _ _ ⟨oE, hfr, rfl⟩
      ·clear hx
       obtain ⟨rT, hfr, jI⟩ := hR
       refine E_ret (thn_r ?_)
       obtain rfl := sinj h
       exact end1 rfl rfl (show _ = .bool (u7) from jI) ⟨_, hfr, rfl⟩
     ·refine E_cond_false (Eq.trans (show ev _ _ = .bool (n6) from i9) (congrArg Value.bool dA)) ?_
      exact E_skip (thn_n (lJ () _ _ ⟨nE, hfr, eI, iI, qA, rA⟩ h))
   ·rintro _ iP sT ⟨jN, hfr, kI, lI, pE, qE⟩ h
    obtain ⟨t7, hx, h⟩ := bsome h
    refine E_join (fun e w => ∃ (g : Gh) , Fr gI wI g w ∧ e 2 = .bool (t7)) (fun Q' hQ => ?_) (fun jP tT hR => ?_)
    ·replace h := hx
     clear hx
     refine E_region (EL_mv pE rfl ?_)
     refine EL_mv kI rfl ?_
     obtain ⟨a8, oJ, h⟩ := bsome h
     refine EL_do .plain rfl (D_call (g := jN) (vs := [x4, q3]) en46 (.cons rfl (.cons rfl .nil)) (wk46 qE lI oJ) fun rE kP uT hs hr => ?_)
     have hfr := hfr.ext hs
     subst hr
     refine EL_mw (.bool (a8)) rfl rfl ?_
     rcases csome h with ⟨q7, h⟩ | ⟨q7, h⟩
     ·obtain ⟨x8, pJ, h⟩ := bsome h
      refine EL_do (.yes2 rfl rfl q7) rfl (D_call (g := rE) (vs := []) en15 .nil (wk15  pJ) fun kN lP vT hs hr => ?_)
      have hfr := hfr.ext hs
      subst hr
      refine EL_pur (v := .bool (x8)) (P_pick (b := a8) rfl (pick_t q7 rfl)) .plain rfl ?_
      refine EL_at (.bool (x8)) rfl rfl ?_
      refine EL_nil ?_
      obtain rfl := sinj h
      exact hQ _ _ ⟨kN, hfr, rfl⟩
     ·refine EL_skip (.no2 rfl rfl q7 rfl) rfl ?_
      refine EL_pur (v := .bool false) (P_pick (b := a8) rfl (pick_f q7 rfl)) .plain rfl ?_
      refine EL_at (.bool false) rfl rfl ?_
      refine EL_nil ?_
      obtain rfl := sinj h
      exact hQ _ _ ⟨rE, hfr, rfl⟩
    ·clear hx
     obtain ⟨xT, hfr, mI⟩ := hR
     refine E_ret ?_
     obtain rfl := sinj h
     exact end1 rfl rfl (show _ = .bool (t7) from mI) ⟨_, hfr, rfl⟩
end Go.Proofs.Ytpiaipiehjcflaa
