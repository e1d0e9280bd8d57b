import Derived.Test.YtmpjooneiaiffaaCode2
set_option maxRecDepth 8000
set_option maxHeartbeats 4000000
namespace Go.Proofs.Ytmpjooneiaiffaa
open Go.RowKit
def f117 (x0 : List Int) (x1 : Int) (x2 : Int) (x3 : Int) : Option (Int × (List Int)) :=
 (idx x0 x3).bind fun y1 =>
 (idx x0 x1).bind fun y3 =>
 (idx x0 x1).bind fun y5 =>
 (idx ((List.set x0 (Int.toNat x1) y1)) x3).bind fun xE =>
 Option.bind (α := (List Int) × Int) (
  lp (σ := (List Int) × Int × Int) (fun tC (u3, gA, z3) =>
   Option.bind (α := Int) (
    lp (σ := Int) (fun yA i3 =>
     jn (σ := Unit) (fun _ =>
      yA ((w64 (i3 + (1 : Int))))
      ) fun zA =>
     Option.bind (α := Bool) (
      bif (decide (i3 ≤ z3)) then
       (idx u3 x1).bind fun l8 =>
       (idx u3 i3).bind fun m8 =>
       (f116 l8 m8).bind fun c7 =>
       some ((!c7))
      else
       some (false)
      ) fun i6 =>
     bif i6 then
      zA ()
     else
      some (i3)
     ) big (gA)
    ) fun o0 =>
   Option.bind (α := Int) (
    lp (σ := Int) (fun aB j1 =>
     jn (σ := Unit) (fun _ =>
      aB ((w64 (j1 - (1 : Int))))
      ) fun bB =>
     Option.bind (α := Bool) (
      bif (decide (o0 ≤ j1)) then
       (idx u3 x1).bind fun n8 =>
       (idx u3 j1).bind fun o8 =>
       (f116 n8 o8).bind fun o7 =>
       some (o7)
      else
       some (false)
      ) fun j6 =>
     bif j6 then
      bB ()
     else
      some (j1)
     ) big (z3)
    ) fun j3 =>
   jn (σ := Unit) (fun _ =>
    (idx u3 j3).bind fun d7 =>
    (idx u3 o0).bind fun u7 =>
    (idx u3 o0).bind fun uD =>
    (idx ((List.set u3 (Int.toNat o0) d7)) j3).bind fun vD =>
    tC ((List.set ((List.set u3 (Int.toNat o0) d7)) (Int.toNat j3) u7), (w64 (o0 + (1 : Int))), (w64 (j3 - (1 : Int))))
    ) fun cB =>
   bif (decide (o0 > j3)) then
    some (u3, o0)
   else
    cB ()
   ) big ((List.set ((List.set x0 (Int.toNat x1) y1)) (Int.toNat x3) y3), (w64 (x1 + (1 : Int))), (w64 (x2 - (1 : Int))))
  ) fun (v7, x6) =>
 some (x6, v7)
def f118 (x0 : List Int) (x1 : Int) (x2 : Int) (x3 : Int) : Option (Int × Bool × (List Int)) :=
 (idx x0 x3).bind fun y1 =>
 (idx x0 x1).bind fun y3 =>
 (idx x0 x1).bind fun y5 =>
 (idx ((List.set x0 (Int.toNat x1) y1)) x3).bind fun kM =>
 Option.bind (α := Int) (
  lp (σ := Int) (fun dH i5 =>
   jn (σ := Unit) (fun _ =>
    dH ((w64 (i5 + (1 : Int))))
    ) fun gH =>
   Option.bind (α := Bool) (
    bif (decide (i5 ≤ (w64 (x2 - (1 : Int))))) then
     (idx ((List.set ((List.set x0 (Int.toNat x1) y1)) (Int.toNat x3) y3)) i5).bind fun aD =>
     (idx ((List.set ((List.set x0 (Int.toNat x1) y1)) (Int.toNat x3) y3)) x1).bind fun bD =>
     (f116 aD bD).bind fun aB =>
     some (aB)
    else
     some (false)
    ) fun g8 =>
   bif g8 then
    gH ()
   else
    some (i5)
   ) big ((w64 (x1 + (1 : Int))))
  ) fun j1 =>
 Option.bind (α := Int) (
  lp (σ := Int) (fun iH l5 =>
   jn (σ := Unit) (fun _ =>
    iH ((w64 (l5 - (1 : Int))))
    ) fun jH =>
   Option.bind (α := Bool) (
    bif (decide (j1 ≤ l5)) then
     (idx ((List.set ((List.set x0 (Int.toNat x1) y1)) (Int.toNat x3) y3)) l5).bind fun cD =>
     (idx ((List.set ((List.set x0 (Int.toNat x1) y1)) (Int.toNat x3) y3)) x1).bind fun eD =>
     (f116 cD eD).bind fun jA =>
     some ((!jA))
    else
     some (false)
    ) fun i8 =>
   bif i8 then
    jH ()
   else
    some (l5)
   ) big ((w64 (x2 - (1 : Int))))
  ) fun i3 =>
 jn (σ := (List Int)) (fun k8 =>
  (idx k8 i3).bind fun bB =>
  (idx k8 j1).bind fun gD =>
  (idx k8 j1).bind fun dL =>
  (idx ((List.set k8 (Int.toNat j1) bB)) i3).bind fun eL =>
  Option.bind (α := (List Int) × Int) (
   lp (σ := (List Int) × Int × Int) (fun vE (z3, cB, t5) =>
    Option.bind (α := Int) (
     lp (σ := Int) (fun xE j3 =>
      jn (σ := Unit) (fun _ =>
       xE ((w64 (j3 + (1 : Int))))
       ) fun yE =>
      Option.bind (α := Bool) (
       bif (decide (j3 ≤ t5)) then
        (idx z3 j3).bind fun rA =>
        (idx z3 x1).bind fun uA =>
        (f116 rA uA).bind fun y9 =>
        some (y9)
       else
        some (false)
       ) fun m7 =>
      bif m7 then
       yE ()
      else
       some (j3)
      ) big (cB)
     ) fun o0 =>
    Option.bind (α := Int) (
     lp (σ := Int) (fun zE u3 =>
      jn (σ := Unit) (fun _ =>
       zE ((w64 (u3 - (1 : Int))))
       ) fun cF =>
      Option.bind (α := Bool) (
       bif (decide (o0 ≤ u3)) then
        (idx z3 u3).bind fun xA =>
        (idx z3 x1).bind fun yA =>
        (f116 xA yA).bind fun x8 =>
        some ((!x8))
       else
        some (false)
       ) fun o7 =>
      bif o7 then
       cF ()
      else
       some (u3)
      ) big (t5)
     ) fun z4 =>
    jn (σ := Unit) (fun _ =>
     (idx z3 z4).bind fun y8 =>
     (idx z3 o0).bind fun z9 =>
     (idx z3 o0).bind fun cJ =>
     (idx ((List.set z3 (Int.toNat o0) y8)) z4).bind fun dJ =>
     vE ((List.set ((List.set z3 (Int.toNat o0) y8)) (Int.toNat z4) z9), (w64 (o0 + (1 : Int))), (w64 (z4 - (1 : Int))))
     ) fun dF =>
    bif (decide (o0 > z4)) then
     some (z3, z4)
    else
     dF ()
    ) big ((List.set ((List.set k8 (Int.toNat j1) bB)) (Int.toNat i3) gD), (w64 (j1 + (1 : Int))), (w64 (i3 - (1 : Int))))
   ) fun (j7, x5) =>
  (idx j7 x1).bind fun bA =>
  (idx j7 x5).bind fun zA =>
  (idx j7 x5).bind fun eJ =>
  (idx ((List.set j7 (Int.toNat x5) bA)) x1).bind fun gJ =>
  some (x5, false, (List.set ((List.set j7 (Int.toNat x5) bA)) (Int.toNat x1) zA))
  ) fun kH =>
 bif (decide (j1 > i3)) then
  (idx ((List.set ((List.set x0 (Int.toNat x1) y1)) (Int.toNat x3) y3)) x1).bind fun dB =>
  (idx ((List.set ((List.set x0 (Int.toNat x1) y1)) (Int.toNat x3) y3)) i3).bind fun iD =>
  (idx ((List.set ((List.set x0 (Int.toNat x1) y1)) (Int.toNat x3) y3)) i3).bind fun gL =>
  (idx ((List.set ((List.set ((List.set x0 (Int.toNat x1) y1)) (Int.toNat x3) y3)) (Int.toNat i3) dB)) x1).bind fun iL =>
  some (i3, true, (List.set ((List.set ((List.set ((List.set x0 (Int.toNat x1) y1)) (Int.toNat x3) y3)) (Int.toNat i3) dB)) (Int.toNat x1) iD))
 else
  kH ((List.set ((List.set x0 (Int.toNat x1) y1)) (Int.toNat x3) y3))
def f121 (x0 : List Int) (x1 : Int) (x2 : Int) (x3 : Int) : Option ((List Int)) :=
 lp (σ := (List Int) × Int) (fun k1 (j3, o0) =>
  jn (σ := Unit) (fun _ =>
   Option.bind (α := Int) (
    Option.bind (α := Bool) (
     bif (decide ((w64 ((w64 ((w64 ((2 : Int) * o0)) + (1 : Int))) + (1 : Int))) < x2)) then
      (idx j3 (w64 (x3 + (w64 ((w64 ((2 : Int) * o0)) + (1 : Int)))))).bind fun d7 =>
      (idx j3 (w64 ((w64 (x3 + (w64 ((w64 ((2 : Int) * o0)) + (1 : Int))))) + (1 : Int)))).bind fun g7 =>
      (f116 d7 g7).bind fun j6 =>
      some (j6)
     else
      some (false)
     ) fun i5 =>
    bif i5 then
     some ((w64 ((w64 ((w64 ((2 : Int) * o0)) + (1 : Int))) + (1 : Int))))
    else
     some ((w64 ((w64 ((2 : Int) * o0)) + (1 : Int))))
    ) fun j1 =>
   jn (σ := Unit) (fun _ =>
    (idx j3 (w64 (x3 + j1))).bind fun x5 =>
    (idx j3 (w64 (x3 + o0))).bind fun v6 =>
    (idx j3 (w64 (x3 + o0))).bind fun xA =>
    (idx ((List.set j3 (Int.toNat (w64 (x3 + o0))) x5)) (w64 (x3 + j1))).bind fun yA =>
    k1 ((List.set ((List.set j3 (Int.toNat (w64 (x3 + o0))) x5)) (Int.toNat (w64 (x3 + j1))) v6), j1)
    ) fun l9 =>
   (idx j3 (w64 (x3 + o0))).bind fun y277 =>
   (idx j3 (w64 (x3 + j1))).bind fun i7 =>
   (f116 y277 i7).bind fun x6 =>
   bif (!x6) then
    some (j3)
   else
    l9 ()
   ) fun k4 =>
  bif (decide ((w64 ((w64 ((2 : Int) * o0)) + (1 : Int))) ≥ x2)) then
   some (j3)
  else
   k4 ()
  ) big (x0, x1)
def f52 (x0 : List Int) : Option (Bool) :=
 (f87 ((0 : Int)) ((9 : Int)) x0).bind fun y2 =>
 some (y2)
def f63 (x0 : List Int) : Option (Bool) :=
 (f52 x0).bind fun y2 =>
 some ((!y2))
def f76 (x0 : BoxRace) (x1 : List BoxPick) : Option (BoxRun × Int × Int) :=
 jn (σ := BoxRun) (fun o7 =>
  some (o7, (0 : Int), (0 : Int))
  ) fun l9 =>
 lp (σ := BoxRun × Int) (fun n9 (i5, j1) =>
  bif (decide (j1 < ((x1).length : Int))) then
   jn (σ := BoxRun) (fun x6 =>
    n9 (x6, (w64 (j1 + (1 : Int))))
    ) fun o9 =>
   (idx x1 j1).bind fun t9 =>
   (f97 ((i5).last) t9).bind fun o0 =>
   jn (σ := BoxRun) (fun u3 =>
    (apnd 8 ((u3).thrown) (([o0.2.1] : List Int))).bind fun z3 =>
    o9 ((⟨z3, o0.1, (w64 ((u3).moves + o0.2.2))⟩ : BoxRun))
    ) fun u9 =>
   bif (o0.2.1 == (0 : Int)) then
    some ((⟨[], ⟨(⟨List.toArray [(⟨List.toArray [0, 0, 0, 0], rfl⟩ : Vector Int 4), (⟨List.toArray [0, 0, 0, 0], rfl⟩ : Vector Int 4)], rfl⟩ : Vector (Vector Int 4) 2), ⟨0, 0⟩⟩, 0⟩ : BoxRun), j1, (9 : Int))
   else
    u9 (i5)
  else
   l9 (i5)
  ) big ((⟨[], x0, 0⟩ : BoxRun), (0 : Int))
theorem en76 : Enters Try.prog 76 := enters_of Try.func76 (by kernel_rfl) rfl
theorem wk76 {gI : Gh} {wI : World} {x0 : BoxRace} {x1 : List BoxPick} {up0 : Value} (rp0 : RV gI.m wI x0 up0) {up1 : Value} (rp1 : RV gI.m wI x1 up1) {r : BoxRun × Int × Int} (h : f76 x0 x1 = some r) : Fn Try.prog 76 #[up0, up1] gI wI (fun m w v => ∃ y0 y1 y2, v = .tuple #[y0, y1, y2] ∧ RV m w (r.1) y0 ∧ y1 = .int .i64 (r.2.1) ∧ y2 = .int .i64 (r.2.2)) := by
 unfold f76 at h
 refine fn_of_E Try.func76 rfl (Nat.le_of_ble_eq_true rfl) fun g0 hm hfr => ?_
 have rp0 : RV g0.m wI x0 up0 := hm ▸ rp0
 have rp1 : RV g0.m wI x1 up1 := hm ▸ rp1
 show E _ 46 none _ _ _ _ _
 refine E_seq (E_region (EL_do .plain rfl (D_box (g := g0) rfl rp0 fun g1 w1 p1 hs q1 => ?_)))
 have hfr := hfr.ext hs
 have rp1 := rp1.ext hs
 refine EL_do .plain rfl (D_allocOc (g := g1) 2004 (⟨[], ⟨(⟨List.toArray [(⟨List.toArray [0, 0, 0, 0], rfl⟩ : Vector Int 4), (⟨List.toArray [0, 0, 0, 0], rfl⟩ : Vector Int 4)], rfl⟩ : Vector (Vector Int 4) 2), ⟨0, 0⟩⟩, 0⟩ : BoxRun) Try.zeroValue129 (fun m w => ⟨_, (rep_two rep_nil (rep_two (rep_two (rep_vec (flat_chunk (rep_vec (flat_chunk rep_int (flat_chunk rep_int (flat_chunk rep_int (flat_chunk rep_int flat_nil)))) rfl) (flat_chunk (rep_vec (flat_chunk rep_int (flat_chunk rep_int (flat_chunk rep_int (flat_chunk rep_int flat_nil)))) rfl) flat_nil)) rfl) (rep_two rep_int rep_int)) rep_int)), rfl⟩) fun g2 w2 p2 hs b2 cb => ?_)
 have hfr := hfr.stp hs
 have rp1 := rp1.stp hs
 have q1 := q1.stp hs
 have v7 : OSF 2004 60400 0 g2 w2 3 129 ([] : List Int) p2 := cb.osf (by rfl)
 clear cb
 refine EL_at (.int .i64 (0)) rfl rfl ?_
 refine EL_at (.int .i64 (0)) rfl rfl ?_
 refine EL_nil (thn_n (E_seq (E_region (EL_do .plain rfl (D_load (g := g2) Try.isAgg108 Try.sizeOf108 rfl q1 fun v3 r3 => ?_)))))
 refine EL_p (fPtr p2 1) (P_fieldAddr at_129_1 rfl (OB.ptr b2)) rfl ?_
 refine EL_do .plain rfl (D_storeFc (g := g2) part_BoxRun_1 Try.sizeOf108 rfl b2 rfl r3 fun g5 w5 hs b5 rst hos => ?_)
 have v7 := v7.rest hs rst
 clear rst hos
 have hfr := hfr.stp hs
 have rp1 := rp1.stp hs
 refine EL_nil (thn_n (E_joinC h (fun (s : BoxRun) e w => ∃ (g : Gh) , Fr gI wI g w ∧ e 4 = p2 ∧ OB 2004 g w 129 (s : BoxRun) p2 ∧ OSF 2004 60400 0 g w 3 129 ((s).thrown) p2) (fun X122 l9 xA h => ?_) ?_))
 ·refine E_seq (E_region (EL_mw up1 rfl rfl ?_))
  refine EL_p (.int .i64 ((x1).length : Int)) (P_len Try.underlying30 rfl rp1) rfl ?_
  refine EL_mw (.int .i64 (0)) rfl rfl ?_
  refine EL_nil (thn_n (E_block ?_))
  refine E_lp h (fun (s : BoxRun × Int) e w => ∃ (g : Gh) , Fr gI wI g w ∧ e 4 = p2 ∧ OB 2004 g w 129 (s.1 : BoxRun) p2 ∧ OSF 2004 60400 0 g w 3 129 ((s.1).thrown) p2 ∧ e 14 = up1 ∧ RV g.m w (x1 : List BoxPick) up1 ∧ e 15 = .int .i64 (((x1).length : Int)) ∧ e 16 = .int .i64 (s.2)) ⟨g5, hfr, rfl, b5, v7, rfl, rp1, rfl, rfl⟩ (fun X123 n9 yA => ?_)
  rintro ⟨i5, j1⟩ bD jD ⟨c8, hfr, x5, j3, u4_0_124, c7, i3, d7, i6⟩ h
  refine E_seq (E_region (EL_in (.bool ((decide (j1 < ((x1).length : Int))))) i6 d7 rfl rfl ?_))
  refine EL_nil (thn_n (E_seq ?_))
  rcases csome h with ⟨g7, h⟩ | ⟨g7, h⟩
  ·refine E_ct g7 rfl ?_
   refine E_skip (thn_n (E_joinC h (fun (s : BoxRun) e w => ∃ (g : Gh) , Fr gI wI g w ∧ e 4 = p2 ∧ OB 2004 g w 129 (s : BoxRun) p2 ∧ OSF 2004 60400 0 g w 3 129 ((s).thrown) p2 ∧ e 14 = up1 ∧ RV g.m w (x1 : List BoxPick) up1 ∧ e 15 = .int .i64 (((x1).length : Int)) ∧ e 16 = .int .i64 (j1)) (fun X181 o9 zA h => ?_) ?_))
   ·refine E_block ?_
    refine E_seq (E_region (EL_mv i6 rfl ?_))
    obtain ⟨t9, n8, h⟩ := bsome h
    refine EL_p (ePtr up1 j1 2) (P_indexAddr (α := BoxPick) Try.underlying30 Try.sizeOf83 c7 i3 i6 n8) rfl ?_
    have mB := PT_idx i3 n8
    refine EL_do .plain rfl (D_load (g := c8) Try.isAgg83 Try.sizeOf83 rfl mB fun nB g8 => ?_)
    refine EL_do .plain rfl (D_allocOc (g := c8) 2008 (⟨0, 0⟩ : BoxPick) Try.zeroValue83 (fun m w => ⟨_, (rep_two rep_int rep_int), rfl⟩) fun oB kD lD hs b185 cb => ?_)
    have hfr := hfr.stp hs
    have u4_0_124 := u4_0_124.stp hs rfl
    have j3 := j3.stp hs rfl
    have i3 := i3.stp hs
    have g8 := g8.stp hs
    clear cb
    refine EL_at (.int .i64 (j1)) rfl rfl ?_
    refine EL_do .plain rfl (D_storeOc (g := oB) (v := nB) Try.sizeOf83 rfl b185 rfl g8 fun i8 mD hs b186 cb => ?_)
    clear cb
    have hfr := hfr.stp hs
    have u4_0_124 := u4_0_124.stp hs rfl
    have j3 := j3.stp hs rfl
    have i3 := i3.stp hs
    refine EL_nil (thn_n (E_seq (E_region (EL_p (fPtr p2 1) (P_fieldAddr at_129_1 x5 (OB.ptr j3)) rfl ?_))))
    refine EL_do .plain rfl (D_loadF (g := i8) part_BoxRun_1.1 Try.isAgg108 Try.sizeOf108 rfl j3 fun tB vB => ?_)
    refine EL_do .plain rfl (D_loadO (g := i8) Try.isAgg83 Try.sizeOf83 rfl b186 fun xB yB => ?_)
    obtain ⟨o0, aB, h⟩ := bsome h
    refine EL_do .plain rfl (D_call (g := i8) (vs := [tB, xB]) en97 (.cons rfl (.cons rfl .nil)) (wk97 vB yB aB) fun zB cD nD hs hr => ?_)
    have hfr := hfr.ext hs
    have u4_0_124 := u4_0_124.ext hs
    have j3 := j3.ext hs
    have i3 := i3.ext hs
    obtain ⟨y6, xC, yC, rfl, a7, rfl, rfl⟩ := hr
    refine EL_mw (.tuple #[y6, .int .i64 (o0.2.1), .int .i64 (o0.2.2)]) rfl rfl ?_
    refine EL_p y6 (P_extract rfl rfl) rfl ?_
    refine EL_p (.int .i64 (o0.2.1)) (P_extract rfl rfl) rfl ?_
    refine EL_p (.int .i64 (o0.2.2)) (P_extract rfl rfl) rfl ?_
    refine EL_do .plain rfl (D_allocOc (g := zB) 2009 (⟨(⟨List.toArray [(⟨List.toArray [0, 0, 0, 0], rfl⟩ : Vector Int 4), (⟨List.toArray [0, 0, 0, 0], rfl⟩ : Vector Int 4)], rfl⟩ : Vector (Vector Int 4) 2), ⟨0, 0⟩⟩ : BoxRace) Try.zeroValue108 (fun m w => ⟨_, (rep_two (rep_vec (flat_chunk (rep_vec (flat_chunk rep_int (flat_chunk rep_int (flat_chunk rep_int (flat_chunk rep_int flat_nil)))) rfl) (flat_chunk (rep_vec (flat_chunk rep_int (flat_chunk rep_int (flat_chunk rep_int (flat_chunk rep_int flat_nil)))) rfl) flat_nil)) rfl) (rep_two rep_int rep_int)), rfl⟩) fun aC oD y9 hs b192 cb => ?_)
    have hfr := hfr.stp hs
    have u4_0_124 := u4_0_124.stp hs rfl
    have j3 := j3.stp hs rfl
    have i3 := i3.stp hs
    have a7 := a7.stp hs
    clear cb
    refine EL_do .plain rfl (D_storeOc (g := aC) (v := y6) Try.sizeOf108 rfl b192 rfl a7 fun k8 cC hs b193 cb => ?_)
    clear cb
    have hfr := hfr.stp hs
    have u4_0_124 := u4_0_124.stp hs rfl
    have j3 := j3.stp hs rfl
    have i3 := i3.stp hs
    refine EL_at (.int .i64 (o0.2.1)) rfl rfl ?_
    refine EL_at (.int .i64 (o0.2.2)) rfl rfl ?_
    refine EL_nil (thn_n (E_joinC h (fun (s : BoxRun) e w => ∃ (g : Gh) , Fr gI wI g w ∧ e 4 = p2 ∧ OB 2004 g w 129 (s : BoxRun) p2 ∧ OSF 2004 60400 0 g w 3 129 ((s).thrown) p2 ∧ e 9 = y9 ∧ OB 2009 g w 108 (o0.1 : BoxRace) y9 ∧ e 10 = .int .i64 (o0.2.1) ∧ e 11 = .int .i64 (o0.2.2) ∧ e 14 = up1 ∧ RV g.m w (x1 : List BoxPick) up1 ∧ e 15 = .int .i64 (((x1).length : Int)) ∧ e 16 = .int .i64 (j1)) (fun X198 u9 bB h => ?_) ?_))
    ·refine E_seq (E_region (EL_mw (.int .i64 (o0.2.1)) rfl rfl ?_))
     refine EL_in (.bool ((o0.2.1 == (0 : Int)))) rfl rfl rfl rfl ?_
     refine EL_nil (thn_n ?_)
     rcases csome h with ⟨i7, h⟩ | ⟨i7, h⟩
     ·refine E_ct i7 rfl ?_
      refine E_seq (E_region ?_)
      have z9 : RV k8.m cC (⟨[], ⟨(⟨List.toArray [(⟨List.toArray [0, 0, 0, 0], rfl⟩ : Vector Int 4), (⟨List.toArray [0, 0, 0, 0], rfl⟩ : Vector Int 4)], rfl⟩ : Vector (Vector Int 4) 2), ⟨0, 0⟩⟩, 0⟩ : BoxRun) (.agg (setCh [[.slice none 0 0], [.int .i64 0, .int .i64 0, .int .i64 0, .int .i64 0, .int .i64 0, .int .i64 0, .int .i64 0, .int .i64 0, .int .i64 0, .int .i64 0], [.int .i64 0]] []).flatten.toArray) := RV_build rfl (rep_pair (rep_nil) (rep_pair ((rep_two (rep_vec (flat_chunk (rep_vec (flat_chunk rep_int (flat_chunk rep_int (flat_chunk rep_int (flat_chunk rep_int flat_nil)))) rfl) (flat_chunk (rep_vec (flat_chunk rep_int (flat_chunk rep_int (flat_chunk rep_int (flat_chunk rep_int flat_nil)))) rfl) flat_nil)) rfl) (rep_two rep_int rep_int))) (rep_last (rep_int))))
      generalize o8 : (Value.agg (setCh [[.slice none 0 0], [.int .i64 0, .int .i64 0, .int .i64 0, .int .i64 0, .int .i64 0, .int .i64 0, .int .i64 0, .int .i64 0, .int .i64 0, .int .i64 0], [.int .i64 0]] []).flatten.toArray) = bA at z9
      refine EL_p bA (o8 ▸ P_build (vs := []) [[.slice none 0 0], [.int .i64 0, .int .i64 0, .int .i64 0, .int .i64 0, .int .i64 0, .int .i64 0, .int .i64 0, .int .i64 0, .int .i64 0, .int .i64 0], [.int .i64 0]] lay_129 rfl rfl .nil trivial) rfl ?_
      refine EL_mw (.int .i64 (j1)) rfl rfl ?_
      refine EL_do .plain rfl (D_storeOc (g := k8) (v := bA) Try.sizeOf129 x5 j3 rfl z9 fun dC eC hs b201 cb => ?_)
      have aD : OSF 2004 60400 0 dC eC 3 129 ([] : List Int) p2 := cb.osf (by rw [← o8]; rfl)
      clear cb
      have hfr := hfr.stp hs
      refine EL_at (.int .i64 (j1)) rfl rfl ?_
      refine EL_at (.int .i64 (9)) rfl rfl ?_
      refine EL_nil (thn_n (E_ret (thn_r ?_)))
      refine blk_r ?_
      refine thn_r ?_
      refine thn_r ?_
      refine blk_r ?_
      refine thn_r ?_
      obtain rfl := sinj h
      obtain ⟨ad202, cv202, hp202, cB, cr202⟩ := ob_read Try.isAgg129 Try.sizeOf129 b201
      exact endm_ctt rfl rfl ((show _ = p2 from x5).trans hp202) cB (show _ = .int .i64 (j1) from rfl) (show _ = .int .i64 (9) from rfl) ⟨_, hfr, _, _, _, rfl, cr202, rfl, rfl⟩
     ·refine E_cf i7 rfl ?_
      exact E_skip (thn_n (bB (i5) _ _ ⟨k8, hfr, x5, j3, u4_0_124, rfl, b193, rfl, rfl, c7, i3, d7, i6⟩ h))
    ·rintro u3 eD iC ⟨jC, hfr, v6, z4, u4_0_203, gA, iA, r8, t8, v8, l5, x8, y8⟩ h
     refine L_loadFS (x := .tmp 33) part_BoxRun_0.1 Try.isAgg22 Try.sizeOf22 z4 u4_0_203 fun jA kC o210 dB => ?_
     obtain ⟨z3, eB, h⟩ := bsome h
     refine L_loadO0 (x := .tmp 9) Try.isAgg108 Try.sizeOf108 iA fun j7 m7 iB => ?_
     refine L_loadO (x := .tmp 39) part_BoxRun_2.1 Try.isAgg3 Try.sizeOf3 z4 fun sD lC jB => ?_
     obtain rfl := RV_int.1 lC
     refine E_drawAS (g := jC) (w := iC) (i := 60400) (et := 3) (xs := ((u3).thrown : List Int)) (r := z3) (u := jA) kC o210 (n := 10) [(3, (fun v g w => RV g.m w ([o0.2.1] : List Int) v ∧ OS 3036 g w 3 ([o0.2.1] : List Int) v ∧ FullV v)), (4, (fun v g w => RV g.m w z3 v ∧ OS 60400 g w 3 z3 v))] [0, 1, 2, 3, 4, 5, 6, 7, 8, 9] rfl mixed (by kernel_rfl) (⟨fun _ => up_and upS_rv (up_and upS_os (upS_eq _)), fun _ => up_as, trivial⟩) ?_
     refine L_p (fPtr p2 0) rfl rfl (P_fieldAddr at_129_0 v6 (OB.ptr z4)) ?_
     refine L_ld (c := jA) rfl rfl .plain (fun _ _ h => ⟨h.1.ch, fun b hb ho => h.1.block b hb (by rw [ho]; decide)⟩) dB rfl ?_
     refine L_p (.int .i64 (o0.2.1)) rfl rfl (P_move r8) ?_
     refine L_do (φ := fun v g w => RV g.m w ([o0.2.1] : List Int) v ∧ OS 3036 g w 3 ([o0.2.1] : List Int) v ∧ FullV v) rfl rfl .plain (fun g w hd => D_buildSlice (g := g) 3036 (xs := ([o0.2.1] : List Int)) (vs := [.int .i64 (o0.2.1)]) Try.underlying22 Try.sizeOf3 Try.zeroValue3 rfl rfl (.cons rfl .nil) (RVs.cons (RV_int.2 rfl) RVs.nil) rfl rfl fun g' w' v hs o r hxt hfl => ⟨g', as_ext hxt, r, o, hfl⟩) (fun t5 hv => ?_)
     clear hv
     refine L_do (φ := fun v g w => RV g.m w z3 v ∧ OS 60400 g w 3 z3 v) rfl rfl .plain (fun g w hd => D_appendS (g := g) det_int rfl Try.underlying22 info_3 rfl rfl hd.1.2 rfl (word (A := fun g w => RV g.m w ([o0.2.1] : List Int) t5 ∧ OS 3036 g w 3 ([o0.2.1] : List Int) t5 ∧ FullV t5) 3 rfl rfl (deps_of hd)).1 eB) (fun j6 hv => ?_)
     clear hv
     refine L_ld (c := j7) rfl rfl .plain (fun _ _ h => ⟨h.1.ch, fun b hb ho => h.1.block b hb (by rw [ho]; decide)⟩) iB gA ?_
     refine L_p (fPtr p2 11) rfl rfl (P_fieldAddr at_129_2 v6 (OB.ptr z4)) ?_
     refine L_ld (c := .int .i64 ((u3).moves)) rfl rfl .plain (fun _ _ h => ⟨h.1.ch, fun b hb ho => h.1.block b hb (by rw [ho]; decide)⟩) jB rfl ?_
     refine L_p (.int .i64 (o0.2.2)) rfl rfl (P_move t8) ?_
     refine L_p (.int .i64 ((w64 ((u3).moves + o0.2.2)))) rfl rfl (P_int rfl rfl rfl) ?_
     refine L_nil fun lA tD hall => ?_
     have hs := hall.1.1
     have hfr := hfr.stp hs
     have z4 := z4.stp hs rfl
     have l5 := l5.stp hs
     have m7 := m7.stp hs
     have uD := (word_all (A := fun g w => RV g.m w ([o0.2.1] : List Int) t5 ∧ OS 3036 g w 3 ([o0.2.1] : List Int) t5 ∧ FullV t5) 3 rfl hall).1
     have o228 := (word_all (A := fun g w => RV g.m w ([o0.2.1] : List Int) t5 ∧ OS 3036 g w 3 ([o0.2.1] : List Int) t5 ∧ FullV t5) 3 rfl hall).2.1
     have l8 := (word_all (A := fun g w => RV g.m w z3 j6 ∧ OS 60400 g w 3 z3 j6) 4 rfl hall).1
     have o229 := (word_all (A := fun g w => RV g.m w z3 j6 ∧ OS 60400 g w 3 z3 j6) 4 rfl hall).2
     clear hs hall
     have mA : RV lA.m _ (⟨z3, o0.1, (w64 ((u3).moves + o0.2.2))⟩ : BoxRun) (.agg (setCh [[.slice none 0 0], [.int .i64 0, .int .i64 0, .int .i64 0, .int .i64 0, .int .i64 0, .int .i64 0, .int .i64 0, .int .i64 0, .int .i64 0, .int .i64 0], [.int .i64 0]] [(0, j6), (1, j7), (2, .int .i64 ((w64 ((u3).moves + o0.2.2))))]).flatten.toArray) := RV_build rfl (rep_pair (RV.cells l8) (rep_pair (RV.cells m7) (rep_last (rfl))))
     generalize q8 : (Value.agg (setCh [[.slice none 0 0], [.int .i64 0, .int .i64 0, .int .i64 0, .int .i64 0, .int .i64 0, .int .i64 0, .int .i64 0, .int .i64 0, .int .i64 0, .int .i64 0], [.int .i64 0]] [(0, j6), (1, j7), (2, .int .i64 ((w64 ((u3).moves + o0.2.2))))]).flatten.toArray) = nA at mA
     refine EL_p nA (q8 ▸ P_build (vs := [(0, j6), (1, j7), (2, .int .i64 ((w64 ((u3).moves + o0.2.2))))]) [[.slice none 0 0], [.int .i64 0, .int .i64 0, .int .i64 0, .int .i64 0, .int .i64 0, .int .i64 0, .int .i64 0, .int .i64 0, .int .i64 0, .int .i64 0], [.int .i64 0]] lay_129 rfl rfl (.cons rfl (.cons rfl (.cons rfl .nil))) ⟨⟨_, rfl, cells_size l8⟩, ⟨⟨_, rfl, cells_size m7⟩, ⟨⟨_, rfl, rfl⟩, trivial⟩⟩⟩) rfl ?_
     refine EL_do .plain rfl (D_storeOc (g := lA) (v := nA) Try.sizeOf129 v6 z4 rfl mA fun oA mC hs b236 cb => ?_)
     obtain ⟨uC, vC, m8, _, _⟩ := RV_list l8
     have pA : OSF 2004 60400 0 oA mC 3 129 (z3 : List Int) p2 := cb.osfv (by rw [← q8, m8]; rfl) (o229.stp hs rfl)
     clear cb
     have hfr := hfr.stp hs
     have l5 := l5.stp hs
     exact EL_nil (blk_n (thn_n (zA ((⟨z3, o0.1, (w64 ((u3).moves + o0.2.2))⟩ : BoxRun)) _ _ ⟨oA, hfr, v6, b236, pA, v8, l5, x8, y8⟩ h)))
   ·rintro x6 gD vD ⟨qC, hfr, qA, rA, u4_0_237, a9, d9, i9, k9⟩ h
    refine E_region (EL_in (.int .i64 ((w64 (j1 + (1 : Int))))) k9 rfl rfl rfl ?_)
    refine EL_mw (.int .i64 ((w64 (j1 + (1 : Int))))) rfl rfl ?_
    exact EL_nil (thn_n (yA (x6, (w64 (j1 + (1 : Int)))) _ _ ⟨qC, hfr, qA, rA, u4_0_237, a9, d9, i9, rfl⟩ h))
  ·refine E_cf g7 rfl ?_
   refine E_exit ?_
   refine thn_e ?_
   refine thn_e ?_
   refine blk_hit ?_
   exact thn_n (xA (i5) _ _ ⟨c8, hfr, x5, j3, u4_0_124⟩ h)
 ·rintro o7 iD xD ⟨uA, hfr, b7, u7, u4_0_238⟩ h
  refine E_seq (E_region (EL_do .plain rfl (D_loadO (g := uA) Try.isAgg129 Try.sizeOf129 b7 u7 fun rC tC => ?_)))
  refine EL_do .plain rfl (D_storeOc (g := uA) (v := rC) Try.sizeOf129 b7 u7 rfl tC fun yD zD hs b240 cb => ?_)
  clear cb
  have hfr := hfr.stp hs
  refine EL_at (.int .i64 (0)) rfl rfl ?_
  refine EL_at (.int .i64 (0)) rfl rfl ?_
  refine EL_nil (thn_n (E_ret ?_))
  obtain rfl := sinj h
  obtain ⟨ad241, cv241, hp241, lB, cr241⟩ := ob_read Try.isAgg129 Try.sizeOf129 b240
  exact endm_ctt rfl rfl ((show _ = p2 from b7).trans hp241) lB (show _ = .int .i64 (0) from rfl) (show _ = .int .i64 (0) from rfl) ⟨_, hfr, _, _, _, rfl, cr241, rfl, rfl⟩
def f84 (x0 : BoxBoxLoom) (x1 : BoxShuttle) : Option (Bool) :=
 Option.bind (α := Bool) (
  (f87 ((0 : Int)) ((9 : Int)) (([(x1).Colour] : List Int))).bind fun z4 =>
  bif z4 then
   (f87 ((0 : Int)) ((1 : Int)) (([(x1).Side] : List Int))).bind fun i5 =>
   bif i5 then
    (idx (((x0).BoxLoom).Boxes) (x1).Side).bind fun j6 =>
    (f87 ((0 : Int)) ((w64 (j6 - (1 : Int)))) (([(x1).Box] : List Int))).bind fun t5 =>
    bif t5 then
     (f87 ((0 : Int)) ((1000 : Int)) (([((x1).Yarn).Low, ((x1).Yarn).High] : List Int))).bind fun i6 =>
     bif i6 then
      some ((decide (((x1).Yarn).Low ≤ ((x1).Yarn).High)))
     else
      some (false)
    else
     some (false)
   else
    some (false)
  else
   some (false)
  ) fun v6 =>
 some (v6)
theorem en84 : Enters Try.prog 84 := enters_of Try.func84 (by kernel_rfl) rfl
theorem wk84 {gI : Gh} {wI : World} {x0 : BoxBoxLoom} {x1 : BoxShuttle} {up0 : Value} (rp0 : RV gI.m wI x0 up0) {up1 : Value} (rp1 : RV gI.m wI x1 up1) {r : Bool} (h : f84 x0 x1 = some r) : Fn Try.prog 84 #[up0, up1] gI wI (fun _ _ v => v = .bool (r)) := by
 unfold f84 at h
 refine fn_of_E Try.func84 rfl (Nat.le_of_ble_eq_true rfl) fun g0 hm hfr => ?_
 have rp0 : RV g0.m wI x0 up0 := hm ▸ rp0
 have rp1 : RV g0.m wI x1 up1 := hm ▸ rp1
 show E _ 48 none _ _ _ _ _
 refine E_seq (E_region (EL_do .plain rfl (D_box (g := g0) rfl rp0 fun g1 w1 p1 hs q1 => ?_)))
 have hfr := hfr.ext hs
 have rp1 := rp1.ext hs
 refine EL_do .plain rfl (D_box (g := g1) rfl rp1 fun g2 w2 p2 hs q2 => ?_)
 have hfr := hfr.ext hs
 have q1 := q1.ext hs
 refine EL_at (.bool false) rfl rfl ?_
 refine EL_nil (thn_n ?_)
 obtain ⟨v6, hx, h⟩ := bsome h
 refine E_join (fun e w => ∃ (g : Gh) , Fr gI wI g w ∧ e 4 = .bool (v6)) (fun Q' hQ => ?_) (fun yA zA hR => ?_)
 ·replace h := hx
  clear hx
  have y8 := PT_field (part_BoxShuttle_0).1 q2
  refine L_load (x := .tmp 5) Try.isAgg3 Try.sizeOf3 y8 fun aB a9 x6 => ?_
  obtain rfl := RV_int.1 a9
  obtain ⟨z4, y6, h⟩ := bsome h
  rcases csome h with ⟨u3, h⟩ | ⟨u3, h⟩
  ·have d9 := PT_field (part_BoxShuttle_1).1 q2
   refine L_load (x := .tmp 10) Try.isAgg3 Try.sizeOf3 d9 fun bB i9 b7 => ?_
   obtain rfl := RV_int.1 i9
   obtain ⟨i5, c7, h⟩ := bsome h
   rcases csome h with ⟨j1, h⟩ | ⟨j1, h⟩
   ·have g7 := PT_field (part_BoxBoxLoom_0).1 q1
    have k9 := PT_field (part_BoxLoom_0).1 g7
    refine L_load (x := .tmp 17) Try.isAgg22 Try.sizeOf22 k9 fun a7 i7 j7 => ?_
    have l9 := PT_field (part_BoxShuttle_1).1 q2
    refine L_load (x := .tmp 19) Try.isAgg3 Try.sizeOf3 l9 fun cB n9 m7 => ?_
    obtain rfl := RV_int.1 n9
    obtain ⟨j6, d7, h⟩ := bsome h
    have o9 := PT_idx i7 d7
    refine L_load (x := .tmp 21) Try.isAgg3 Try.sizeOf3 o9 fun dB t9 o7 => ?_
    obtain rfl := RV_int.1 t9
    have u9 := PT_field (part_BoxShuttle_2).1 q2
    refine L_load (x := .tmp 24) Try.isAgg3 Try.sizeOf3 u9 fun eB y9 u7 => ?_
    obtain rfl := RV_int.1 y9
    obtain ⟨t5, v7, h⟩ := bsome h
    rcases csome h with ⟨z3, h⟩ | ⟨z3, h⟩
    ·have g8 := PT_field (part_BoxShuttle_3).1 q2
     have z9 := PT_field (part_Span_0).1 g8
     refine L_load (x := .tmp 31) Try.isAgg3 Try.sizeOf3 z9 fun iB bA l8 => ?_
     obtain rfl := RV_int.1 bA
     have i8 := PT_field (part_BoxShuttle_3).1 q2
     have gA := PT_field (part_Span_1).1 i8
     refine L_load (x := .tmp 34) Try.isAgg3 Try.sizeOf3 gA fun jB iA m8 => ?_
     obtain rfl := RV_int.1 iA
     obtain ⟨i6, n8, h⟩ := bsome h
     rcases csome h with ⟨x5, h⟩ | ⟨x5, h⟩
     ·have o8 := PT_field (part_BoxShuttle_3).1 q2
      have jA := PT_field (part_Span_0).1 o8
      refine L_load (x := .tmp 41) Try.isAgg3 Try.sizeOf3 jA fun lB lA v8 => ?_
      obtain rfl := RV_int.1 lA
      have q8 := PT_field (part_BoxShuttle_3).1 q2
      have mA := PT_field (part_Span_1).1 q8
      refine L_load (x := .tmp 44) Try.isAgg3 Try.sizeOf3 mA fun mB nA x8 => ?_
      obtain rfl := RV_int.1 nA
      refine E_drawL (g := g2) (n := 44) [(2, (fun v g w => RV g.m w ([(x1).Colour] : List Int) v ∧ OS 3007 g w 3 ([(x1).Colour] : List Int) v ∧ FullV v)), (3, (fun v g w => v = .bool (z4))), (7, (fun v g w => RV g.m w ([(x1).Side] : List Int) v ∧ OS 3012 g w 3 ([(x1).Side] : List Int) v ∧ FullV v)), (8, (fun v g w => v = .bool (i5))), (21, (fun v g w => RV g.m w ([(x1).Box] : List Int) v ∧ OS 3026 g w 3 ([(x1).Box] : List Int) v ∧ FullV v)), (22, (fun v g w => v = .bool (t5))), (31, (fun v g w => RV g.m w ([((x1).Yarn).Low, ((x1).Yarn).High] : List Int) v ∧ OS 3036 g w 3 ([((x1).Yarn).Low, ((x1).Yarn).High] : List Int) v ∧ FullV v)), (32, (fun v g w => v = .bool (i6)))] [0, 1, 2, 3, 4, 5, 6, 7, 8, 9, 10, 11, 12, 13, 14, 15, 16, 17, 18, 19, 20, 21, 22, 23, 24, 25, 26, 27, 28, 29, 30, 31, 32, 33, 34, 35, 36, 37, 38, 39, 40, 41, 42, 43] rfl mixed (by kernel_rfl) (⟨fun _ => up_and up_rv (up_and up_os (up_eq _)), fun _ => up_eq _, fun _ => up_and up_rv (up_and up_os (up_eq _)), fun _ => up_eq _, fun _ => up_and up_rv (up_and up_os (up_eq _)), fun _ => up_eq _, fun _ => up_and up_rv (up_and up_os (up_eq _)), fun _ => up_eq _, trivial⟩) ?_
      refine L_p (fPtr p2 0) rfl rfl (P_fieldAddr at_87_0 rfl (PT.ptr q2)) ?_
      refine L_ld (c := .int .i64 ((x1).Colour)) rfl rfl .plain (fun _ _ h => h.ch) x6 rfl ?_
      refine L_do (φ := fun v g w => RV g.m w ([(x1).Colour] : List Int) v ∧ OS 3007 g w 3 ([(x1).Colour] : List Int) v ∧ FullV v) rfl rfl .plain (fun g w hd => D_buildSlice (g := g) 3007 (xs := ([(x1).Colour] : List Int)) (vs := [.int .i64 ((x1).Colour)]) Try.underlying22 Try.sizeOf3 Try.zeroValue3 rfl rfl (.cons rfl .nil) (RVs.cons (RV_int.2 rfl) RVs.nil) rfl rfl fun g' w' v hs o r hxt hfl => ⟨g', hxt, r, o, hfl⟩) (fun o0 hv => ?_)
      clear hv
      refine L_do (φ := fun v g w => v = .bool (z4)) rfl rfl .plain (fun g w hd => D_call (g := g) (vs := [.int .i64 (0), .int .i64 (9), o0]) en87 (.cons rfl (.cons rfl (.cons rfl .nil))) (wk87 (word (A := fun g w => RV g.m w ([(x1).Colour] : List Int) o0 ∧ OS 3007 g w 3 ([(x1).Colour] : List Int) o0 ∧ FullV o0) 2 rfl rfl (deps_of hd)).1 y6) fun g' w' v hs hr => ⟨g', hs, hr⟩) (fun c8 hv => ?_)
      obtain ⟨_, _, _, rfl⟩ := hv
      refine L_p (.bool (z4)) rfl rfl (P_move rfl) ?_
      refine L_y (fPtr p2 1) rfl rfl rfl rfl u3 (P_fieldAddr at_87_1 rfl (PT.ptr q2)) ?_
      refine L_ld (c := .int .i64 ((x1).Side)) rfl rfl (.yes2 rfl rfl u3) (fun _ _ h => h.ch) b7 rfl ?_
      refine L_do (φ := fun v g w => RV g.m w ([(x1).Side] : List Int) v ∧ OS 3012 g w 3 ([(x1).Side] : List Int) v ∧ FullV v) rfl rfl (.yes2 rfl rfl u3) (fun g w hd => D_buildSlice (g := g) 3012 (xs := ([(x1).Side] : List Int)) (vs := [.int .i64 ((x1).Side)]) Try.underlying22 Try.sizeOf3 Try.zeroValue3 rfl rfl (.cons rfl .nil) (RVs.cons (RV_int.2 rfl) RVs.nil) rfl rfl fun g' w' v hs o r hxt hfl => ⟨g', hxt, r, o, hfl⟩) (fun i3 hv => ?_)
      clear hv
      refine L_do (φ := fun v g w => v = .bool (i5)) rfl rfl (.yes2 rfl rfl u3) (fun g w hd => D_call (g := g) (vs := [.int .i64 (0), .int .i64 (1), i3]) en87 (.cons rfl (.cons rfl (.cons rfl .nil))) (wk87 (word (A := fun g w => RV g.m w ([(x1).Side] : List Int) i3 ∧ OS 3012 g w 3 ([(x1).Side] : List Int) i3 ∧ FullV i3) 7 rfl rfl (deps_of hd)).1 c7) fun g' w' v hs hr => ⟨g', hs, hr⟩) (fun k8 hv => ?_)
      obtain ⟨_, _, _, rfl⟩ := hv
      refine L_p (.bool (i5)) rfl rfl (P_pick (b := z4) rfl (pick_t u3 rfl)) ?_
      refine L_p (.bool (i5)) rfl rfl (P_move rfl) ?_
      refine L_y (fPtr p1 0) rfl rfl rfl rfl j1 (P_fieldAddr at_102_0 rfl (PT.ptr q1)) ?_
      refine L_y (fPtr (fPtr p1 0) 0) rfl rfl rfl rfl j1 (P_fieldAddr at_25_0 rfl (PT.ptr g7)) ?_
      refine L_ld (c := a7) rfl rfl (.yes2 rfl rfl j1) (fun _ _ h => h.ch) j7 rfl ?_
      refine L_y (fPtr p2 1) rfl rfl rfl rfl j1 (P_fieldAddr at_87_1 rfl (PT.ptr q2)) ?_
      refine L_ld (c := .int .i64 ((x1).Side)) rfl rfl (.yes2 rfl rfl j1) (fun _ _ h => h.ch) m7 rfl ?_
      refine L_y (ePtr a7 (x1).Side 1) rfl rfl rfl rfl j1 (P_indexAddr (α := Int) Try.underlying22 Try.sizeOf3 rfl i7 rfl d7) ?_
      refine L_ld (c := .int .i64 (j6)) rfl rfl (.yes2 rfl rfl j1) (fun _ _ h => h.ch) o7 rfl ?_
      refine L_y (.int .i64 ((w64 (j6 - (1 : Int))))) rfl rfl rfl rfl j1 (P_int rfl rfl rfl) ?_
      refine L_y (fPtr p2 2) rfl rfl rfl rfl j1 (P_fieldAddr at_87_2 rfl (PT.ptr q2)) ?_
      refine L_ld (c := .int .i64 ((x1).Box)) rfl rfl (.yes2 rfl rfl j1) (fun _ _ h => h.ch) u7 rfl ?_
      refine L_do (φ := fun v g w => RV g.m w ([(x1).Box] : List Int) v ∧ OS 3026 g w 3 ([(x1).Box] : List Int) v ∧ FullV v) rfl rfl (.yes2 rfl rfl j1) (fun g w hd => D_buildSlice (g := g) 3026 (xs := ([(x1).Box] : List Int)) (vs := [.int .i64 ((x1).Box)]) Try.underlying22 Try.sizeOf3 Try.zeroValue3 rfl rfl (.cons rfl .nil) (RVs.cons (RV_int.2 rfl) RVs.nil) rfl rfl fun g' w' v hs o r hxt hfl => ⟨g', hxt, r, o, hfl⟩) (fun j3 hv => ?_)
      clear hv
      refine L_do (φ := fun v g w => v = .bool (t5)) rfl rfl (.yes2 rfl rfl j1) (fun g w hd => D_call (g := g) (vs := [.int .i64 (0), .int .i64 ((w64 (j6 - (1 : Int)))), j3]) en87 (.cons rfl (.cons rfl (.cons rfl .nil))) (wk87 (word (A := fun g w => RV g.m w ([(x1).Box] : List Int) j3 ∧ OS 3026 g w 3 ([(x1).Box] : List Int) j3 ∧ FullV j3) 21 rfl rfl (deps_of hd)).1 v7) fun g' w' v hs hr => ⟨g', hs, hr⟩) (fun r8 hv => ?_)
      obtain ⟨_, _, _, rfl⟩ := hv
      refine L_p (.bool (t5)) rfl rfl (P_pick (b := i5) rfl (pick_t j1 rfl)) ?_
      refine L_p (.bool (t5)) rfl rfl (P_move rfl) ?_
      refine L_y (fPtr p2 3) rfl rfl rfl rfl z3 (P_fieldAddr at_87_3 rfl (PT.ptr q2)) ?_
      refine L_y (fPtr (fPtr p2 3) 0) rfl rfl rfl rfl z3 (P_fieldAddr at_85_0 rfl (PT.ptr g8)) ?_
      refine L_ld (c := .int .i64 (((x1).Yarn).Low)) rfl rfl (.yes2 rfl rfl z3) (fun _ _ h => h.ch) l8 rfl ?_
      refine L_y (fPtr p2 3) rfl rfl rfl rfl z3 (P_fieldAddr at_87_3 rfl (PT.ptr q2)) ?_
      refine L_y (fPtr (fPtr p2 3) 1) rfl rfl rfl rfl z3 (P_fieldAddr at_85_1 rfl (PT.ptr i8)) ?_
      refine L_ld (c := .int .i64 (((x1).Yarn).High)) rfl rfl (.yes2 rfl rfl z3) (fun _ _ h => h.ch) m8 rfl ?_
      refine L_do (φ := fun v g w => RV g.m w ([((x1).Yarn).Low, ((x1).Yarn).High] : List Int) v ∧ OS 3036 g w 3 ([((x1).Yarn).Low, ((x1).Yarn).High] : List Int) v ∧ FullV v) rfl rfl (.yes2 rfl rfl z3) (fun g w hd => D_buildSlice (g := g) 3036 (xs := ([((x1).Yarn).Low, ((x1).Yarn).High] : List Int)) (vs := [.int .i64 (((x1).Yarn).Low), .int .i64 (((x1).Yarn).High)]) Try.underlying22 Try.sizeOf3 Try.zeroValue3 rfl rfl (.cons rfl (.cons rfl .nil)) (RVs.cons (RV_int.2 rfl) (RVs.cons (RV_int.2 rfl) RVs.nil)) rfl rfl fun g' w' v hs o r hxt hfl => ⟨g', hxt, r, o, hfl⟩) (fun l5 hv => ?_)
      clear hv
      refine L_do (φ := fun v g w => v = .bool (i6)) rfl rfl (.yes2 rfl rfl z3) (fun g w hd => D_call (g := g) (vs := [.int .i64 (0), .int .i64 (1000), l5]) en87 (.cons rfl (.cons rfl (.cons rfl .nil))) (wk87 (word (A := fun g w => RV g.m w ([((x1).Yarn).Low, ((x1).Yarn).High] : List Int) l5 ∧ OS 3036 g w 3 ([((x1).Yarn).Low, ((x1).Yarn).High] : List Int) l5 ∧ FullV l5) 31 rfl rfl (deps_of hd)).1 n8) fun g' w' v hs hr => ⟨g', hs, hr⟩) (fun oA hv => ?_)
      obtain ⟨_, _, _, rfl⟩ := hv
      refine L_p (.bool (i6)) rfl rfl (P_pick (b := t5) rfl (pick_t z3 rfl)) ?_
      refine L_p (.bool (i6)) rfl rfl (P_move rfl) ?_
      refine L_y (fPtr p2 3) rfl rfl rfl rfl x5 (P_fieldAddr at_87_3 rfl (PT.ptr q2)) ?_
      refine L_y (fPtr (fPtr p2 3) 0) rfl rfl rfl rfl x5 (P_fieldAddr at_85_0 rfl (PT.ptr o8)) ?_
      refine L_ld (c := .int .i64 (((x1).Yarn).Low)) rfl rfl (.yes2 rfl rfl x5) (fun _ _ h => h.ch) v8 rfl ?_
      refine L_y (fPtr p2 3) rfl rfl rfl rfl x5 (P_fieldAddr at_87_3 rfl (PT.ptr q2)) ?_
      refine L_y (fPtr (fPtr p2 3) 1) rfl rfl rfl rfl x5 (P_fieldAddr at_85_1 rfl (PT.ptr q8)) ?_
      refine L_ld (c := .int .i64 (((x1).Yarn).High)) rfl rfl (.yes2 rfl rfl x5) (fun _ _ h => h.ch) x8 rfl ?_
      refine L_y (.bool ((decide (((x1).Yarn).Low ≤ ((x1).Yarn).High)))) rfl rfl rfl rfl x5 (P_int rfl rfl rfl) ?_
      refine L_p (.bool ((decide (((x1).Yarn).Low ≤ ((x1).Yarn).High)))) rfl rfl (P_pick (b := i6) rfl (pick_t x5 rfl)) ?_
      refine L_p (.bool ((decide (((x1).Yarn).Low ≤ ((x1).Yarn).High)))) rfl rfl (P_assign rfl) ?_
      refine L_nil fun pA nB hall => ?_
      have hs := hall.1
      have hfr := hfr.ext hs
      have oB := (word_all (A := fun g w => RV g.m w ([(x1).Colour] : List Int) o0 ∧ OS 3007 g w 3 ([(x1).Colour] : List Int) o0 ∧ FullV o0) 2 rfl hall).1
      have o341 := (word_all (A := fun g w => RV g.m w ([(x1).Colour] : List Int) o0 ∧ OS 3007 g w 3 ([(x1).Colour] : List Int) o0 ∧ FullV o0) 2 rfl hall).2.1
      have tB := (word_all (A := fun g w => RV g.m w ([(x1).Side] : List Int) i3 ∧ OS 3012 g w 3 ([(x1).Side] : List Int) i3 ∧ FullV i3) 7 rfl hall).1
      have o346 := (word_all (A := fun g w => RV g.m w ([(x1).Side] : List Int) i3 ∧ OS 3012 g w 3 ([(x1).Side] : List Int) i3 ∧ FullV i3) 7 rfl hall).2.1
      have vB := (word_all (A := fun g w => RV g.m w ([(x1).Box] : List Int) j3 ∧ OS 3026 g w 3 ([(x1).Box] : List Int) j3 ∧ FullV j3) 21 rfl hall).1
      have o360 := (word_all (A := fun g w => RV g.m w ([(x1).Box] : List Int) j3 ∧ OS 3026 g w 3 ([(x1).Box] : List Int) j3 ∧ FullV j3) 21 rfl hall).2.1
      have xB := (word_all (A := fun g w => RV g.m w ([((x1).Yarn).Low, ((x1).Yarn).High] : List Int) l5 ∧ OS 3036 g w 3 ([((x1).Yarn).Low, ((x1).Yarn).High] : List Int) l5 ∧ FullV l5) 31 rfl hall).1
      have o370 := (word_all (A := fun g w => RV g.m w ([((x1).Yarn).Low, ((x1).Yarn).High] : List Int) l5 ∧ OS 3036 g w 3 ([((x1).Yarn).Low, ((x1).Yarn).High] : List Int) l5 ∧ FullV l5) 31 rfl hall).2.1
      clear hs hall
      refine EL_nil ?_
      obtain rfl := sinj h
      exact hQ _ _ ⟨pA, hfr, rfl⟩
     ·refine E_drawL (g := g2) (n := 44) [(2, (fun v g w => RV g.m w ([(x1).Colour] : List Int) v ∧ OS 3007 g w 3 ([(x1).Colour] : List Int) v ∧ FullV v)), (3, (fun v g w => v = .bool (z4))), (7, (fun v g w => RV g.m w ([(x1).Side] : List Int) v ∧ OS 3012 g w 3 ([(x1).Side] : List Int) v ∧ FullV v)), (8, (fun v g w => v = .bool (i5))), (21, (fun v g w => RV g.m w ([(x1).Box] : List Int) v ∧ OS 3026 g w 3 ([(x1).Box] : List Int) v ∧ FullV v)), (22, (fun v g w => v = .bool (t5))), (31, (fun v g w => RV g.m w ([((x1).Yarn).Low, ((x1).Yarn).High] : List Int) v ∧ OS 3036 g w 3 ([((x1).Yarn).Low, ((x1).Yarn).High] : List Int) v ∧ FullV v)), (32, (fun v g w => v = .bool (i6)))] [0, 1, 2, 3, 4, 5, 6, 7, 8, 9, 10, 11, 12, 13, 14, 15, 16, 17, 18, 19, 20, 21, 22, 23, 24, 25, 26, 27, 28, 29, 30, 31, 32, 33, 34, 35, 36, 37, 38, 39, 40, 41, 42, 43] rfl mixed (by kernel_rfl) (⟨fun _ => up_and up_rv (up_and up_os (up_eq _)), fun _ => up_eq _, fun _ => up_and up_rv (up_and up_os (up_eq _)), fun _ => up_eq _, fun _ => up_and up_rv (up_and up_os (up_eq _)), fun _ => up_eq _, fun _ => up_and up_rv (up_and up_os (up_eq _)), fun _ => up_eq _, trivial⟩) ?_
      refine L_p (fPtr p2 0) rfl rfl (P_fieldAddr at_87_0 rfl (PT.ptr q2)) ?_
      refine L_ld (c := .int .i64 ((x1).Colour)) rfl rfl .plain (fun _ _ h => h.ch) x6 rfl ?_
      refine L_do (φ := fun v g w => RV g.m w ([(x1).Colour] : List Int) v ∧ OS 3007 g w 3 ([(x1).Colour] : List Int) v ∧ FullV v) rfl rfl .plain (fun g w hd => D_buildSlice (g := g) 3007 (xs := ([(x1).Colour] : List Int)) (vs := [.int .i64 ((x1).Colour)]) Try.underlying22 Try.sizeOf3 Try.zeroValue3 rfl rfl (.cons rfl .nil) (RVs.cons (RV_int.2 rfl) RVs.nil) rfl rfl fun g' w' v hs o r hxt hfl => ⟨g', hxt, r, o, hfl⟩) (fun o0 hv => ?_)
      clear hv
      refine L_do (φ := fun v g w => v = .bool (z4)) rfl rfl .plain (fun g w hd => D_call (g := g) (vs := [.int .i64 (0), .int .i64 (9), o0]) en87 (.cons rfl (.cons rfl (.cons rfl .nil))) (wk87 (word (A := fun g w => RV g.m w ([(x1).Colour] : List Int) o0 ∧ OS 3007 g w 3 ([(x1).Colour] : List Int) o0 ∧ FullV o0) 2 rfl rfl (deps_of hd)).1 y6) fun g' w' v hs hr => ⟨g', hs, hr⟩) (fun c8 hv => ?_)
      obtain ⟨_, _, _, rfl⟩ := hv
      refine L_p (.bool (z4)) rfl rfl (P_move rfl) ?_
      refine L_y (fPtr p2 1) rfl rfl rfl rfl u3 (P_fieldAddr at_87_1 rfl (PT.ptr q2)) ?_
      refine L_ld (c := .int .i64 ((x1).Side)) rfl rfl (.yes2 rfl rfl u3) (fun _ _ h => h.ch) b7 rfl ?_
      refine L_do (φ := fun v g w => RV g.m w ([(x1).Side] : List Int) v ∧ OS 3012 g w 3 ([(x1).Side] : List Int) v ∧ FullV v) rfl rfl (.yes2 rfl rfl u3) (fun g w hd => D_buildSlice (g := g) 3012 (xs := ([(x1).Side] : List Int)) (vs := [.int .i64 ((x1).Side)]) Try.underlying22 Try.sizeOf3 Try.zeroValue3 rfl rfl (.cons rfl .nil) (RVs.cons (RV_int.2 rfl) RVs.nil) rfl rfl fun g' w' v hs o r hxt hfl => ⟨g', hxt, r, o, hfl⟩) (fun i3 hv => ?_)
      clear hv
      refine L_do (φ := fun v g w => v = .bool (i5)) rfl rfl (.yes2 rfl rfl u3) (fun g w hd => D_call (g := g) (vs := [.int .i64 (0), .int .i64 (1), i3]) en87 (.cons rfl (.cons rfl (.cons rfl .nil))) (wk87 (word (A := fun g w => RV g.m w ([(x1).Side] : List Int) i3 ∧ OS 3012 g w 3 ([(x1).Side] : List Int) i3 ∧ FullV i3) 7 rfl rfl (deps_of hd)).1 c7) fun g' w' v hs hr => ⟨g', hs, hr⟩) (fun k8 hv => ?_)
      obtain ⟨_, _, _, rfl⟩ := hv
      refine L_p (.bool (i5)) rfl rfl (P_pick (b := z4) rfl (pick_t u3 rfl)) ?_
      refine L_p (.bool (i5)) rfl rfl (P_move rfl) ?_
      refine L_y (fPtr p1 0) rfl rfl rfl rfl j1 (P_fieldAddr at_102_0 rfl (PT.ptr q1)) ?_
      refine L_y (fPtr (fPtr p1 0) 0) rfl rfl rfl rfl j1 (P_fieldAddr at_25_0 rfl (PT.ptr g7)) ?_
      refine L_ld (c := a7) rfl rfl (.yes2 rfl rfl j1) (fun _ _ h => h.ch) j7 rfl ?_
      refine L_y (fPtr p2 1) rfl rfl rfl rfl j1 (P_fieldAddr at_87_1 rfl (PT.ptr q2)) ?_
      refine L_ld (c := .int .i64 ((x1).Side)) rfl rfl (.yes2 rfl rfl j1) (fun _ _ h => h.ch) m7 rfl ?_
      refine L_y (ePtr a7 (x1).Side 1) rfl rfl rfl rfl j1 (P_indexAddr (α := Int) Try.underlying22 Try.sizeOf3 rfl i7 rfl d7) ?_
      refine L_ld (c := .int .i64 (j6)) rfl rfl (.yes2 rfl rfl j1) (fun _ _ h => h.ch) o7 rfl ?_
      refine L_y (.int .i64 ((w64 (j6 - (1 : Int))))) rfl rfl rfl rfl j1 (P_int rfl rfl rfl) ?_
      refine L_y (fPtr p2 2) rfl rfl rfl rfl j1 (P_fieldAddr at_87_2 rfl (PT.ptr q2)) ?_
      refine L_ld (c := .int .i64 ((x1).Box)) rfl rfl (.yes2 rfl rfl j1) (fun _ _ h => h.ch) u7 rfl ?_
      refine L_do (φ := fun v g w => RV g.m w ([(x1).Box] : List Int) v ∧ OS 3026 g w 3 ([(x1).Box] : List Int) v ∧ FullV v) rfl rfl (.yes2 rfl rfl j1) (fun g w hd => D_buildSlice (g := g) 3026 (xs := ([(x1).Box] : List Int)) (vs := [.int .i64 ((x1).Box)]) Try.underlying22 Try.sizeOf3 Try.zeroValue3 rfl rfl (.cons rfl .nil) (RVs.cons (RV_int.2 rfl) RVs.nil) rfl rfl fun g' w' v hs o r hxt hfl => ⟨g', hxt, r, o, hfl⟩) (fun j3 hv => ?_)
      clear hv
      refine L_do (φ := fun v g w => v = .bool (t5)) rfl rfl (.yes2 rfl rfl j1) (fun g w hd => D_call (g := g) (vs := [.int .i64 (0), .int .i64 ((w64 (j6 - (1 : Int)))), j3]) en87 (.cons rfl (.cons rfl (.cons rfl .nil))) (wk87 (word (A := fun g w => RV g.m w ([(x1).Box] : List Int) j3 ∧ OS 3026 g w 3 ([(x1).Box] : List Int) j3 ∧ FullV j3) 21 rfl rfl (deps_of hd)).1 v7) fun g' w' v hs hr => ⟨g', hs, hr⟩) (fun r8 hv => ?_)
      obtain ⟨_, _, _, rfl⟩ := hv
      refine L_p (.bool (t5)) rfl rfl (P_pick (b := i5) rfl (pick_t j1 rfl)) ?_
      refine L_p (.bool (t5)) rfl rfl (P_move rfl) ?_
      refine L_y (fPtr p2 3) rfl rfl rfl rfl z3 (P_fieldAddr at_87_3 rfl (PT.ptr q2)) ?_
      refine L_y (fPtr (fPtr p2 3) 0) rfl rfl rfl rfl z3 (P_fieldAddr at_85_0 rfl (PT.ptr g8)) ?_
      refine L_ld (c := .int .i64 (((x1).Yarn).Low)) rfl rfl (.yes2 rfl rfl z3) (fun _ _ h => h.ch) l8 rfl ?_
      refine L_y (fPtr p2 3) rfl rfl rfl rfl z3 (P_fieldAddr at_87_3 rfl (PT.ptr q2)) ?_
      refine L_y (fPtr (fPtr p2 3) 1) rfl rfl rfl rfl z3 (P_fieldAddr at_85_1 rfl (PT.ptr i8)) ?_
      refine L_ld (c := .int .i64 (((x1).Yarn).High)) rfl rfl (.yes2 rfl rfl z3) (fun _ _ h => h.ch) m8 rfl ?_
      refine L_do (φ := fun v g w => RV g.m w ([((x1).Yarn).Low, ((x1).Yarn).High] : List Int) v ∧ OS 3036 g w 3 ([((x1).Yarn).Low, ((x1).Yarn).High] : List Int) v ∧ FullV v) rfl rfl (.yes2 rfl rfl z3) (fun g w hd => D_buildSlice (g := g) 3036 (xs := ([((x1).Yarn).Low, ((x1).Yarn).High] : List Int)) (vs := [.int .i64 (((x1).Yarn).Low), .int .i64 (((x1).Yarn).High)]) Try.underlying22 Try.sizeOf3 Try.zeroValue3 rfl rfl (.cons rfl (.cons rfl .nil)) (RVs.cons (RV_int.2 rfl) (RVs.cons (RV_int.2 rfl) RVs.nil)) rfl rfl fun g' w' v hs o r hxt hfl => ⟨g', hxt, r, o, hfl⟩) (fun l5 hv => ?_)
      clear hv
      refine L_do (φ := fun v g w => v = .bool (i6)) rfl rfl (.yes2 rfl rfl z3) (fun g w hd => D_call (g := g) (vs := [.int .i64 (0), .int .i64 (1000), l5]) en87 (.cons rfl (.cons rfl (.cons rfl .nil))) (wk87 (word (A := fun g w => RV g.m w ([((x1).Yarn).Low, ((x1).Yarn).High] : List Int) l5 ∧ OS 3036 g w 3 ([((x1).Yarn).Low, ((x1).Yarn).High] : List Int) l5 ∧ FullV l5) 31 rfl rfl (deps_of hd)).1 n8) fun g' w' v hs hr => ⟨g', hs, hr⟩) (fun oA hv => ?_)
      obtain ⟨_, _, _, rfl⟩ := hv
      refine L_p (.bool (i6)) rfl rfl (P_pick (b := t5) rfl (pick_t z3 rfl)) ?_
      refine L_p (.bool (i6)) rfl rfl (P_move rfl) ?_
      iterate 7 refine L_s rfl rfl rfl x5 rfl ?_
      refine L_p (.bool false) rfl rfl (P_pick (b := i6) rfl (pick_f x5 rfl)) ?_
      refine L_p (.bool false) rfl rfl (P_assign rfl) ?_
      refine L_nil fun qA yB hall => ?_
      have hs := hall.1
      have hfr := hfr.ext hs
      have zB := (word_all (A := fun g w => RV g.m w ([(x1).Colour] : List Int) o0 ∧ OS 3007 g w 3 ([(x1).Colour] : List Int) o0 ∧ FullV o0) 2 rfl hall).1
      have o390 := (word_all (A := fun g w => RV g.m w ([(x1).Colour] : List Int) o0 ∧ OS 3007 g w 3 ([(x1).Colour] : List Int) o0 ∧ FullV o0) 2 rfl hall).2.1
      have aC := (word_all (A := fun g w => RV g.m w ([(x1).Side] : List Int) i3 ∧ OS 3012 g w 3 ([(x1).Side] : List Int) i3 ∧ FullV i3) 7 rfl hall).1
      have o395 := (word_all (A := fun g w => RV g.m w ([(x1).Side] : List Int) i3 ∧ OS 3012 g w 3 ([(x1).Side] : List Int) i3 ∧ FullV i3) 7 rfl hall).2.1
      have cC := (word_all (A := fun g w => RV g.m w ([(x1).Box] : List Int) j3 ∧ OS 3026 g w 3 ([(x1).Box] : List Int) j3 ∧ FullV j3) 21 rfl hall).1
      have o409 := (word_all (A := fun g w => RV g.m w ([(x1).Box] : List Int) j3 ∧ OS 3026 g w 3 ([(x1).Box] : List Int) j3 ∧ FullV j3) 21 rfl hall).2.1
      have dC := (word_all (A := fun g w => RV g.m w ([((x1).Yarn).Low, ((x1).Yarn).High] : List Int) l5 ∧ OS 3036 g w 3 ([((x1).Yarn).Low, ((x1).Yarn).High] : List Int) l5 ∧ FullV l5) 31 rfl hall).1
      have o419 := (word_all (A := fun g w => RV g.m w ([((x1).Yarn).Low, ((x1).Yarn).High] : List Int) l5 ∧ OS 3036 g w 3 ([((x1).Yarn).Low, ((x1).Yarn).High] : List Int) l5 ∧ FullV l5) 31 rfl hall).2.1
      clear hs hall
      refine EL_nil ?_
      obtain rfl := sinj h
      exact hQ _ _ ⟨qA, hfr, rfl⟩
    ·refine E_drawL (g := g2) (n := 44) [(2, (fun v g w => RV g.m w ([(x1).Colour] : List Int) v ∧ OS 3007 g w 3 ([(x1).Colour] : List Int) v ∧ FullV v)), (3, (fun v g w => v = .bool (z4))), (7, (fun v g w => RV g.m w ([(x1).Side] : List Int) v ∧ OS 3012 g w 3 ([(x1).Side] : List Int) v ∧ FullV v)), (8, (fun v g w => v = .bool (i5))), (21, (fun v g w => RV g.m w ([(x1).Box] : List Int) v ∧ OS 3026 g w 3 ([(x1).Box] : List Int) v ∧ FullV v)), (22, (fun v g w => v = .bool (t5)))] [0, 1, 2, 3, 4, 5, 6, 7, 8, 9, 10, 11, 12, 13, 14, 15, 16, 17, 18, 19, 20, 21, 22, 23, 24, 25, 26, 27, 28, 29, 30, 31, 32, 33, 34, 35, 36, 37, 38, 39, 40, 41, 42, 43] rfl mixed (by kernel_rfl) (⟨fun _ => up_and up_rv (up_and up_os (up_eq _)), fun _ => up_eq _, fun _ => up_and up_rv (up_and up_os (up_eq _)), fun _ => up_eq _, fun _ => up_and up_rv (up_and up_os (up_eq _)), fun _ => up_eq _, trivial⟩) ?_
     refine L_p (fPtr p2 0) rfl rfl (P_fieldAddr at_87_0 rfl (PT.ptr q2)) ?_
     refine L_ld (c := .int .i64 ((x1).Colour)) rfl rfl .plain (fun _ _ h => h.ch) x6 rfl ?_
     refine L_do (φ := fun v g w => RV g.m w ([(x1).Colour] : List Int) v ∧ OS 3007 g w 3 ([(x1).Colour] : List Int) v ∧ FullV v) rfl rfl .plain (fun g w hd => D_buildSlice (g := g) 3007 (xs := ([(x1).Colour] : List Int)) (vs := [.int .i64 ((x1).Colour)]) Try.underlying22 Try.sizeOf3 Try.zeroValue3 rfl rfl (.cons rfl .nil) (RVs.cons (RV_int.2 rfl) RVs.nil) rfl rfl fun g' w' v hs o r hxt hfl => ⟨g', hxt, r, o, hfl⟩) (fun o0 hv => ?_)
     clear hv
     refine L_do (φ := fun v g w => v = .bool (z4)) rfl rfl .plain (fun g w hd => D_call (g := g) (vs := [.int .i64 (0), .int .i64 (9), o0]) en87 (.cons rfl (.cons rfl (.cons rfl .nil))) (wk87 (word (A := fun g w => RV g.m w ([(x1).Colour] : List Int) o0 ∧ OS 3007 g w 3 ([(x1).Colour] : List Int) o0 ∧ FullV o0) 2 rfl rfl (deps_of hd)).1 y6) fun g' w' v hs hr => ⟨g', hs, hr⟩) (fun c8 hv => ?_)
     obtain ⟨_, _, _, rfl⟩ := hv
     refine L_p (.bool (z4)) rfl rfl (P_move rfl) ?_
     refine L_y (fPtr p2 1) rfl rfl rfl rfl u3 (P_fieldAddr at_87_1 rfl (PT.ptr q2)) ?_
     refine L_ld (c := .int .i64 ((x1).Side)) rfl rfl (.yes2 rfl rfl u3) (fun _ _ h => h.ch) b7 rfl ?_
     refine L_do (φ := fun v g w => RV g.m w ([(x1).Side] : List Int) v ∧ OS 3012 g w 3 ([(x1).Side] : List Int) v ∧ FullV v) rfl rfl (.yes2 rfl rfl u3) (fun g w hd => D_buildSlice (g := g) 3012 (xs := ([(x1).Side] : List Int)) (vs := [.int .i64 ((x1).Side)]) Try.underlying22 Try.sizeOf3 Try.zeroValue3 rfl rfl (.cons rfl .nil) (RVs.cons (RV_int.2 rfl) RVs.nil) rfl rfl fun g' w' v hs o r hxt hfl => ⟨g', hxt, r, o, hfl⟩) (fun i3 hv => ?_)
     clear hv
     refine L_do (φ := fun v g w => v = .bool (i5)) rfl rfl (.yes2 rfl rfl u3) (fun g w hd => D_call (g := g) (vs := [.int .i64 (0), .int .i64 (1), i3]) en87 (.cons rfl (.cons rfl (.cons rfl .nil))) (wk87 (word (A := fun g w => RV g.m w ([(x1).Side] : List Int) i3 ∧ OS 3012 g w 3 ([(x1).Side] : List Int) i3 ∧ FullV i3) 7 rfl rfl (deps_of hd)).1 c7) fun g' w' v hs hr => ⟨g', hs, hr⟩) (fun k8 hv => ?_)
     obtain ⟨_, _, _, rfl⟩ := hv
     refine L_p (.bool (i5)) rfl rfl (P_pick (b := z4) rfl (pick_t u3 rfl)) ?_
     refine L_p (.bool (i5)) rfl rfl (P_move rfl) ?_
     refine L_y (fPtr p1 0) rfl rfl rfl rfl j1 (P_fieldAddr at_102_0 rfl (PT.ptr q1)) ?_
     refine L_y (fPtr (fPtr p1 0) 0) rfl rfl rfl rfl j1 (P_fieldAddr at_25_0 rfl (PT.ptr g7)) ?_
     refine L_ld (c := a7) rfl rfl (.yes2 rfl rfl j1) (fun _ _ h => h.ch) j7 rfl ?_
     refine L_y (fPtr p2 1) rfl rfl rfl rfl j1 (P_fieldAddr at_87_1 rfl (PT.ptr q2)) ?_
     refine L_ld (c := .int .i64 ((x1).Side)) rfl rfl (.yes2 rfl rfl j1) (fun _ _ h => h.ch) m7 rfl ?_
     refine L_y (ePtr a7 (x1).Side 1) rfl rfl rfl rfl j1 (P_indexAddr (α := Int) Try.underlying22 Try.sizeOf3 rfl i7 rfl d7) ?_
     refine L_ld (c := .int .i64 (j6)) rfl rfl (.yes2 rfl rfl j1) (fun _ _ h => h.ch) o7 rfl ?_
     refine L_y (.int .i64 ((w64 (j6 - (1 : Int))))) rfl rfl rfl rfl j1 (P_int rfl rfl rfl) ?_
     refine L_y (fPtr p2 2) rfl rfl rfl rfl j1 (P_fieldAddr at_87_2 rfl (PT.ptr q2)) ?_
     refine L_ld (c := .int .i64 ((x1).Box)) rfl rfl (.yes2 rfl rfl j1) (fun _ _ h => h.ch) u7 rfl ?_
     refine L_do (φ := fun v g w => RV g.m w ([(x1).Box] : List Int) v ∧ OS 3026 g w 3 ([(x1).Box] : List Int) v ∧ FullV v) rfl rfl (.yes2 rfl rfl j1) (fun g w hd => D_buildSlice (g := g) 3026 (xs := ([(x1).Box] : List Int)) (vs := [.int .i64 ((x1).Box)]) Try.underlying22 Try.sizeOf3 Try.zeroValue3 rfl rfl (.cons rfl .nil) (RVs.cons (RV_int.2 rfl) RVs.nil) rfl rfl fun g' w' v hs o r hxt hfl => ⟨g', hxt, r, o, hfl⟩) (fun j3 hv => ?_)
     clear hv
     refine L_do (φ := fun v g w => v = .bool (t5)) rfl rfl (.yes2 rfl rfl j1) (fun g w hd => D_call (g := g) (vs := [.int .i64 (0), .int .i64 ((w64 (j6 - (1 : Int)))), j3]) en87 (.cons rfl (.cons rfl (.cons rfl .nil))) (wk87 (word (A := fun g w => RV g.m w ([(x1).Box] : List Int) j3 ∧ OS 3026 g w 3 ([(x1).Box] : List Int) j3 ∧ FullV j3) 21 rfl rfl (deps_of hd)).1 v7) fun g' w' v hs hr => ⟨g', hs, hr⟩) (fun r8 hv => ?_)
     obtain ⟨_, _, _, rfl⟩ := hv
     refine L_p (.bool (t5)) rfl rfl (P_pick (b := i5) rfl (pick_t j1 rfl)) ?_
     refine L_p (.bool (t5)) rfl rfl (P_move rfl) ?_
     iterate 8 refine L_s rfl rfl rfl z3 rfl ?_
     refine L_p (.bool false) rfl rfl (P_pick (b := t5) rfl (pick_f z3 rfl)) ?_
     refine L_dead (fun _ => rfl) 9 rfl ?_
     refine L_p (.bool false) rfl rfl (P_assign rfl) ?_
     refine L_nil fun rA eC hall => ?_
     have hs := hall.1
     have hfr := hfr.ext hs
     have iC := (word_all (A := fun g w => RV g.m w ([(x1).Colour] : List Int) o0 ∧ OS 3007 g w 3 ([(x1).Colour] : List Int) o0 ∧ FullV o0) 2 rfl hall).1
     have o439 := (word_all (A := fun g w => RV g.m w ([(x1).Colour] : List Int) o0 ∧ OS 3007 g w 3 ([(x1).Colour] : List Int) o0 ∧ FullV o0) 2 rfl hall).2.1
     have jC := (word_all (A := fun g w => RV g.m w ([(x1).Side] : List Int) i3 ∧ OS 3012 g w 3 ([(x1).Side] : List Int) i3 ∧ FullV i3) 7 rfl hall).1
     have o444 := (word_all (A := fun g w => RV g.m w ([(x1).Side] : List Int) i3 ∧ OS 3012 g w 3 ([(x1).Side] : List Int) i3 ∧ FullV i3) 7 rfl hall).2.1
     have kC := (word_all (A := fun g w => RV g.m w ([(x1).Box] : List Int) j3 ∧ OS 3026 g w 3 ([(x1).Box] : List Int) j3 ∧ FullV j3) 21 rfl hall).1
     have o458 := (word_all (A := fun g w => RV g.m w ([(x1).Box] : List Int) j3 ∧ OS 3026 g w 3 ([(x1).Box] : List Int) j3 ∧ FullV j3) 21 rfl hall).2.1
     clear hs hall
     refine EL_nil ?_
     obtain rfl := sinj h
     exact hQ _ _ ⟨rA, hfr, rfl⟩
   ·refine E_drawL (g := g2) (n := 44) [(2, (fun v g w => RV g.m w ([(x1).Colour] : List Int) v ∧ OS 3007 g w 3 ([(x1).Colour] : List Int) v ∧ FullV v)), (3, (fun v g w => v = .bool (z4))), (7, (fun v g w => RV g.m w ([(x1).Side] : List Int) v ∧ OS 3012 g w 3 ([(x1).Side] : List Int) v ∧ FullV v)), (8, (fun v g w => v = .bool (i5)))] [0, 1, 2, 3, 4, 5, 6, 7, 8, 9, 10, 11, 12, 13, 14, 15, 16, 17, 18, 19, 20, 21, 22, 23, 24, 25, 26, 27, 28, 29, 30, 31, 32, 33, 34, 35, 36, 37, 38, 39, 40, 41, 42, 43] rfl mixed (by kernel_rfl) (⟨fun _ => up_and up_rv (up_and up_os (up_eq _)), fun _ => up_eq _, fun _ => up_and up_rv (up_and up_os (up_eq _)), fun _ => up_eq _, trivial⟩) ?_
    refine L_p (fPtr p2 0) rfl rfl (P_fieldAddr at_87_0 rfl (PT.ptr q2)) ?_
    refine L_ld (c := .int .i64 ((x1).Colour)) rfl rfl .plain (fun _ _ h => h.ch) x6 rfl ?_
    refine L_do (φ := fun v g w => RV g.m w ([(x1).Colour] : List Int) v ∧ OS 3007 g w 3 ([(x1).Colour] : List Int) v ∧ FullV v) rfl rfl .plain (fun g w hd => D_buildSlice (g := g) 3007 (xs := ([(x1).Colour] : List Int)) (vs := [.int .i64 ((x1).Colour)]) Try.underlying22 Try.sizeOf3 Try.zeroValue3 rfl rfl (.cons rfl .nil) (RVs.cons (RV_int.2 rfl) RVs.nil) rfl rfl fun g' w' v hs o r hxt hfl => ⟨g', hxt, r, o, hfl⟩) (fun o0 hv => ?_)
    clear hv
    refine L_do (φ := fun v g w => v = .bool (z4)) rfl rfl .plain (fun g w hd => D_call (g := g) (vs := [.int .i64 (0), .int .i64 (9), o0]) en87 (.cons rfl (.cons rfl (.cons rfl .nil))) (wk87 (word (A := fun g w => RV g.m w ([(x1).Colour] : List Int) o0 ∧ OS 3007 g w 3 ([(x1).Colour] : List Int) o0 ∧ FullV o0) 2 rfl rfl (deps_of hd)).1 y6) fun g' w' v hs hr => ⟨g', hs, hr⟩) (fun c8 hv => ?_)
    obtain ⟨_, _, _, rfl⟩ := hv
    refine L_p (.bool (z4)) rfl rfl (P_move rfl) ?_
    refine L_y (fPtr p2 1) rfl rfl rfl rfl u3 (P_fieldAddr at_87_1 rfl (PT.ptr q2)) ?_
    refine L_ld (c := .int .i64 ((x1).Side)) rfl rfl (.yes2 rfl rfl u3) (fun _ _ h => h.ch) b7 rfl ?_
    refine L_do (φ := fun v g w => RV g.m w ([(x1).Side] : List Int) v ∧ OS 3012 g w 3 ([(x1).Side] : List Int) v ∧ FullV v) rfl rfl (.yes2 rfl rfl u3) (fun g w hd => D_buildSlice (g := g) 3012 (xs := ([(x1).Side] : List Int)) (vs := [.int .i64 ((x1).Side)]) Try.underlying22 Try.sizeOf3 Try.zeroValue3 rfl rfl (.cons rfl .nil) (RVs.cons (RV_int.2 rfl) RVs.nil) rfl rfl fun g' w' v hs o r hxt hfl => ⟨g', hxt, r, o, hfl⟩) (fun i3 hv => ?_)
    clear hv
    refine L_do (φ := fun v g w => v = .bool (i5)) rfl rfl (.yes2 rfl rfl u3) (fun g w hd => D_call (g := g) (vs := [.int .i64 (0), .int .i64 (1), i3]) en87 (.cons rfl (.cons rfl (.cons rfl .nil))) (wk87 (word (A := fun g w => RV g.m w ([(x1).Side] : List Int) i3 ∧ OS 3012 g w 3 ([(x1).Side] : List Int) i3 ∧ FullV i3) 7 rfl rfl (deps_of hd)).1 c7) fun g' w' v hs hr => ⟨g', hs, hr⟩) (fun k8 hv => ?_)
    obtain ⟨_, _, _, rfl⟩ := hv
    refine L_p (.bool (i5)) rfl rfl (P_pick (b := z4) rfl (pick_t u3 rfl)) ?_
    refine L_p (.bool (i5)) rfl rfl (P_move rfl) ?_
    iterate 12 refine L_s rfl rfl rfl j1 rfl ?_
    refine L_p (.bool false) rfl rfl (P_pick (b := i5) rfl (pick_f j1 rfl)) ?_
    refine L_dead (fun _ => rfl) 19 rfl ?_
    refine L_p (.bool false) rfl rfl (P_assign rfl) ?_
    refine L_nil fun uA lC hall => ?_
    have hs := hall.1
    have hfr := hfr.ext hs
    have mC := (word_all (A := fun g w => RV g.m w ([(x1).Colour] : List Int) o0 ∧ OS 3007 g w 3 ([(x1).Colour] : List Int) o0 ∧ FullV o0) 2 rfl hall).1
    have o488 := (word_all (A := fun g w => RV g.m w ([(x1).Colour] : List Int) o0 ∧ OS 3007 g w 3 ([(x1).Colour] : List Int) o0 ∧ FullV o0) 2 rfl hall).2.1
    have qC := (word_all (A := fun g w => RV g.m w ([(x1).Side] : List Int) i3 ∧ OS 3012 g w 3 ([(x1).Side] : List Int) i3 ∧ FullV i3) 7 rfl hall).1
    have o493 := (word_all (A := fun g w => RV g.m w ([(x1).Side] : List Int) i3 ∧ OS 3012 g w 3 ([(x1).Side] : List Int) i3 ∧ FullV i3) 7 rfl hall).2.1
    clear hs hall
    refine EL_nil ?_
    obtain rfl := sinj h
    exact hQ _ _ ⟨uA, hfr, rfl⟩
  ·refine E_drawL (g := g2) (n := 44) [(2, (fun v g w => RV g.m w ([(x1).Colour] : List Int) v ∧ OS 3007 g w 3 ([(x1).Colour] : List Int) v ∧ FullV v)), (3, (fun v g w => v = .bool (z4)))] [0, 1, 2, 3, 4, 5, 6, 7, 8, 9, 10, 11, 12, 13, 14, 15, 16, 17, 18, 19, 20, 21, 22, 23, 24, 25, 26, 27, 28, 29, 30, 31, 32, 33, 34, 35, 36, 37, 38, 39, 40, 41, 42, 43] rfl mixed (by kernel_rfl) (⟨fun _ => up_and up_rv (up_and up_os (up_eq _)), fun _ => up_eq _, trivial⟩) ?_
   refine L_p (fPtr p2 0) rfl rfl (P_fieldAddr at_87_0 rfl (PT.ptr q2)) ?_
   refine L_ld (c := .int .i64 ((x1).Colour)) rfl rfl .plain (fun _ _ h => h.ch) x6 rfl ?_
   refine L_do (φ := fun v g w => RV g.m w ([(x1).Colour] : List Int) v ∧ OS 3007 g w 3 ([(x1).Colour] : List Int) v ∧ FullV v) rfl rfl .plain (fun g w hd => D_buildSlice (g := g) 3007 (xs := ([(x1).Colour] : List Int)) (vs := [.int .i64 ((x1).Colour)]) Try.underlying22 Try.sizeOf3 Try.zeroValue3 rfl rfl (.cons rfl .nil) (RVs.cons (RV_int.2 rfl) RVs.nil) rfl rfl fun g' w' v hs o r hxt hfl => ⟨g', hxt, r, o, hfl⟩) (fun o0 hv => ?_)
   clear hv
   refine L_do (φ := fun v g w => v = .bool (z4)) rfl rfl .plain (fun g w hd => D_call (g := g) (vs := [.int .i64 (0), .int .i64 (9), o0]) en87 (.cons rfl (.cons rfl (.cons rfl .nil))) (wk87 (word (A := fun g w => RV g.m w ([(x1).Colour] : List Int) o0 ∧ OS 3007 g w 3 ([(x1).Colour] : List Int) o0 ∧ FullV o0) 2 rfl rfl (deps_of hd)).1 y6) fun g' w' v hs hr => ⟨g', hs, hr⟩) (fun c8 hv => ?_)
   obtain ⟨_, _, _, rfl⟩ := hv
   refine L_p (.bool (z4)) rfl rfl (P_move rfl) ?_
   iterate 4 refine L_s rfl rfl rfl u3 rfl ?_
   refine L_p (.bool false) rfl rfl (P_pick (b := z4) rfl (pick_f u3 rfl)) ?_
   refine L_dead (fun _ => rfl) 33 rfl ?_
   refine L_p (.bool false) rfl rfl (P_assign rfl) ?_
   refine L_nil fun xA rC hall => ?_
   have hs := hall.1
   have hfr := hfr.ext hs
   have tC := (word_all (A := fun g w => RV g.m w ([(x1).Colour] : List Int) o0 ∧ OS 3007 g w 3 ([(x1).Colour] : List Int) o0 ∧ FullV o0) 2 rfl hall).1
   have o537 := (word_all (A := fun g w => RV g.m w ([(x1).Colour] : List Int) o0 ∧ OS 3007 g w 3 ([(x1).Colour] : List Int) o0 ∧ FullV o0) 2 rfl hall).2.1
   clear hs hall
   refine EL_nil ?_
   obtain rfl := sinj h
   exact hQ _ _ ⟨xA, hfr, rfl⟩
 ·clear hx
  obtain ⟨uC, hfr, t8⟩ := hR
  refine E_ret ?_
  obtain rfl := sinj h
  exact end1 rfl rfl (show _ = .bool (v6) from t8) ⟨_, hfr, rfl⟩
def f85 (x0 : BoxBoxLoom) : Option (Bool) :=
 jn (σ := Unit) (fun _ =>
  some (true)
  ) fun r8 =>
 lp (σ := Int) (fun t8 j1 =>
  bif (decide (j1 < ((((x0).BoxLoom).Boxes).length : Int))) then
   jn (σ := Unit) (fun _ =>
    t8 ((w64 (j1 + (1 : Int))))
    ) fun b7 =>
   (idx (((x0).BoxLoom).Boxes) j1).bind fun u3 =>
   Option.bind (α := Bool) (
    (f87 ((1 : Int)) ((4 : Int)) (([u3] : List Int))).bind fun y130 =>
    bif (!y130) then
     some (true)
    else
     (idx (((x0).BoxLoom).At) j1).bind fun y135 =>
     (f87 ((0 : Int)) ((w64 (u3 - (1 : Int)))) (([y135] : List Int))).bind fun y140 =>
     some ((!y140))
    ) fun z3 =>
   bif z3 then
    some (false)
   else
    b7 ()
  else
   r8 ()
  ) big ((0 : Int))
theorem en85 : Enters Try.prog 85 := enters_of Try.func85 (by kernel_rfl) rfl
theorem wk85 {gI : Gh} {wI : World} {x0 : BoxBoxLoom} {up0 : Value} (rp0 : RV gI.m wI x0 up0) {r : Bool} (h : f85 x0 = some r) : Fn Try.prog 85 #[up0] gI wI (fun _ _ v => v = .bool (r)) := by
 unfold f85 at h
 refine fn_of_E Try.func85 rfl (Nat.le_of_ble_eq_true rfl) fun g0 hm hfr => ?_
 have rp0 : RV g0.m wI x0 up0 := hm ▸ rp0
 show E _ 32 none _ _ _ _ _
 refine E_seq (E_region (EL_do .plain rfl (D_box (g := g0) rfl rp0 fun g1 w1 p1 hs q1 => ?_)))
 have hfr := hfr.ext hs
 refine EL_at (.bool false) rfl rfl ?_
 refine EL_nil (thn_n (E_joinC h (fun (s : Unit) e w => ∃ (g : Gh) , Fr gI wI g w) (fun X73 r8 y8 h => ?_) ?_))
 ·refine E_seq (E_region (EL_p (fPtr p1 0) (P_fieldAddr at_102_0 rfl (PT.ptr q1)) rfl ?_))
  have v8 := PT_field (part_BoxBoxLoom_0).1 q1
  refine EL_p (fPtr (fPtr p1 0) 0) (P_fieldAddr at_25_0 rfl (PT.ptr v8)) rfl ?_
  have mA := PT_field (part_BoxLoom_0).1 v8
  refine EL_do .plain rfl (D_load (g := g1) Try.isAgg22 Try.sizeOf22 rfl mA fun i5 x8 => ?_)
  refine EL_p (.int .i64 ((((x0).BoxLoom).Boxes).length : Int)) (P_len Try.underlying22 rfl x8) rfl ?_
  refine EL_mw (.int .i64 (0)) rfl rfl ?_
  refine EL_nil (thn_n (E_block ?_))
  refine E_lp h (fun (s : Int) e w => ∃ (g : Gh) , Fr gI wI g w ∧ e 1 = p1 ∧ PT g.m w (x0 : BoxBoxLoom) p1 ∧ e 7 = i5 ∧ RV g.m w (((x0).BoxLoom).Boxes : List Int) i5 ∧ e 8 = .int .i64 (((((x0).BoxLoom).Boxes).length : Int)) ∧ e 9 = .int .i64 (s)) ⟨g1, hfr, rfl, q1, rfl, x8, rfl, rfl⟩ (fun X77 t8 a9 => ?_)
  rintro j1 uA lB ⟨c7, hfr, t5, i3, x5, j3, i6, z4⟩ h
  refine E_seq (E_region (EL_p (.bool ((decide (j1 < ((((x0).BoxLoom).Boxes).length : Int))))) (P_int z4 i6 rfl) rfl ?_))
  refine EL_nil (thn_n (E_seq ?_))
  rcases csome h with ⟨x6, h⟩ | ⟨x6, h⟩
  ·refine E_ct x6 rfl ?_
   refine E_skip (thn_n (E_joinC h (fun (s : Unit) e w => ∃ (g : Gh) , Fr gI wI g w ∧ e 1 = p1 ∧ PT g.m w (x0 : BoxBoxLoom) p1 ∧ e 7 = i5 ∧ RV g.m w (((x0).BoxLoom).Boxes : List Int) i5 ∧ e 8 = .int .i64 (((((x0).BoxLoom).Boxes).length : Int)) ∧ e 9 = .int .i64 (j1)) (fun X111 b7 n8 h => ?_) ?_))
   ·refine E_block ?_
    refine E_seq (E_region (EL_mv z4 rfl ?_))
    obtain ⟨u3, y6, h⟩ := bsome h
    refine EL_p (ePtr i5 j1 1) (P_indexAddr (α := Int) Try.underlying22 Try.sizeOf3 x5 j3 z4 y6) rfl ?_
    have d9 := PT_idx j3 y6
    refine EL_do .plain rfl (D_load (g := c7) Try.isAgg3 Try.sizeOf3 rfl d9 fun xA i9 => ?_)
    obtain rfl := RV_int.1 i9
    refine EL_at (.int .i64 (j1)) rfl rfl ?_
    refine EL_at (.int .i64 (u3)) rfl rfl ?_
    refine EL_nil (thn_n ?_)
    obtain ⟨z3, hx, h⟩ := bsome h
    refine E_join (fun e w => ∃ (g : Gh) , Fr gI wI g w ∧ e 1 = p1 ∧ PT g.m w (x0 : BoxBoxLoom) p1 ∧ e 7 = i5 ∧ RV g.m w (((x0).BoxLoom).Boxes : List Int) i5 ∧ e 8 = .int .i64 (((((x0).BoxLoom).Boxes).length : Int)) ∧ e 9 = .int .i64 (j1) ∧ e 30 = .bool (z3)) (fun Q' hQ => ?_) (fun nA yA hR => ?_)
    ·replace h := hx
     clear hx
     refine E_region (EL_mw (.int .i64 (u3)) rfl rfl ?_)
     refine EL_do .plain rfl (D_buildSlice (g := c7) 3015 (xs := ([u3] : List Int)) (vs := [.int .i64 (u3)]) Try.underlying22 Try.sizeOf3 Try.zeroValue3 rfl rfl (.cons rfl .nil) (RVs.cons (RV_int.2 rfl) RVs.nil) rfl rfl fun k9 zA l9 hs o128 n9 hxt hfl => ?_)
     have hfr := hfr.stp hs
     have i3 := i3.stp hs
     have j3 := j3.stp hs
     obtain ⟨y130, o8, h⟩ := bsome h
     refine EL_do .plain rfl (D_call (g := k9) (vs := [.int .i64 (1), .int .i64 (4), l9]) en87 (.cons rfl (.cons rfl (.cons rfl .nil))) (wk87 n9 o8) fun j6 oA aB hs hr => ?_)
     have hfr := hfr.ext hs
     have i3 := i3.ext hs
     have j3 := j3.ext hs
     subst hr
     refine EL_p (.bool (!y130)) (P_not rfl) rfl ?_
     refine EL_mw (.bool (!y130)) rfl rfl ?_
     rcases csome h with ⟨o0, h⟩ | ⟨o0, h⟩
     ·refine EL_s rfl rfl o0 rfl rfl ?_
      iterate 10 refine EL_s rfl rfl o0 rfl rfl ?_
      refine EL_p (.bool true) (P_pick (b := (!y130)) rfl (pick_t o0 rfl)) rfl ?_
      refine EL_nil ?_
      obtain rfl := sinj h
      exact hQ _ _ ⟨j6, hfr, t5, i3, x5, j3, i6, z4, rfl⟩
     ·refine EL_y (.int .i64 (u3)) (P_move rfl) rfl rfl o0 rfl ?_
      refine EL_y (.int .i64 ((w64 (u3 - (1 : Int))))) (P_int rfl rfl rfl) rfl rfl o0 rfl ?_
      refine EL_y (fPtr p1 0) (P_fieldAddr at_102_0 t5 (PT.ptr i3)) rfl rfl o0 rfl ?_
      have d7 := PT_field (part_BoxBoxLoom_0).1 i3
      refine EL_y (fPtr (fPtr p1 0) 1) (P_fieldAddr at_25_1 rfl (PT.ptr d7)) rfl rfl o0 rfl ?_
      have o9 := PT_field (part_BoxLoom_1).1 d7
      refine EL_do (.yes2 rfl rfl o0) rfl (D_load (g := j6) Try.isAgg22 Try.sizeOf22 rfl o9 fun t9 g7 => ?_)
      refine EL_y (.int .i64 (j1)) (P_move rfl) rfl rfl o0 rfl ?_
      obtain ⟨y135, a7, h⟩ := bsome h
      refine EL_y (ePtr t9 j1 1) (P_indexAddr (α := Int) Try.underlying22 Try.sizeOf3 rfl g7 rfl a7) rfl rfl o0 rfl ?_
      have u9 := PT_idx g7 a7
      refine EL_do (.yes2 rfl rfl o0) rfl (D_load (g := j6) Try.isAgg3 Try.sizeOf3 rfl u9 fun bB y9 => ?_)
      obtain rfl := RV_int.1 y9
      refine EL_do (.yes2 rfl rfl o0) rfl (D_buildSlice (g := j6) 3027 (xs := ([y135] : List Int)) (vs := [.int .i64 (y135)]) Try.underlying22 Try.sizeOf3 Try.zeroValue3 rfl rfl (.cons rfl .nil) (RVs.cons (RV_int.2 rfl) RVs.nil) rfl rfl fun z9 cB bA hs o138 gA hxt hfl => ?_)
      have hfr := hfr.stp hs
      have i3 := i3.stp hs
      have j3 := j3.stp hs
      obtain ⟨y140, q8, h⟩ := bsome h
      refine EL_do (.yes2 rfl rfl o0) rfl (D_call (g := z9) (vs := [.int .i64 (0), .int .i64 ((w64 (u3 - (1 : Int)))), bA]) en87 (.cons rfl (.cons rfl (.cons rfl .nil))) (wk87 gA q8) fun iA pA dB hs hr => ?_)
      have hfr := hfr.ext hs
      have i3 := i3.ext hs
      have j3 := j3.ext hs
      subst hr
      refine EL_y (.bool (!y140)) (P_not rfl) rfl rfl o0 rfl ?_
      refine EL_p (.bool (!y140)) (P_pick (b := (!y130)) rfl (pick_f o0 rfl)) rfl ?_
      refine EL_nil ?_
      obtain rfl := sinj h
      exact hQ _ _ ⟨iA, hfr, t5, i3, x5, j3, i6, z4, rfl⟩
    ·clear hx
     obtain ⟨jA, hfr, i7, j7, m7, o7, u7, v7, l5⟩ := hR
     rcases csome h with ⟨v6, h⟩ | ⟨v6, h⟩
     ·refine E_cond_true (Eq.trans (show ev _ _ = .bool (z3) from l5) (congrArg Value.bool v6)) ?_
      refine E_seq (E_region (EL_at (.bool false) rfl rfl ?_))
      refine EL_nil (thn_n (E_ret (blk_r ?_)))
      refine thn_r ?_
      refine thn_r ?_
      refine blk_r ?_
      refine thn_r ?_
      obtain rfl := sinj h
      exact end1 rfl rfl (show _ = .bool false from rfl) ⟨_, hfr, rfl⟩
     ·refine E_cond_false (Eq.trans (show ev _ _ = .bool (z3) from l5) (congrArg Value.bool v6)) ?_
      exact E_skip (blk_n (thn_n (n8 () _ _ ⟨jA, hfr, i7, j7, m7, o7, u7, v7⟩ h)))
   ·rintro _ qA eB ⟨lA, hfr, c8, g8, i8, k8, l8, m8⟩ h
    refine E_region (EL_in (.int .i64 ((w64 (j1 + (1 : Int))))) m8 rfl rfl rfl ?_)
    refine EL_mw (.int .i64 ((w64 (j1 + (1 : Int))))) rfl rfl ?_
    exact EL_nil (thn_n (a9 ((w64 (j1 + (1 : Int)))) _ _ ⟨lA, hfr, c8, g8, i8, k8, l8, rfl⟩ h))
  ·refine E_cf x6 rfl ?_
   refine E_exit ?_
   refine thn_e ?_
   refine thn_e ?_
   refine blk_hit ?_
   exact thn_n (y8 () _ _ ⟨c7, hfr⟩ h)
 ·rintro _ rA iB ⟨jB, hfr⟩ h
  refine E_seq (E_region (EL_at (.bool true) rfl rfl ?_))
  refine EL_nil (thn_n (E_ret ?_))
  obtain rfl := sinj h
  exact end1 rfl rfl (show _ = .bool true from rfl) ⟨_, hfr, rfl⟩
def f110 (x0 : List Int) (x1 : Int) (x2 : Int) : Option ((List Int)) :=
 lp (σ := (List Int) × Int) (fun k1 (b7, u3) =>
  jn (σ := Unit) (fun _ =>
   Option.bind (α := (List Int)) (
    lp (σ := (List Int) × Int) (fun q8 (i3, o0) =>
     jn (σ := Unit) (fun _ =>
      Option.bind (α := (List Int)) (
       (idx i3 (w64 (o0 - (1 : Int)))).bind fun x6 =>
       (idx i3 o0).bind fun c7 =>
       (idx i3 o0).bind fun bB =>
       (idx ((List.set i3 (Int.toNat o0) x6)) (w64 (o0 - (1 : Int)))).bind fun cB =>
       some ((List.set ((List.set i3 (Int.toNat o0) x6)) (Int.toNat (w64 (o0 - (1 : Int)))) c7))
       ) fun x5 =>
      q8 (x5, (w64 (o0 - (1 : Int))))
      ) fun r8 =>
     Option.bind (α := Bool) (
      bif (decide (o0 > x1)) then
       (idx i3 o0).bind fun d7 =>
       (idx i3 (w64 (o0 - (1 : Int)))).bind fun g7 =>
       (f116 d7 g7).bind fun y6 =>
       some (y6)
      else
       some (false)
      ) fun z4 =>
     bif z4 then
      r8 ()
     else
      some (i3)
     ) big (b7, u3)
    ) fun i6 =>
   k1 (i6, (w64 (u3 + (1 : Int))))
   ) fun k4 =>
  bif (decide (u3 < x2)) then
   k4 ()
  else
   some (b7)
  ) big (x0, (w64 (x1 + (1 : Int))))
def f111 (x0 : List Int) (x1 : Int) (x2 : Int) : Option ((List Int)) :=
 Option.bind (α := (List Int)) (
  (quo64 (w64 ((w64 (x2 - x1)) - (1 : Int))) (2 : Int)).bind fun y6 =>
  lp (σ := (List Int) × Int) (fun jA (i5, j1) =>
   jn (σ := Unit) (fun _ =>
    Option.bind (α := (List Int)) (
     (f121 i5 j1 ((w64 (x2 - x1))) x1).bind fun y23 =>
     some (y23)
     ) fun l5 =>
    jA (l5, (w64 (j1 - (1 : Int))))
    ) fun lA =>
   bif (decide (j1 ≥ (0 : Int))) then
    lA ()
   else
    some (i5)
   ) big (x0, y6)
  ) fun x5 =>
 lp (σ := (List Int) × Int) (fun mA (i3, o0) =>
  jn (σ := Unit) (fun _ =>
   Option.bind (α := (List Int)) (
    (idx i3 (w64 (x1 + o0))).bind fun i6 =>
    (idx i3 x1).bind fun a7 =>
    (idx i3 x1).bind fun iB =>
    (idx ((List.set i3 (Int.toNat x1) i6)) (w64 (x1 + o0))).bind fun jB =>
    (f121 ((List.set ((List.set i3 (Int.toNat x1) i6)) (Int.toNat (w64 (x1 + o0))) a7)) ((0 : Int)) o0 x1).bind fun nA =>
    some (nA)
    ) fun t5 =>
   mA (t5, (w64 (o0 - (1 : Int))))
   ) fun oA =>
  bif (decide (o0 ≥ (0 : Int))) then
   oA ()
  else
   some (i3)
  ) big (x5, (w64 ((w64 (x2 - x1)) - (1 : Int))))
def f115 (x0 : List Int) (x1 : Int) (x2 : Int) : Option (Bool × (List Int)) :=
 jn (σ := (List Int)) (fun bB =>
  some (false, bB)
  ) fun sE =>
 lp (σ := (List Int) × Int × Int) (fun tE (z3, x8, j3) =>
  jn (σ := Unit) (fun _ =>
   jn (σ := (List Int) × Int) (fun (y8, a9) =>
    tE (y8, a9, (w64 (j3 + (1 : Int))))
    ) fun t9 =>
   Option.bind (α := Int) (
    lp (σ := Int) (fun uE u3 =>
     jn (σ := Unit) (fun _ =>
      uE ((w64 (u3 + (1 : Int))))
      ) fun vE =>
     Option.bind (α := Bool) (
      bif (decide (u3 < x2)) then
       (idx z3 u3).bind fun u9 =>
       (idx z3 (w64 (u3 - (1 : Int)))).bind fun y9 =>
       (f116 u9 y9).bind fun o7 =>
       some ((!o7))
      else
       some (false)
      ) fun c7 =>
     bif c7 then
      vE ()
     else
      some (u3)
     ) big (x8)
    ) fun o0 =>
   jn (σ := Unit) (fun _ =>
    jn (σ := Unit) (fun _ =>
     (idx z3 (w64 (o0 - (1 : Int)))).bind fun u7 =>
     (idx z3 o0).bind fun o8 =>
     (idx z3 o0).bind fun zJ =>
     (idx ((List.set z3 (Int.toNat o0) u7)) (w64 (o0 - (1 : Int)))).bind fun aK =>
     Option.bind (α := (List Int)) (
      bif (decide ((w64 (o0 - x1)) ≥ (2 : Int))) then
       lp (σ := (List Int) × Int) (fun xE (i5, i3) =>
        jn (σ := Unit) (fun _ =>
         jn (σ := (List Int)) (fun d9 =>
          xE (d9, (w64 (i3 - (1 : Int))))
          ) fun yE =>
         jn (σ := Unit) (fun _ =>
          (idx i5 (w64 (i3 - (1 : Int)))).bind fun v7 =>
          (idx i5 i3).bind fun q8 =>
          (idx i5 i3).bind fun bK =>
          (idx ((List.set i5 (Int.toNat i3) v7)) (w64 (i3 - (1 : Int)))).bind fun cK =>
          yE ((List.set ((List.set i5 (Int.toNat i3) v7)) (Int.toNat (w64 (i3 - (1 : Int)))) q8))
          ) fun zE =>
         (idx i5 i3).bind fun z9 =>
         (idx i5 (w64 (i3 - (1 : Int)))).bind fun bA =>
         (f116 z9 bA).bind fun r8 =>
         bif (!r8) then
          some (i5)
         else
          zE ()
         ) fun cF =>
        bif (decide (i3 ≥ (1 : Int))) then
         cF ()
        else
         some (i5)
        ) big ((List.set ((List.set z3 (Int.toNat o0) u7)) (Int.toNat (w64 (o0 - (1 : Int)))) o8), (w64 (o0 - (1 : Int))))
      else
       some ((List.set ((List.set z3 (Int.toNat o0) u7)) (Int.toNat (w64 (o0 - (1 : Int)))) o8))
      ) fun g7 =>
     bif (decide ((w64 (x2 - o0)) ≥ (2 : Int))) then
      lp (σ := (List Int) × Int) (fun dF (z4, j1) =>
       jn (σ := Unit) (fun _ =>
        jn (σ := (List Int)) (fun i9 =>
         dF (i9, (w64 (j1 + (1 : Int))))
         ) fun eF =>
        jn (σ := Unit) (fun _ =>
         (idx z4 (w64 (j1 - (1 : Int)))).bind fun c8 =>
         (idx z4 j1).bind fun t8 =>
         (idx z4 j1).bind fun dK =>
         (idx ((List.set z4 (Int.toNat j1) c8)) (w64 (j1 - (1 : Int)))).bind fun eK =>
         eF ((List.set ((List.set z4 (Int.toNat j1) c8)) (Int.toNat (w64 (j1 - (1 : Int)))) t8))
         ) fun iF =>
        (idx z4 j1).bind fun gA =>
        (idx z4 (w64 (j1 - (1 : Int)))).bind fun iA =>
        (f116 gA iA).bind fun v8 =>
        bif (!v8) then
         t9 (z4, o0)
        else
         iF ()
        ) fun nF =>
       bif (decide (j1 < x2)) then
        nF ()
       else
        t9 (z4, o0)
       ) big (g7, (w64 (o0 + (1 : Int))))
     else
      t9 (g7, o0)
     ) fun oF =>
    bif (decide ((w64 (x2 - x1)) < (50 : Int))) then
     some (false, z3)
    else
     oF ()
    ) fun pF =>
   bif (o0 == x2) then
    some (true, z3)
   else
    pF ()
   ) fun qF =>
  bif (decide (j3 < (5 : Int))) then
   qF ()
  else
   sE (z3)
  ) big (x0, (w64 (x1 + (1 : Int))), (0 : Int))
end Go.Proofs.Ytmpjooneiaiffaa
