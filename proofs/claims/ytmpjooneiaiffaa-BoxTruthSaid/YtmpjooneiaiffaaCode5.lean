import Derived.Test.YtmpjooneiaiffaaCode4
set_option maxRecDepth 8000
set_option maxHeartbeats 4000000
namespace Go.Proofs.Ytmpjooneiaiffaa
open Go.RowKit
def f29 (x0 : BoxLoom) (x1 : List BoxPick) : Option ((List Span) × Int × Int) :=
 (f70 x0 x1).bind fun y5 =>
 jn (σ := (List Span)) (fun z9 =>
  Option.bind (α := (List Span)) (
   lp (σ := (List Span) × Int) (fun k48 (m8, i5) =>
    bif (decide (i5 < ((((y5.1).BoxLoom).Shuttles).length : Int))) then
     Option.bind (α := (List Span)) (
      (idx (((y5.1).BoxLoom).Shuttles) i5).bind fun dB =>
      (apnd 16 m8 (([(dB).Yarn] : List Span))).bind fun y71 =>
      some (y71)
      ) fun i7 =>
     k48 (i7, (w64 (i5 + (1 : Int))))
    else
     some (m8)
    ) big (z9, (0 : Int))
   ) fun n8 =>
  Option.bind (α := (List Span)) (
   lp (σ := (List Span) × Int) (fun iB (v6, o0) =>
    bif (decide (o0 < (((y5.2.1).thrown).length : Int))) then
     Option.bind (α := (List Span)) (
      (idx ((y5.2.1).thrown) o0).bind fun i6 =>
      (idx v6 (w64 (i6 - (1 : Int)))).bind fun y130 =>
      (idx v6 (w64 (i6 - (1 : Int)))).bind fun zD =>
      some ((List.set v6 (Int.toNat (w64 (i6 - (1 : Int)))) ((⟨(max64 (0 : Int) (w64 ((y130).Low - (1 : Int)))), (max64 (0 : Int) (w64 ((y130).High - (1 : Int))))⟩ : Span))))
      ) fun y6 =>
     iB (y6, (w64 (o0 + (1 : Int))))
    else
     some (v6)
    ) big (n8, (0 : Int))
   ) fun j7 =>
  some (j7, (0 : Int), (0 : Int))
  ) fun sD =>
 bif (y5.2.2.2 != (0 : Int)) then
  some (([] : List Span), y5.2.2.1, y5.2.2.2)
 else
  sD (([] : List Span))
theorem en29 : Enters Try.prog 29 := enters_of Try.func29 (by kernel_rfl) rfl
theorem wk29 {gI : Gh} {wI : World} {x0 : BoxLoom} {x1 : List BoxPick} {up0 : Value} (rp0 : RV gI.m wI x0 up0) {up1 : Value} (rp1 : RV gI.m wI x1 up1) {r : (List Span) × Int × Int} (h : f29 x0 x1 = some r) : Fn Try.prog 29 #[up0, up1] gI wI (fun m w v => ∃ y0 y1 y2, v = .tuple #[y0, y1, y2] ∧ RV m w (r.1) y0 ∧ y1 = .int .i64 (r.2.1) ∧ y2 = .int .i64 (r.2.2)) := by
 unfold f29 at h
 refine fn_of_E Try.func29 rfl (Nat.le_of_ble_eq_true rfl) fun g0 hm hfr => ?_
 have rp0 : RV g0.m wI x0 up0 := hm ▸ rp0
 have rp1 : RV g0.m wI x1 up1 := hm ▸ rp1
 show E _ 67 none _ _ _ _ _
 refine E_seq (E_region (EL_do .plain rfl (D_box (g := g0) rfl rp0 fun g1 w1 p1 hs q1 => ?_)))
 have hfr := hfr.ext hs
 have rp1 := rp1.ext hs
 refine EL_at (.slice none 0 0) rfl rfl ?_
 have b2 : OA 4004 g1 w1 85 ([] : List Span) (.slice none 0 0) := OA.nil
 refine EL_at (.int .i64 (0)) rfl rfl ?_
 refine EL_at (.int .i64 (0)) rfl rfl ?_
 refine EL_nil (thn_n (E_seq (E_region (EL_do .plain rfl (D_load (g := g1) Try.isAgg25 Try.sizeOf25 rfl q1 fun v3 r3 => ?_)))))
 refine EL_mw up1 rfl rfl ?_
 obtain ⟨y5, hy5, h⟩ := bsome h
 refine EL_do .plain rfl (D_call (g := g1) (vs := [v3, up1]) en70 (.cons rfl (.cons rfl .nil)) (wk70 r3 rp1 hy5) fun g4 w4_ v4 hs hr => ?_)
 have hfr := hfr.ext hs
 have b2 := b2.ext hs
 obtain ⟨k9, l9, nF, oF, rfl, m7, x6, rfl, rfl⟩ := hr
 refine EL_mw (.tuple #[k9, l9, .int .i64 (y5.2.2.1), .int .i64 (y5.2.2.2)]) rfl rfl ?_
 refine EL_p k9 (P_extract rfl rfl) rfl ?_
 refine EL_p l9 (P_extract rfl rfl) rfl ?_
 refine EL_p (.int .i64 (y5.2.2.1)) (P_extract rfl rfl) rfl ?_
 refine EL_p (.int .i64 (y5.2.2.2)) (P_extract rfl rfl) rfl ?_
 refine EL_do .plain rfl (D_allocOc (g := g4) 2007 (⟨⟨[], [], []⟩⟩ : BoxBoxLoom) Try.zeroValue102 (fun m w => ⟨_, (rep_two rep_nil (rep_two rep_nil rep_nil)), rfl⟩) fun g6 w6 p6 hs b6 cb => ?_)
 have hfr := hfr.stp hs
 have b2 := b2.stp hs rfl
 have m7 := m7.stp hs
 have x6 := x6.stp hs
 have pF : OSF 2007 60700 0 g6 w6 3 102 ([] : List Int) p6 := cb.osf (by rfl)
 have qF : OSF 2007 60701 1 g6 w6 3 102 ([] : List Int) p6 := cb.osf (by rfl)
 have rF : OSF 2007 60702 2 g6 w6 87 102 ([] : List BoxShuttle) p6 := cb.osf (by rfl)
 clear cb
 refine EL_do .plain rfl (D_allocOc (g := g6) 2008 (⟨[], ⟨(⟨List.toArray [(⟨List.toArray [0, 0, 0, 0], rfl⟩ : Vector Int 4), (⟨List.toArray [0, 0, 0, 0], rfl⟩ : Vector Int 4)], rfl⟩ : Vector (Vector Int 4) 2), ⟨0, 0⟩⟩, 0⟩ : BoxRun) Try.zeroValue129 (fun m w => ⟨_, (rep_two rep_nil (rep_two (rep_two (rep_vec (flat_chunk (rep_vec (flat_chunk rep_int (flat_chunk rep_int (flat_chunk rep_int (flat_chunk rep_int flat_nil)))) rfl) (flat_chunk (rep_vec (flat_chunk rep_int (flat_chunk rep_int (flat_chunk rep_int (flat_chunk rep_int flat_nil)))) rfl) flat_nil)) rfl) (rep_two rep_int rep_int)) rep_int)), rfl⟩) fun g7 w7 p7 hs b7 cb => ?_)
 have hfr := hfr.stp hs
 have b2 := b2.stp hs rfl
 have m7 := m7.stp hs
 have x6 := x6.stp hs
 have b6 := b6.stp hs rfl
 have sF : OSF 2008 60800 0 g7 w7 3 129 ([] : List Int) p7 := cb.osf (by rfl)
 clear cb
 refine EL_do .plain rfl (D_storeOc (g := g7) (v := k9) Try.sizeOf102 rfl b6 rfl m7 fun g8 w8 hs b8 cb => ?_)
 clear cb
 have hfr := hfr.stp hs
 have b2 := b2.stp hs rfl
 have x6 := x6.stp hs
 have b7 := b7.stp hs rfl
 refine EL_do .plain rfl (D_storeOc (g := g8) (v := l9) Try.sizeOf129 rfl b7 rfl x6 fun g9 w9 hs b9 cb => ?_)
 clear cb
 have hfr := hfr.stp hs
 have b2 := b2.stp hs rfl
 have b8 := b8.stp hs rfl
 refine EL_at (.int .i64 (y5.2.2.1)) rfl rfl ?_
 refine EL_at (.int .i64 (y5.2.2.2)) rfl rfl ?_
 refine EL_nil (thn_n (E_joinC h (fun (s : (List Span)) e w => ∃ (g : Gh) (v4 : Value), Fr gI wI g w ∧ e 4 = v4 ∧ OA 4004 g w 85 (s : List Span) v4 ∧ e 7 = p6 ∧ OB 2007 g w 102 (y5.1 : BoxBoxLoom) p6 ∧ e 8 = p7 ∧ OB 2008 g w 129 (y5.2.1 : BoxRun) p7) (fun X13 sD aE h => ?_) ?_))
 ·refine E_seq (E_region (EL_mw (.int .i64 (y5.2.2.2)) rfl rfl ?_))
  refine EL_in (.bool ((y5.2.2.2 != (0 : Int)))) rfl rfl rfl rfl ?_
  refine EL_nil (thn_n ?_)
  rcases csome h with ⟨n9, h⟩ | ⟨n9, h⟩
  ·refine E_ct n9 rfl ?_
   refine E_seq (E_region (EL_mw (.int .i64 (y5.2.2.1)) rfl rfl ?_))
   refine EL_mw (.int .i64 (y5.2.2.2)) rfl rfl ?_
   refine EL_at (.slice none 0 0) rfl rfl ?_
   have b15 : OA 4004 g9 w9 85 ([] : List Span) (.slice none 0 0) := OA.nil
   refine EL_at (.int .i64 (y5.2.2.1)) rfl rfl ?_
   refine EL_at (.int .i64 (y5.2.2.2)) rfl rfl ?_
   refine EL_nil (thn_n (E_ret (thn_r ?_)))
   obtain ⟨gp16, hs, rp16⟩ := OM.pub (b15.toM)
   have hfr := hfr.stp hs
   obtain rfl := sinj h
   exact end3 rfl rfl (show _ = .slice none 0 0 from rfl) (show _ = .int .i64 (y5.2.2.1) from rfl) (show _ = .int .i64 (y5.2.2.2) from rfl) ⟨_, hfr, _, _, _, rfl, rp16, rfl, rfl⟩
  ·refine E_cf n9 rfl ?_
   exact E_skip (thn_n (aE (([] : List Span)) _ _ ⟨g9, (.slice none 0 0), hfr, rfl, b2, rfl, b8, rfl, b9⟩ h))
 ·rintro z9 tF iG ⟨tD, mC, hfr, qC, rC, uC, q8, vC, aD⟩ h
  obtain ⟨n8, hx, h⟩ := bsome h
  refine E_join (fun e w => ∃ (g : Gh) (v4 : Value), Fr gI wI g w ∧ e 4 = v4 ∧ OA 4004 g w 85 (n8 : List Span) v4 ∧ e 8 = p7 ∧ OB 2008 g w 129 (y5.2.1 : BoxRun) p7) (fun Q' hQ => ?_) (fun uF jG hR => ?_)
  ·replace h := hx
   clear hx
   refine E_seq (E_region (EL_p (fPtr p6 0) (P_fieldAddr at_102_0 uC (OB.ptr q8)) rfl ?_))
   refine EL_p (fPtr p6 2) (P_fieldAddr2 (o1 := 0) rfl at_25_2 rfl (OB.ptr q8)) rfl ?_
   refine EL_do .plain rfl (D_loadF (g := tD) (SubS.comp part_BoxBoxLoom_0 part_BoxLoom_2 rfl).1 Try.isAgg23 Try.sizeOf23 rfl q8 fun x8 uD => ?_)
   refine EL_p (.int .i64 ((((y5.1).BoxLoom).Shuttles).length : Int)) (P_len Try.underlying23 rfl uD) rfl ?_
   refine EL_mw (.int .i64 (0)) rfl rfl ?_
   refine EL_nil (thn_n (E_block ?_))
   refine E_lp h (fun (s : (List Span) × Int) e w => ∃ (g : Gh) (v4 : Value), Fr gI wI g w ∧ e 4 = v4 ∧ OA 4004 g w 85 (s.1 : List Span) v4 ∧ e 8 = p7 ∧ OB 2008 g w 129 (y5.2.1 : BoxRun) p7 ∧ e 28 = x8 ∧ RV g.m w (((y5.1).BoxLoom).Shuttles : List BoxShuttle) x8 ∧ e 29 = .int .i64 (((((y5.1).BoxLoom).Shuttles).length : Int)) ∧ e 30 = .int .i64 (s.2)) ⟨tD, (mC), hfr, qC, rC, vC, aD, rfl, uD, rfl, rfl⟩ (fun X48 k48 bE => ?_)
   rintro ⟨m8, i5⟩ vF kG ⟨jB, bD, hfr, bA, j6, gA, t5, a9, i3, d9, v7⟩ h
   refine E_seq (E_region (EL_p (.bool ((decide (i5 < ((((y5.1).BoxLoom).Shuttles).length : Int))))) (P_int v7 d9 rfl) rfl ?_))
   refine EL_nil (thn_n (E_seq ?_))
   rcases csome h with ⟨u9, h⟩ | ⟨u9, h⟩
   ·refine E_ct u9 rfl ?_
    refine E_skip (thn_n ?_)
    obtain ⟨i7, hx, h⟩ := bsome h
    refine E_join (fun e w => ∃ (g : Gh) (v4 : Value), Fr gI wI g w ∧ e 4 = v4 ∧ OA 4004 g w 85 (i7 : List Span) v4 ∧ e 8 = p7 ∧ OB 2008 g w 129 (y5.2.1 : BoxRun) p7 ∧ e 28 = x8 ∧ RV g.m w (((y5.1).BoxLoom).Shuttles : List BoxShuttle) x8 ∧ e 29 = .int .i64 (((((y5.1).BoxLoom).Shuttles).length : Int)) ∧ e 30 = .int .i64 (i5)) (fun Q' hQ => ?_) (fun xF lG hR => ?_)
    ·replace h := hx
     clear hx
     refine E_block ?_
     refine E_seq (E_region ?_)
     obtain ⟨dB, lB, h⟩ := bsome h
     refine EL_p (ePtr x8 i5 5) (P_indexAddr (α := BoxShuttle) Try.underlying23 Try.sizeOf87 a9 i3 v7 lB) rfl ?_
     have q62 := PT_idx i3 lB
     refine EL_do .plain rfl (D_load (g := jB) Try.isAgg87 Try.sizeOf87 rfl q62 fun rE mB => ?_)
     refine EL_do .plain rfl (D_allocOc (g := jB) 2010 (⟨0, 0, 0, ⟨0, 0⟩⟩ : BoxShuttle) Try.zeroValue87 (fun m w => ⟨_, (rep_two rep_int (rep_two rep_int (rep_two rep_int (rep_two rep_int rep_int)))), rfl⟩) fun sE mG tE hs b65 cb => ?_)
     have hfr := hfr.stp hs
     have j6 := j6.stp hs rfl
     have t5 := t5.stp hs rfl
     have i3 := i3.stp hs
     have mB := mB.stp hs
     clear cb
     refine EL_do .plain rfl (D_storeOc (g := sE) (v := rE) Try.sizeOf87 rfl b65 rfl mB fun vD nG hs b66 cb => ?_)
     clear cb
     have hfr := hfr.stp hs
     have j6 := j6.stp hs rfl
     have t5 := t5.stp hs rfl
     have i3 := i3.stp hs
     refine EL_nil (thn_n (E_region (EL_mv bA rfl ?_)))
     refine EL_p (fPtr tE 3) (P_fieldAddr at_87_3 rfl (OB.ptr b66)) rfl ?_
     refine EL_do .plain rfl (D_loadF (g := vD) part_BoxShuttle_3.1 Try.isAgg85 Try.sizeOf85 rfl b66 fun uE vE => ?_)
     refine EL_do .plain rfl (D_buildSlice (g := vD) 3037 (xs := ([(dB).Yarn] : List Span)) (vs := [uE]) Try.underlying51 Try.sizeOf85 Try.zeroValue85 rfl rfl (.cons rfl .nil) (RVs.cons vE RVs.nil) rfl rfl fun xE oG pG hs o69 yE hxt hfl => ?_)
     have hfr := hfr.stp hs
     have j6 := j6.stp hs rfl
     have t5 := t5.stp hs rfl
     have i3 := i3.stp hs
     obtain ⟨y71, cE, h⟩ := bsome h
     refine EL_do .plain rfl (D_appendA (g := xE) plain_Span (i := 4004) Try.underlying51 info_85 rfl rfl j6 rfl yE cE fun zE qG xD hs b70 => ?_)
     have hfr := hfr.stp hs
     have t5 := t5.stp hs rfl
     have i3 := i3.stp hs
     refine EL_at xD rfl rfl ?_
     refine EL_nil (blk_n ?_)
     obtain rfl := sinj h
     exact hQ _ _ ⟨zE, (xD), hfr, rfl, b70, gA, t5, a9, i3, d9, v7⟩
    ·clear hx
     obtain ⟨cF, cD, hfr, eD, gD, iD, jD, nB, oB, tB, vB⟩ := hR
     refine E_region (EL_in (.int .i64 ((w64 (i5 + (1 : Int))))) vB rfl rfl rfl ?_)
     refine EL_mw (.int .i64 ((w64 (i5 + (1 : Int))))) rfl rfl ?_
     exact EL_nil (thn_n (bE (i7, (w64 (i5 + (1 : Int)))) _ _ ⟨cF, (cD), hfr, eD, gD, iD, jD, nB, oB, tB, rfl⟩ h))
   ·refine E_cf u9 rfl ?_
    refine E_exit ?_
    refine thn_e ?_
    refine thn_e ?_
    refine blk_hit ?_
    obtain rfl := sinj h
    exact hQ _ _ ⟨jB, (bD), hfr, bA, j6, gA, t5⟩
  ·clear hx
   obtain ⟨yD, x5, hfr, kD, lD, mD, iA⟩ := hR
   obtain ⟨j7, hx, h⟩ := bsome h
   refine E_join (fun e w => ∃ (g : Gh) , Fr gI wI g w ∧ e 4 = x5 ∧ OA 4004 g w 85 (j7 : List Span) x5) (fun Q' hQ => ?_) (fun dF yF hR => ?_)
   ·replace h := hx
    clear hx
    refine E_seq (E_region (EL_p (fPtr p7 0) (P_fieldAddr at_129_0 mD (OB.ptr iA)) rfl ?_))
    refine EL_do .plain rfl (D_loadF (g := yD) part_BoxRun_0.1 Try.isAgg22 Try.sizeOf22 rfl iA fun i8 yB => ?_)
    refine EL_p (.int .i64 (((y5.2.1).thrown).length : Int)) (P_len Try.underlying22 rfl yB) rfl ?_
    refine EL_mw (.int .i64 (0)) rfl rfl ?_
    refine EL_nil (thn_n (E_block ?_))
    refine E_lp h (fun (s : (List Span) × Int) e w => ∃ (g : Gh) , Fr gI wI g w ∧ e 4 = x5 ∧ OA 4004 g w 85 (s.1 : List Span) x5 ∧ e 41 = i8 ∧ RV g.m w ((y5.2.1).thrown : List Int) i8 ∧ e 42 = .int .i64 ((((y5.2.1).thrown).length : Int)) ∧ e 43 = .int .i64 (s.2)) ⟨yD, hfr, kD, lD, rfl, yB, rfl, rfl⟩ (fun X110 iB nD => ?_)
    rintro ⟨v6, o0⟩ eF zF ⟨r8, hfr, a7, l5, k8, u3, l8, d7⟩ h
    refine E_seq (E_region (EL_p (.bool ((decide (o0 < (((y5.2.1).thrown).length : Int))))) (P_int d7 l8 rfl) rfl ?_))
    refine EL_nil (thn_n (E_seq ?_))
    rcases csome h with ⟨t8, h⟩ | ⟨t8, h⟩
    ·refine E_ct t8 rfl ?_
     refine E_skip (thn_n ?_)
     obtain ⟨y6, hx, h⟩ := bsome h
     refine E_join (fun e w => ∃ (g : Gh) , Fr gI wI g w ∧ e 4 = x5 ∧ OA 4004 g w 85 (y6 : List Span) x5 ∧ e 41 = i8 ∧ RV g.m w ((y5.2.1).thrown : List Int) i8 ∧ e 42 = .int .i64 ((((y5.2.1).thrown).length : Int)) ∧ e 43 = .int .i64 (o0)) (fun Q' hQ => ?_) (fun iF aG hR => ?_)
     ·replace h := hx
      clear hx
      refine E_block ?_
      refine E_seq (E_region ?_)
      obtain ⟨i6, jA, h⟩ := bsome h
      refine EL_p (ePtr i8 o0 1) (P_indexAddr (α := Int) Try.underlying22 Try.sizeOf3 k8 u3 d7 jA) rfl ?_
      have dE := PT_idx u3 jA
      refine EL_do .plain rfl (D_load (g := r8) Try.isAgg3 Try.sizeOf3 rfl dE fun bG eE => ?_)
      obtain rfl := RV_int.1 eE
      refine EL_at (.int .i64 (i6)) rfl rfl ?_
      refine EL_nil (thn_n (E_seq (E_region (EL_mv a7 rfl ?_))))
      refine EL_mw (.int .i64 (i6)) rfl rfl ?_
      refine EL_in (.int .i64 ((w64 (i6 - (1 : Int))))) rfl rfl rfl rfl ?_
      obtain ⟨y130, mA, h⟩ := bsome h
      refine EL_p (ePtr x5 (w64 (i6 - (1 : Int))) 2) (P_indexAddrM (α := Span) Try.underlying51 Try.sizeOf85 rfl (l5.toM) rfl mA) rfl ?_
      refine EL_do .plain rfl (D_loadM (g := r8) Try.isAgg85 Try.sizeOf85 rfl (l5.toM) mA fun gE y9 => ?_)
      refine EL_do .plain rfl (D_allocOc (g := r8) 2013 (⟨0, 0⟩ : Span) Try.zeroValue85 (fun m w => ⟨_, (rep_two rep_int rep_int), rfl⟩) fun iE cG zB hs b132 cb => ?_)
      have hfr := hfr.stp hs
      have l5 := l5.stp hs rfl
      have u3 := u3.stp hs
      have y9 := y9.stp hs
      clear cb
      refine EL_do .plain rfl (D_storeOc (g := iE) (v := gE) Try.sizeOf85 rfl b132 rfl y9 fun v8 jE hs b133 cb => ?_)
      clear cb
      have hfr := hfr.stp hs
      have l5 := l5.stp hs rfl
      have u3 := u3.stp hs
      refine EL_nil (thn_n (E_region (EL_mv a7 rfl ?_)))
      refine EL_mw (.int .i64 (i6)) rfl rfl ?_
      refine EL_in (.int .i64 ((w64 (i6 - (1 : Int))))) rfl rfl rfl rfl ?_
      refine EL_p (fPtr zB 0) (P_fieldAddr at_85_0 rfl (OB.ptr b133)) rfl ?_
      refine EL_do .plain rfl (D_loadF (g := v8) part_Span_0.1 Try.isAgg3 Try.sizeOf3 rfl b133 fun dG kE => ?_)
      obtain rfl := RV_int.1 kE
      refine EL_in (.int .i64 ((w64 ((y130).Low - (1 : Int))))) rfl rfl rfl rfl ?_
      refine EL_p (.int .i64 (max64 (0 : Int) (w64 ((y130).Low - (1 : Int))))) (P_max rfl rfl) rfl ?_
      refine EL_p (fPtr zB 1) (P_fieldAddr at_85_1 rfl (OB.ptr b133)) rfl ?_
      refine EL_do .plain rfl (D_loadF (g := v8) part_Span_1.1 Try.isAgg3 Try.sizeOf3 rfl b133 fun eG lE => ?_)
      obtain rfl := RV_int.1 lE
      refine EL_in (.int .i64 ((w64 ((y130).High - (1 : Int))))) rfl rfl rfl rfl ?_
      refine EL_p (.int .i64 (max64 (0 : Int) (w64 ((y130).High - (1 : Int))))) (P_max rfl rfl) rfl ?_
      have aC : RV v8.m jE (⟨(max64 (0 : Int) (w64 ((y130).Low - (1 : Int)))), (max64 (0 : Int) (w64 ((y130).High - (1 : Int))))⟩ : Span) (.agg (setCh [[.int .i64 0], [.int .i64 0]] [(0, .int .i64 (max64 (0 : Int) (w64 ((y130).Low - (1 : Int))))), (1, .int .i64 (max64 (0 : Int) (w64 ((y130).High - (1 : Int)))))]).flatten.toArray) := RV_build rfl (rep_pair (rfl) (rep_last (rfl)))
      generalize oD : (Value.agg (setCh [[.int .i64 0], [.int .i64 0]] [(0, .int .i64 (max64 (0 : Int) (w64 ((y130).Low - (1 : Int))))), (1, .int .i64 (max64 (0 : Int) (w64 ((y130).High - (1 : Int)))))]).flatten.toArray) = mE at aC
      refine EL_p mE (oD ▸ P_build (vs := [(0, .int .i64 (max64 (0 : Int) (w64 ((y130).Low - (1 : Int))))), (1, .int .i64 (max64 (0 : Int) (w64 ((y130).High - (1 : Int)))))]) [[.int .i64 0], [.int .i64 0]] lay_85 rfl rfl (.cons rfl (.cons rfl .nil)) ⟨⟨_, rfl, rfl⟩, ⟨⟨_, rfl, rfl⟩, trivial⟩⟩) rfl ?_
      obtain ⟨zD, pA, h⟩ := bsome h
      refine EL_p (ePtr x5 (w64 (i6 - (1 : Int))) 2) (P_indexAddrM (α := Span) Try.underlying51 Try.sizeOf85 rfl (l5.toM) rfl pA) rfl ?_
      refine EL_do .plain rfl (D_storeA (g := v8) (α := Span) (a' := ((⟨(max64 (0 : Int) (w64 ((y130).Low - (1 : Int)))), (max64 (0 : Int) (w64 ((y130).High - (1 : Int))))⟩ : Span))) Try.sizeOf85 rfl l5 pA rfl aC fun nE gG hs b140 => ?_)
      have hfr := hfr.stp hs
      have u3 := u3.stp hs
      refine EL_nil (blk_n ?_)
      obtain rfl := sinj h
      exact hQ _ _ ⟨nE, hfr, a7, b140, k8, u3, l8, d7⟩
     ·clear hx
      obtain ⟨oE, hfr, cC, eC, qA, rA, yA, aB⟩ := hR
      refine E_region (EL_in (.int .i64 ((w64 (o0 + (1 : Int))))) aB rfl rfl rfl ?_)
      refine EL_mw (.int .i64 ((w64 (o0 + (1 : Int))))) rfl rfl ?_
      exact EL_nil (thn_n (nD (y6, (w64 (o0 + (1 : Int)))) _ _ ⟨oE, hfr, cC, eC, qA, rA, yA, rfl⟩ h))
    ·refine E_cf t8 rfl ?_
     refine E_exit ?_
     refine thn_e ?_
     refine thn_e ?_
     refine blk_hit ?_
     obtain rfl := sinj h
     exact hQ _ _ ⟨r8, hfr, a7, l5⟩
   ·clear hx
    obtain ⟨hG, hfr, iC, lC⟩ := hR
    refine E_seq (E_region (EL_mv iC rfl ?_))
    refine EL_at x5 rfl rfl ?_
    refine EL_at (.int .i64 (0)) rfl rfl ?_
    refine EL_at (.int .i64 (0)) rfl rfl ?_
    refine EL_nil (thn_n (E_ret ?_))
    obtain ⟨gp143, hs, rp143⟩ := OM.pub (lC.toM)
    have hfr := hfr.stp hs
    obtain rfl := sinj h
    exact end3 rfl rfl (show _ = x5 from rfl) (show _ = .int .i64 (0) from rfl) (show _ = .int .i64 (0) from rfl) ⟨_, hfr, _, _, _, rfl, rp143, rfl, rfl⟩
def f30 (x0 : BoxLoom) (x1 : List BoxPick) : Option (Int × Int × Int) :=
 (f70 x0 x1).bind fun y4 =>
 jn (σ := Unit) (fun _ =>
  (f73 (y4.1) ((y4.2.1).thrown) ((fun a0 => f71 a0))).bind fun i5 =>
  (f73 (y4.1) ((y4.2.1).thrown) ((fun a0 => f72 a0))).bind fun l5 =>
  some (i5, l5, (0 : Int))
  ) fun y6 =>
 bif (y4.2.2.2 != (0 : Int)) then
  some ((0 : Int), (0 : Int), y4.2.2.2)
 else
  y6 ()
theorem en30 : Enters Try.prog 30 := enters_of Try.func30 (by kernel_rfl) rfl
theorem wk30 {gI : Gh} {wI : World} {x0 : BoxLoom} {x1 : List BoxPick} {up0 : Value} (rp0 : RV gI.m wI x0 up0) {up1 : Value} (rp1 : RV gI.m wI x1 up1) {r : Int × Int × Int} (h : f30 x0 x1 = some r) : Fn Try.prog 30 #[up0, up1] gI wI (fun m w v => ∃ y0 y1 y2, v = .tuple #[y0, y1, y2] ∧ y0 = .int .i64 (r.1) ∧ y1 = .int .i64 (r.2.1) ∧ y2 = .int .i64 (r.2.2)) := by
 unfold f30 at h
 refine fn_of_E Try.func30 rfl (Nat.le_of_ble_eq_true rfl) fun g0 hm hfr => ?_
 have rp0 : RV g0.m wI x0 up0 := hm ▸ rp0
 have rp1 : RV g0.m wI x1 up1 := hm ▸ rp1
 show E _ 33 none _ _ _ _ _
 refine E_seq (E_region (EL_do .plain rfl (D_box (g := g0) rfl rp0 fun g1 w1 p1 hs q1 => ?_)))
 have hfr := hfr.ext hs
 have rp1 := rp1.ext hs
 iterate 3 refine EL_at (.int .i64 (0)) rfl rfl ?_
 refine EL_nil (thn_n (E_seq (E_region (EL_do .plain rfl (D_load (g := g1) Try.isAgg25 Try.sizeOf25 rfl q1 fun v2 r2 => ?_)))))
 refine EL_mw up1 rfl rfl ?_
 obtain ⟨y4, q8, h⟩ := bsome h
 refine EL_do .plain rfl (D_call (g := g1) (vs := [v2, up1]) en70 (.cons rfl (.cons rfl .nil)) (wk70 r2 rp1 q8) fun g3 w3_ v3 hs hr => ?_)
 have hfr := hfr.ext hs
 obtain ⟨t5, x5, d9, k9, rfl, u3, o0, rfl, rfl⟩ := hr
 refine EL_mw (.tuple #[t5, x5, .int .i64 (y4.2.2.1), .int .i64 (y4.2.2.2)]) rfl rfl ?_
 refine EL_p t5 (P_extract rfl rfl) rfl ?_
 refine EL_p x5 (P_extract rfl rfl) rfl ?_
 refine EL_p (.int .i64 (y4.2.2.1)) (P_extract rfl rfl) rfl ?_
 refine EL_p (.int .i64 (y4.2.2.2)) (P_extract rfl rfl) rfl ?_
 refine EL_do .plain rfl (D_allocOc (g := g3) 2007 (⟨⟨[], [], []⟩⟩ : BoxBoxLoom) Try.zeroValue102 (fun m w => ⟨_, (rep_two rep_nil (rep_two rep_nil rep_nil)), rfl⟩) fun g5 w5 p5 hs b5 cb => ?_)
 have hfr := hfr.stp hs
 have u3 := u3.stp hs
 have o0 := o0.stp hs
 have l9 : OSF 2007 60700 0 g5 w5 3 102 ([] : List Int) p5 := cb.osf (by rfl)
 have n9 : OSF 2007 60701 1 g5 w5 3 102 ([] : List Int) p5 := cb.osf (by rfl)
 have u9 : OSF 2007 60702 2 g5 w5 87 102 ([] : List BoxShuttle) p5 := cb.osf (by rfl)
 clear cb
 refine EL_do .plain rfl (D_allocOc (g := g5) 2008 (⟨[], ⟨(⟨List.toArray [(⟨List.toArray [0, 0, 0, 0], rfl⟩ : Vector Int 4), (⟨List.toArray [0, 0, 0, 0], rfl⟩ : Vector Int 4)], rfl⟩ : Vector (Vector Int 4) 2), ⟨0, 0⟩⟩, 0⟩ : BoxRun) Try.zeroValue129 (fun m w => ⟨_, (rep_two rep_nil (rep_two (rep_two (rep_vec (flat_chunk (rep_vec (flat_chunk rep_int (flat_chunk rep_int (flat_chunk rep_int (flat_chunk rep_int flat_nil)))) rfl) (flat_chunk (rep_vec (flat_chunk rep_int (flat_chunk rep_int (flat_chunk rep_int (flat_chunk rep_int flat_nil)))) rfl) flat_nil)) rfl) (rep_two rep_int rep_int)) rep_int)), rfl⟩) fun g6 w6 p6 hs b6 cb => ?_)
 have hfr := hfr.stp hs
 have u3 := u3.stp hs
 have o0 := o0.stp hs
 have b5 := b5.stp hs rfl
 have y9 : OSF 2008 60800 0 g6 w6 3 129 ([] : List Int) p6 := cb.osf (by rfl)
 clear cb
 refine EL_do .plain rfl (D_storeOc (g := g6) (v := t5) Try.sizeOf102 rfl b5 rfl u3 fun g7 w7 hs b7 cb => ?_)
 clear cb
 have hfr := hfr.stp hs
 have o0 := o0.stp hs
 have b6 := b6.stp hs rfl
 refine EL_do .plain rfl (D_storeOc (g := g7) (v := x5) Try.sizeOf129 rfl b6 rfl o0 fun g8 w8 hs b8 cb => ?_)
 clear cb
 have hfr := hfr.stp hs
 have b7 := b7.stp hs rfl
 refine EL_at (.int .i64 (y4.2.2.1)) rfl rfl ?_
 refine EL_at (.int .i64 (y4.2.2.2)) rfl rfl ?_
 refine EL_nil (thn_n (E_joinC h (fun (s : Unit) e w => ∃ (g : Gh) , Fr gI wI g w ∧ e 7 = p5 ∧ OB 2007 g w 102 (y4.1 : BoxBoxLoom) p5 ∧ e 8 = p6 ∧ OB 2008 g w 129 (y4.2.1 : BoxRun) p6) (fun X10 y6 m7 h => ?_) ?_))
 ·refine E_seq (E_region (EL_mw (.int .i64 (y4.2.2.2)) rfl rfl ?_))
  refine EL_in (.bool ((y4.2.2.2 != (0 : Int)))) rfl rfl rfl rfl ?_
  refine EL_nil (thn_n ?_)
  rcases csome h with ⟨i6, h⟩ | ⟨i6, h⟩
  ·refine E_ct i6 rfl ?_
   refine E_seq (E_region (EL_mw (.int .i64 (y4.2.2.2)) rfl rfl ?_))
   refine EL_at (.int .i64 (0)) rfl rfl ?_
   refine EL_at (.int .i64 (0)) rfl rfl ?_
   refine EL_at (.int .i64 (y4.2.2.2)) rfl rfl ?_
   refine EL_nil (thn_n (E_ret (thn_r ?_)))
   obtain rfl := sinj h
   exact end3 rfl rfl (show _ = .int .i64 (0) from rfl) (show _ = .int .i64 (0) from rfl) (show _ = .int .i64 (y4.2.2.2) from rfl) ⟨_, hfr, _, _, _, rfl, rfl, rfl, rfl⟩
  ·refine E_cf i6 rfl ?_
   exact E_skip (thn_n (m7 () _ _ ⟨g8, hfr, rfl, b7, rfl, b8⟩ h))
 ·rintro _ z9 bA ⟨r8, hfr, j6, v6, x6, i3⟩ h
  refine E_seq (E_region (EL_at (.func (.func 71) #[] #[]) rfl rfl ?_))
  refine EL_at (.func (.func 72) #[] #[]) rfl rfl ?_
  refine EL_nil (thn_n (E_seq (L_loadO0 (x := .tmp 7) Try.isAgg102 Try.sizeOf102 v6 fun a7 t8 v7 => ?_)))
  refine L_loadO (x := .tmp 24) part_BoxRun_0.1 Try.isAgg22 Try.sizeOf22 i3 fun d7 v8 i8 => ?_
  obtain ⟨i5, k8, h⟩ := bsome h
  refine L_loadO0 (x := .tmp 7) Try.isAgg102 Try.sizeOf102 v6 fun i7 x8 l8 => ?_
  refine L_loadO (x := .tmp 29) part_BoxRun_0.1 Try.isAgg22 Try.sizeOf22 i3 fun j7 a9 m8 => ?_
  obtain ⟨l5, n8, h⟩ := bsome h
  refine E_drawL (g := r8) (n := 13) [(4, (fun v g w => v = .int .i64 (i5))), (9, (fun v g w => v = .int .i64 (l5)))] [0, 1, 2, 3, 4, 5, 6, 7, 8, 9, 10, 11, 12] rfl mixed (by kernel_rfl) (⟨fun _ => up_eq _, fun _ => up_eq _, trivial⟩) ?_
  refine L_ld (c := a7) rfl rfl .plain (fun _ _ h => ⟨h.ch, fun b hb _ => h.below.block b hb⟩) v7 j6 ?_
  refine L_p (fPtr p6 0) rfl rfl (P_fieldAddr at_129_0 x6 (OB.ptr i3)) ?_
  refine L_ld (c := d7) rfl rfl .plain (fun _ _ h => ⟨h.ch, fun b hb _ => h.below.block b hb⟩) i8 rfl ?_
  refine L_p (.func (.func 71) #[] #[]) rfl rfl (P_move rfl) ?_
  refine L_do (φ := fun v g w => v = .int .i64 (i5)) rfl rfl .plain (fun g w hd => D_call (g := g) (vs := [a7, d7, .func (.func 71) #[] #[]]) en73 (.cons rfl (.cons rfl (.cons rfl .nil))) (wk73 (t8.ext hd.1) (v8.ext hd.1) ⟨71, #[], #[], rfl, en71, fun g' w' hch a0 b0 r hu0 hr => by exact Fn.mono (wk71 hu0  hr) fun _ _ _ h => RV_int.2 h⟩ k8) fun g' w' v hs hr => ⟨g', hs, hr⟩) (fun gA hv => ?_)
  obtain ⟨_, _, _, rfl⟩ := hv
  refine L_ld (c := i7) rfl rfl .plain (fun _ _ h => ⟨h.ch, fun b hb _ => h.below.block b hb⟩) l8 j6 ?_
  refine L_p (fPtr p6 0) rfl rfl (P_fieldAddr at_129_0 x6 (OB.ptr i3)) ?_
  refine L_ld (c := j7) rfl rfl .plain (fun _ _ h => ⟨h.ch, fun b hb _ => h.below.block b hb⟩) m8 rfl ?_
  refine L_p (.func (.func 72) #[] #[]) rfl rfl (P_move rfl) ?_
  refine L_do (φ := fun v g w => v = .int .i64 (l5)) rfl rfl .plain (fun g w hd => D_call (g := g) (vs := [i7, j7, .func (.func 72) #[] #[]]) en73 (.cons rfl (.cons rfl (.cons rfl .nil))) (wk73 (x8.ext hd.1) (a9.ext hd.1) ⟨72, #[], #[], rfl, en72, fun g' w' hch a0 b0 r hu0 hr => by exact Fn.mono (wk72 hu0  hr) fun _ _ _ h => RV_int.2 h⟩ n8) fun g' w' v hs hr => ⟨g', hs, hr⟩) (fun iA hv => ?_)
  obtain ⟨_, _, _, rfl⟩ := hv
  refine L_p (.int .i64 (i5)) rfl rfl (P_assign rfl) ?_
  refine L_p (.int .i64 (l5)) rfl rfl (P_assign rfl) ?_
  refine L_p (.int .i64 (0)) rfl rfl (P_assign rfl) ?_
  refine L_nl fun jA mA hs => ?_
  have hfr := hfr.ext hs
  clear hs
  refine EL_nil (thn_n (E_ret ?_))
  obtain rfl := sinj h
  exact end3 rfl rfl (show _ = .int .i64 (i5) from rfl) (show _ = .int .i64 (l5) from rfl) (show _ = .int .i64 (0) from rfl) ⟨_, hfr, _, _, _, rfl, rfl, rfl, rfl⟩
theorem W15 {iO : Nat} {gI : Gh} {wI : World} {x0 : BoxLoom} {up0 : Value} (rp0 : RV gI.m wI x0 up0) {r : BoxLoom} (h : f15 x0 = some r) : FnG Try.prog 15 #[up0] gI wI (fun g w v => OWx ow_BoxLoom iO g w r v) := by
 unfold f15 at h
 refine fnG_of_E Try.func15 rfl (Nat.le_of_ble_eq_true rfl) fun g0 hm hfr => ?_
 have rp0 : RV g0.m wI x0 up0 := hm ▸ rp0
 show E _ 5 none _ _ _ _ _
 refine E_seq (E_region (EL_do .plain rfl (D_box (g := g0) rfl rp0 fun g1 w1 p1 hs q1 => ?_)))
 have hfr := hfr.ext hs
 refine EL_do .plain rfl (D_allocOc (g := g1) 2002 (⟨[], [], []⟩ : BoxLoom) Try.zeroValue25 (fun m w => ⟨_, (rep_two rep_nil (rep_two rep_nil rep_nil)), rfl⟩) fun g2 w2 p2 hs b2 cb => ?_)
 have hfr := hfr.stp hs
 have q1 := q1.stp hs
 have o0 : OSF 2002 60200 0 g2 w2 3 25 ([] : List Int) p2 := cb.osf (by rfl)
 have i3 : OSF 2002 60201 1 g2 w2 3 25 ([] : List Int) p2 := cb.osf (by rfl)
 have u3 : OSF 2002 60202 2 g2 w2 87 25 ([] : List BoxShuttle) p2 := cb.osf (by rfl)
 clear cb
 refine EL_nil (thn_n (E_seq (E_region (EL_do .plain rfl (D_load (g := g2) Try.isAgg25 Try.sizeOf25 rfl q1 fun v3 r3 => ?_)))))
 obtain ⟨y5, hy5, h⟩ := bsome h
 refine EL_do .plain rfl (D_callG (g := g2) (vs := [v3]) en50 (.cons rfl .nil) (W50 (iO := 4004) r3 hy5) fun g4 w4 v4 hs hm4 => ?_)
 have hfr := hfr.ext hs
 have b2 := b2.ext hs
 obtain ⟨sk4, ow4, ok4⟩ := hm4
 refine EL_do .plain rfl (D_storeOW (g := g4) Try.sizeOf25 rfl b2 rfl ow4 rfl fun gj6 g6 w6 bk6 hsa hsb hpp b6 => ?_)
 have hfr := hfr.stp hsa
 have hfr := hfr.stp hsb
 clear hsa hsb
 subst hpp
 refine EL_nil (thn_n (E_ret ?_))
 obtain rfl := sinj h
 obtain ⟨v7, hl7, ow7⟩ := OV.read (t := 25) Try.isAgg25 Try.sizeOf25 b6 rfl
 obtain ⟨gh, hxh, _, homh⟩ := OW.hand (i := iO) hfr ow7 ok4
 exact endm_c rfl rfl (show _ = (Value.pointer (some ⟨bk6, 0, none⟩)) from rfl) hl7 ⟨gh, hxh, homh⟩
def f11 (x0 : Race) (x1 : List UInt8) (x2 : UInt8) : Option (Bool) :=
 (f38 x0).bind fun y4 =>
 (f39 x0 y4 ((24 : Int))).bind fun x6 =>
 (f15 y4).bind fun y15 =>
 (f28 (x6.1)).bind fun y17 =>
 (f30 y15 y17).bind fun o0 =>
 (f15 y4).bind fun y22 =>
 (f28 (x6.1)).bind fun y24 =>
 (f29 y22 y24).bind fun j7 =>
 jn (σ := Unit) (fun _ =>
  Option.bind (α := (List Int)) (
   lp (σ := (List Int) × Int) (fun zS (xD, g8) =>
    jn (σ := Unit) (fun _ =>
     Option.bind (α := (List Int)) (
      Option.bind (α := Int) (
       bif (decide (((x1).length : Int) > (0 : Int))) then
        (rem64 g8 ((x1).length : Int)).bind fun dK =>
        (idx x1 dK).bind fun eK =>
        some (((eK).toNat : Int))
       else
        some ((0 : Int))
       ) fun yE =>
      (idx ((y4).Shuttles) g8).bind fun t8 =>
      (rem64 yE (w64 ((w64 (((t8).Yarn).High - ((t8).Yarn).Low)) + (1 : Int)))).bind fun oB =>
      (apnd 8 xD (([(w64 (((t8).Yarn).Low + oB))] : List Int))).bind fun eT =>
      some (eT)
      ) fun zE =>
     zS (zE, (w64 (g8 + (1 : Int))))
     ) fun lT =>
    bif (decide (g8 < (((y4).Shuttles).length : Int))) then
     lT ()
    else
     some (xD)
    ) big (([] : List Int), (0 : Int))
   ) fun aG =>
  Option.bind (α := (List Int) × Int) (
   lp (σ := (List Int) × Int × Int) (fun mT (mA, pA, a7) =>
    jn (σ := Unit) (fun _ =>
     Option.bind (α := (List Int) × Int) (
      Option.bind (α := Int) (
       Option.bind (α := Bool) (
        (idx (x6.2.1) a7).bind fun mN =>
        (idx mA mN).bind fun bG =>
        bif (bG == (0 : Int)) then
         some ((decide (pA < (0 : Int))))
        else
         some (false)
        ) fun mD =>
       bif mD then
        some (a7)
       else
        some (pA)
       ) fun cG =>
      (idx (x6.2.1) a7).bind fun bH =>
      (idx (x6.2.1) a7).bind fun lK =>
      (idx mA lK).bind fun dG =>
      (idx mA bH).bind fun d01 =>
      some ((List.set mA (Int.toNat bH) ((max64 (0 : Int) (w64 (dG - (1 : Int)))))), cG)
      ) fun (cF, dF) =>
     mT (cF, dF, (w64 (a7 + (1 : Int))))
     ) fun nT =>
    bif (decide (a7 < ((x6.2.1).length : Int))) then
     nT ()
    else
     some (mA, pA)
    ) big (aG, (-1 : Int), (0 : Int))
   ) fun (k9, i5) =>
  jn (σ := Unit) (fun _ =>
   jn (σ := Unit) (fun _ =>
    (f15 y4).bind fun aP =>
    Option.bind (α := BoxLoom) (
     lp (σ := BoxLoom × Int) (fun bP (u3, l5) =>
      jn (σ := Unit) (fun _ =>
       Option.bind (α := BoxLoom) (
        (idx ((u3).Shuttles) l5).bind fun y6 =>
        (rem64 ((x2).toNat : Int) (3 : Int)).bind fun sF =>
        (rem64 ((x2).toNat : Int) (5 : Int)).bind fun tF =>
        (f42 ((w64 (((y6).Yarn).Low + sF))) ((w64 (((y6).Yarn).High + tF)))).bind fun x8 =>
        (rem64 ((x2).toNat : Int) (3 : Int)).bind fun rG =>
        (rem64 ((x2).toNat : Int) (5 : Int)).bind fun sG =>
        bif (decide (rG > sG)) then
         (f42 (((y6).Yarn).Low) ((w64 (((y6).Yarn).High + (1 : Int))))).bind fun gE =>
         (idx ((({ u3 with Shuttles := (List.set ((u3).Shuttles) (Int.toNat l5) ({ y6 with Yarn := x8 } : BoxShuttle)) } : BoxLoom)).Shuttles) l5).bind fun tG =>
         some (({ (({ u3 with Shuttles := (List.set ((u3).Shuttles) (Int.toNat l5) ({ y6 with Yarn := x8 } : BoxShuttle)) } : BoxLoom)) with Shuttles := (List.set ((({ u3 with Shuttles := (List.set ((u3).Shuttles) (Int.toNat l5) ({ y6 with Yarn := x8 } : BoxShuttle)) } : BoxLoom)).Shuttles) (Int.toNat l5) ({ tG with Yarn := gE } : BoxShuttle)) } : BoxLoom))
        else
         some (({ u3 with Shuttles := (List.set ((u3).Shuttles) (Int.toNat l5) ({ y6 with Yarn := x8 } : BoxShuttle)) } : BoxLoom))
        ) fun iE =>
       bP (iE, (w64 (l5 + (1 : Int))))
       ) fun cP =>
      bif (decide (l5 < (((u3).Shuttles).length : Int))) then
       cP ()
      else
       some (u3)
      ) big (aP, (0 : Int))
     ) fun nF =>
    (f28 (x6.1)).bind fun dP =>
    (f30 nF dP).bind fun i3 =>
    Option.bind (α := Bool) (
     bif (i3.2.2 == (0 : Int)) then
      bif (decide (i3.1 < (0 : Int))) then
       bif (decide (i3.2.1 < (0 : Int))) then
        (f14).bind fun uG =>
        some (uG)
       else
        bif (decide (o0.2.1 ≥ (0 : Int))) then
         bif (decide (i3.2.1 ≥ o0.2.1)) then
          (f14).bind fun vG =>
          some (vG)
         else
          some (false)
        else
         some (false)
      else
       bif (decide (o0.1 ≥ (0 : Int))) then
        bif (decide (i3.1 ≥ o0.1)) then
         bif (decide (i3.2.1 < (0 : Int))) then
          (f14).bind fun xG =>
          some (xG)
         else
          bif (decide (o0.2.1 ≥ (0 : Int))) then
           bif (decide (i3.2.1 ≥ o0.2.1)) then
            (f14).bind fun yG =>
            some (yG)
           else
            some (false)
          else
           some (false)
        else
         some (false)
       else
        some (false)
     else
      some (false)
     ) fun eF =>
    some (eF)
    ) fun eP =>
   Option.bind (α := Bool) (
    bif (decide (i5 ≥ (0 : Int))) then
     bif (decide (o0.1 < (0 : Int))) then
      some (true)
     else
      bif (decide (i5 < o0.1)) then
       some (true)
      else
       bif (decide (o0.2.1 ≥ (0 : Int))) then
        bif (decide (i5 < (0 : Int))) then
         some (true)
        else
         some ((decide (i5 > o0.2.1)))
       else
        some (false)
    else
     bif (decide (o0.2.1 ≥ (0 : Int))) then
      bif (decide (i5 < (0 : Int))) then
       some (true)
      else
       some ((decide (i5 > o0.2.1)))
     else
      some (false)
    ) fun gD =>
   bif gD then
    some (false)
   else
    eP ()
   ) fun oT =>
  lp (σ := Int) (fun pT v6 =>
   jn (σ := Unit) (fun _ =>
    jn (σ := Unit) (fun _ =>
     pT ((w64 (v6 + (1 : Int))))
     ) fun gP =>
    Option.bind (α := Bool) (
     (idx k9 v6).bind fun cD =>
     (idx (j7.1) v6).bind fun eD =>
     bif (decide (cD < (eD).Low)) then
      some (true)
     else
      (idx k9 v6).bind fun uF =>
      (idx (j7.1) v6).bind fun vF =>
      some ((decide (uF > (vF).High)))
     ) fun iD =>
    bif iD then
     some (false)
    else
     gP ()
    ) fun sT =>
   bif (decide (v6 < ((k9).length : Int))) then
    sT ()
   else
    oT ()
   ) big ((0 : Int))
  ) fun k51 =>
 Option.bind (α := Bool) (
  bif (o0.2.2 != (0 : Int)) then
   some (true)
  else
   bif (j7.2.2 != (0 : Int)) then
    some (true)
   else
    bif (((j7.1).length : Int) != (((y4).Shuttles).length : Int)) then
     some (true)
    else
     bif (decide (o0.1 < (-1 : Int))) then
      some (true)
     else
      bif (decide (o0.1 ≥ ((x6.1).length : Int))) then
       some (true)
      else
       bif (decide (o0.2.1 < (-1 : Int))) then
        some (true)
       else
        bif (decide (o0.2.1 ≥ ((x6.1).length : Int))) then
         some (true)
        else
         bif (decide (o0.2.1 ≥ (0 : Int))) then
          bif (decide (o0.1 < (0 : Int))) then
           some (true)
          else
           some ((decide (o0.1 > o0.2.1)))
         else
          some (false)
  ) fun yD =>
 bif yD then
  some (false)
 else
  k51 ()
theorem wk11 {gI : Gh} {wI : World} {x0 : Race} {x1 : List UInt8} {x2 : UInt8} {up0 : Value} (rp0 : RV gI.m wI x0 up0) {up1 : Value} (rp1 : RV gI.m wI x1 up1) {r : Bool} (h : f11 x0 x1 x2 = some r) : Fn Try.prog 11 #[up0, up1, .int .u8 (UInt8.toNat (x2))] gI wI (fun _ _ v => v = .bool (r)) := by
 unfold f11 at h
 refine fn_of_E Try.func11 rfl (Nat.le_of_ble_eq_true rfl) fun g0 hm hfr => ?_
 have rp0 : RV g0.m wI x0 up0 := hm ▸ rp0
 have rp1 : RV g0.m wI x1 up1 := hm ▸ rp1
 show E _ 321 none _ _ _ _ _
 refine E_seq (E_region (EL_do .plain rfl (D_box (g := g0) rfl rp0 fun g1 w1 p1 hs q1 => ?_)))
 have hfr := hfr.ext hs
 have rp1 := rp1.ext hs
 refine EL_at (.bool false) rfl rfl ?_
 refine EL_nil (thn_n (E_seq (E_region (EL_do .plain rfl (D_load (g := g1) Try.isAgg73 Try.sizeOf73 rfl q1 fun v2 r2 => ?_)))))
 obtain ⟨y4, hy4, h⟩ := bsome h
 refine EL_do .plain rfl (D_call (g := g1) (vs := [v2]) en38 (.cons rfl .nil) (wk38 r2 hy4) fun g3 w3_ v3 hs hr => ?_)
 have hfr := hfr.ext hs
 have rp1 := rp1.ext hs
 have q1 := q1.ext hs
 have r3 := hr
 refine EL_do .plain rfl (D_allocOc (g := g3) 2007 (⟨[], [], []⟩ : BoxLoom) Try.zeroValue25 (fun m w => ⟨_, (rep_two rep_nil (rep_two rep_nil rep_nil)), rfl⟩) fun g5 w5 p5 hs b5 cb => ?_)
 have hfr := hfr.stp hs
 have rp1 := rp1.stp hs
 have q1 := q1.stp hs
 have r3 := r3.stp hs
 have k06 : OSF 2007 60700 0 g5 w5 3 25 ([] : List Int) p5 := cb.osf (by rfl)
 have l06 : OSF 2007 60701 1 g5 w5 3 25 ([] : List Int) p5 := cb.osf (by rfl)
 have m06 : OSF 2007 60702 2 g5 w5 87 25 ([] : List BoxShuttle) p5 := cb.osf (by rfl)
 clear cb
 refine EL_do .plain rfl (D_storeOc (g := g5) (v := v3) Try.sizeOf25 rfl b5 rfl r3 fun g6 w6 hs b6 cb => ?_)
 clear cb
 have hfr := hfr.stp hs
 have rp1 := rp1.stp hs
 have q1 := q1.stp hs
 refine EL_nil (thn_n (E_seq (E_region (EL_do .plain rfl (D_load (g := g6) Try.isAgg73 Try.sizeOf73 rfl q1 fun v7 r7 => ?_)))))
 refine EL_do .plain rfl (D_loadO (g := g6) Try.isAgg25 Try.sizeOf25 rfl b6 fun v8 r8 => ?_)
 obtain ⟨x6, e01, h⟩ := bsome h
 refine EL_do .plain rfl (D_call (g := g6) (vs := [v7, v8, .int .i64 (24)]) en39 (.cons rfl (.cons rfl (.cons rfl .nil))) (wk39 r7 r8 e01) fun g9 w9_ v9 hs hr => ?_)
 have hfr := hfr.ext hs
 have rp1 := rp1.ext hs
 have b6 := b6.ext hs
 obtain ⟨t5, d7, nN, n06, rfl, i7, m7, oN, rfl⟩ := hr
 refine EL_mw (.tuple #[t5, d7, nN, .int .i64 (x6.2.2.2)]) rfl rfl ?_
 refine EL_p t5 (P_extract rfl rfl) rfl ?_
 refine EL_p d7 (P_extract rfl rfl) rfl ?_
 refine EL_p nN (P_extract rfl rfl) rfl ?_
 refine EL_p (.int .i64 (x6.2.2.2)) (P_extract rfl rfl) rfl ?_
 refine EL_do .plain rfl (D_allocOc (g := g9) 2010 ((⟨List.toArray [(⟨List.toArray [0, 0, 0, 0], rfl⟩ : Vector Int 4), (⟨List.toArray [0, 0, 0, 0], rfl⟩ : Vector Int 4)], rfl⟩ : Vector (Vector Int 4) 2) : Vector (Vector Int 4) 2) Try.zeroValue76 (fun m w => ⟨_, (rep_vec (flat_chunk (rep_vec (flat_chunk rep_int (flat_chunk rep_int (flat_chunk rep_int (flat_chunk rep_int flat_nil)))) rfl) (flat_chunk (rep_vec (flat_chunk rep_int (flat_chunk rep_int (flat_chunk rep_int (flat_chunk rep_int flat_nil)))) rfl) flat_nil)) rfl), rfl⟩) fun g11 w11 p11 hs b11 cb => ?_)
 have hfr := hfr.stp hs
 have rp1 := rp1.stp hs
 have b6 := b6.stp hs rfl
 have i7 := i7.stp hs
 have m7 := m7.stp hs
 have oN := oN.stp hs
 clear cb
 refine EL_at t5 rfl rfl ?_
 refine EL_at d7 rfl rfl ?_
 refine EL_do .plain rfl (D_storeOc (g := g11) (v := nN) Try.sizeOf76 rfl b11 rfl oN fun g12 w12 hs b12 cb => ?_)
 clear cb
 have hfr := hfr.stp hs
 have rp1 := rp1.stp hs
 have b6 := b6.stp hs rfl
 have i7 := i7.stp hs
 have m7 := m7.stp hs
 refine EL_at (.int .i64 (x6.2.2.2)) rfl rfl ?_
 refine EL_nil (thn_n (E_seq (E_region (EL_do .plain rfl (D_loadO (g := g12) Try.isAgg25 Try.sizeOf25 rfl b6 fun v13 r13 => ?_)))))
 obtain ⟨y15, g01, h⟩ := bsome h
 refine EL_do .plain rfl (D_call (g := g12) (vs := [v13]) en15 (.cons rfl .nil) (wk15 r13 g01) fun g14 o06 v14 hs hr => ?_)
 have hfr := hfr.ext hs
 have rp1 := rp1.ext hs
 have b6 := b6.ext hs
 have i7 := i7.ext hs
 have m7 := m7.ext hs
 have tT := hr
 refine EL_mw t5 rfl rfl ?_
 obtain ⟨y17, h01, h⟩ := bsome h
 refine EL_do .plain rfl (D_call (g := g14) (vs := [t5]) en28 (.cons rfl .nil) (wk28 i7 h01) fun g16 p06 v16 hs hr => ?_)
 have hfr := hfr.ext hs
 have rp1 := rp1.ext hs
 have b6 := b6.ext hs
 have i7 := i7.ext hs
 have m7 := m7.ext hs
 have tT := tT.ext hs
 have r16 := hr
 obtain ⟨o0, i01, h⟩ := bsome h
 refine EL_do .plain rfl (D_call (g := g16) (vs := [v14, v16]) en30 (.cons rfl (.cons rfl .nil)) (wk30 tT r16 i01) fun g18 q06 xF hs hr => ?_)
 have hfr := hfr.ext hs
 have rp1 := rp1.ext hs
 have b6 := b6.ext hs
 have i7 := i7.ext hs
 have m7 := m7.ext hs
 obtain ⟨h04, i04, j04, rfl, rfl, rfl, rfl⟩ := hr
 refine EL_mw (.tuple #[.int .i64 (o0.1), .int .i64 (o0.2.1), .int .i64 (o0.2.2)]) rfl rfl ?_
 refine EL_p (.int .i64 (o0.1)) (P_extract rfl rfl) rfl ?_
 refine EL_p (.int .i64 (o0.2.1)) (P_extract rfl rfl) rfl ?_
 refine EL_p (.int .i64 (o0.2.2)) (P_extract rfl rfl) rfl ?_
 refine EL_at (.int .i64 (o0.1)) rfl rfl ?_
 refine EL_at (.int .i64 (o0.2.1)) rfl rfl ?_
 refine EL_at (.int .i64 (o0.2.2)) rfl rfl ?_
 refine EL_nil (thn_n (E_seq (E_region (EL_do .plain rfl (D_loadO (g := g18) Try.isAgg25 Try.sizeOf25 rfl b6 fun v20 r20 => ?_)))))
 obtain ⟨y22, j01, h⟩ := bsome h
 refine EL_do .plain rfl (D_call (g := g18) (vs := [v20]) en15 (.cons rfl .nil) (wk15 r20 j01) fun g21 r06 v21 hs hr => ?_)
 have hfr := hfr.ext hs
 have rp1 := rp1.ext hs
 have b6 := b6.ext hs
 have i7 := i7.ext hs
 have m7 := m7.ext hs
 have uT := hr
 refine EL_mw t5 rfl rfl ?_
 obtain ⟨y24, k01, h⟩ := bsome h
 refine EL_do .plain rfl (D_call (g := g21) (vs := [t5]) en28 (.cons rfl .nil) (wk28 i7 k01) fun g23 s06 v23 hs hr => ?_)
 have hfr := hfr.ext hs
 have rp1 := rp1.ext hs
 have b6 := b6.ext hs
 have i7 := i7.ext hs
 have m7 := m7.ext hs
 have uT := uT.ext hs
 have r23 := hr
 obtain ⟨j7, l01, h⟩ := bsome h
 refine EL_do .plain rfl (D_call (g := g23) (vs := [v21, v23]) en29 (.cons rfl (.cons rfl .nil)) (wk29 uT r23 l01) fun rE t06 v25 hs hr => ?_)
 have hfr := hfr.ext hs
 have rp1 := rp1.ext hs
 have b6 := b6.ext hs
 have i7 := i7.ext hs
 have m7 := m7.ext hs
 obtain ⟨x5, k04, l04, rfl, tB, rfl, rfl⟩ := hr
 refine EL_mw (.tuple #[x5, .int .i64 (j7.2.1), .int .i64 (j7.2.2)]) rfl rfl ?_
 refine EL_p x5 (P_extract rfl rfl) rfl ?_
 refine EL_p (.int .i64 (j7.2.1)) (P_extract rfl rfl) rfl ?_
 refine EL_p (.int .i64 (j7.2.2)) (P_extract rfl rfl) rfl ?_
 refine EL_at x5 rfl rfl ?_
 refine EL_at (.int .i64 (j7.2.1)) rfl rfl ?_
 refine EL_at (.int .i64 (j7.2.2)) rfl rfl ?_
 refine EL_nil (thn_n (E_joinC h (fun (s : Unit) e w => ∃ (g : Gh) , Fr gI wI g w ∧ e 1 = up1 ∧ RV g.m w (x1 : List UInt8) up1 ∧ e 2 = .int .u8 (UInt8.toNat (x2)) ∧ e 7 = p5 ∧ OB 2007 g w 25 (y4 : BoxLoom) p5 ∧ e 8 = t5 ∧ RV g.m w (x6.1 : List BoxPick) t5 ∧ e 9 = d7 ∧ RV g.m w (x6.2.1 : List Int) d7 ∧ e 12 = .int .i64 (o0.1) ∧ e 13 = .int .i64 (o0.2.1) ∧ e 15 = x5 ∧ RV g.m w (j7.1 : List Span) x5) (fun X51 k51 m01 h => ?_) ?_))
 ·obtain ⟨yD, hx, h⟩ := bsome h
  refine E_join (fun e w => ∃ (g : Gh) , Fr gI wI g w ∧ e 1 = up1 ∧ RV g.m w (x1 : List UInt8) up1 ∧ e 2 = .int .u8 (UInt8.toNat (x2)) ∧ e 7 = p5 ∧ OB 2007 g w 25 (y4 : BoxLoom) p5 ∧ e 8 = t5 ∧ RV g.m w (x6.1 : List BoxPick) t5 ∧ e 9 = d7 ∧ RV g.m w (x6.2.1 : List Int) d7 ∧ e 12 = .int .i64 (o0.1) ∧ e 13 = .int .i64 (o0.2.1) ∧ e 15 = x5 ∧ RV g.m w (j7.1 : List Span) x5 ∧ e 105 = .bool (yD)) (fun Q' hQ => ?_) (fun u06 w75 hR => ?_)
  ·replace h := hx
   clear hx
   refine E_region (EL_mw (.int .i64 (o0.2.2)) rfl rfl ?_)
   refine EL_in (.bool ((o0.2.2 != (0 : Int)))) rfl rfl rfl rfl ?_
   refine EL_mw (.bool ((o0.2.2 != (0 : Int)))) rfl rfl ?_
   rcases csome h with ⟨oF, h⟩ | ⟨oF, h⟩
   ·refine EL_s rfl rfl oF rfl rfl ?_
    refine EL_s rfl rfl oF rfl rfl ?_
    refine EL_p (.bool true) (P_pick (b := (o0.2.2 != (0 : Int))) rfl (pick_t oF rfl)) rfl ?_
    refine EL_dead 41 rfl ?_
    refine EL_nil ?_
    obtain rfl := sinj h
    exact hQ _ _ ⟨rE, hfr, rfl, rp1, rfl, rfl, b6, rfl, i7, rfl, m7, rfl, rfl, rfl, tB, rfl⟩
   ·refine EL_y (.int .i64 (j7.2.2)) (P_move rfl) rfl rfl oF rfl ?_
    refine EL_y (.bool ((j7.2.2 != (0 : Int)))) (P_int rfl rfl rfl) rfl rfl oF rfl ?_
    refine EL_p (.bool ((j7.2.2 != (0 : Int)))) (P_pick (b := (o0.2.2 != (0 : Int))) rfl (pick_f oF rfl)) rfl ?_
    refine EL_mw (.bool ((j7.2.2 != (0 : Int)))) rfl rfl ?_
    rcases csome h with ⟨nD, h⟩ | ⟨nD, h⟩
    ·refine EL_s rfl rfl nD rfl rfl ?_
     iterate 5 refine EL_s rfl rfl nD rfl rfl ?_
     refine EL_p (.bool true) (P_pick (b := (j7.2.2 != (0 : Int))) rfl (pick_t nD rfl)) rfl ?_
     refine EL_dead 33 rfl ?_
     refine EL_nil ?_
     obtain rfl := sinj h
     exact hQ _ _ ⟨rE, hfr, rfl, rp1, rfl, rfl, b6, rfl, i7, rfl, m7, rfl, rfl, rfl, tB, rfl⟩
    ·refine EL_y x5 (P_move rfl) rfl rfl nD rfl ?_
     refine EL_y (.int .i64 ((j7.1).length : Int)) (P_len Try.underlying51 rfl tB) rfl rfl nD rfl ?_
     refine EL_y (fPtr p5 2) (P_fieldAddr at_25_2 rfl (OB.ptr b6)) rfl rfl nD rfl ?_
     refine EL_do (.yes2 rfl rfl nD) rfl (D_loadF (g := rE) part_BoxLoom_2.1 Try.isAgg23 Try.sizeOf23 rfl b6 fun v67 r67 => ?_)
     refine EL_y (.int .i64 (((y4).Shuttles).length : Int)) (P_len Try.underlying23 rfl r67) rfl rfl nD rfl ?_
     refine EL_y (.bool ((((j7.1).length : Int) != (((y4).Shuttles).length : Int)))) (P_int rfl rfl rfl) rfl rfl nD rfl ?_
     refine EL_p (.bool ((((j7.1).length : Int) != (((y4).Shuttles).length : Int)))) (P_pick (b := (j7.2.2 != (0 : Int))) rfl (pick_f nD rfl)) rfl ?_
     refine EL_mw (.bool ((((j7.1).length : Int) != (((y4).Shuttles).length : Int)))) rfl rfl ?_
     rcases csome h with ⟨pF, h⟩ | ⟨pF, h⟩
     ·refine EL_s rfl rfl pF rfl rfl ?_
      refine EL_s rfl rfl pF rfl rfl ?_
      refine EL_p (.bool true) (P_pick (b := (((j7.1).length : Int) != (((y4).Shuttles).length : Int))) rfl (pick_t pF rfl)) rfl ?_
      refine EL_dead 29 rfl ?_
      refine EL_nil ?_
      obtain rfl := sinj h
      exact hQ _ _ ⟨rE, hfr, rfl, rp1, rfl, rfl, b6, rfl, i7, rfl, m7, rfl, rfl, rfl, tB, rfl⟩
     ·refine EL_y (.int .i64 (o0.1)) (P_move rfl) rfl rfl pF rfl ?_
      refine EL_y (.bool ((decide (o0.1 < (-1 : Int))))) (P_int rfl rfl rfl) rfl rfl pF rfl ?_
      refine EL_p (.bool ((decide (o0.1 < (-1 : Int))))) (P_pick (b := (((j7.1).length : Int) != (((y4).Shuttles).length : Int))) rfl (pick_f pF rfl)) rfl ?_
      refine EL_mw (.bool ((decide (o0.1 < (-1 : Int))))) rfl rfl ?_
      rcases csome h with ⟨jE, h⟩ | ⟨jE, h⟩
      ·refine EL_s rfl rfl jE rfl rfl ?_
       iterate 3 refine EL_s rfl rfl jE rfl rfl ?_
       refine EL_p (.bool true) (P_pick (b := (decide (o0.1 < (-1 : Int)))) rfl (pick_t jE rfl)) rfl ?_
       refine EL_dead 23 rfl ?_
       refine EL_nil ?_
       obtain rfl := sinj h
       exact hQ _ _ ⟨rE, hfr, rfl, rp1, rfl, rfl, b6, rfl, i7, rfl, m7, rfl, rfl, rfl, tB, rfl⟩
      ·refine EL_y (.int .i64 (o0.1)) (P_move rfl) rfl rfl jE rfl ?_
       refine EL_y t5 (P_move rfl) rfl rfl jE rfl ?_
       refine EL_y (.int .i64 ((x6.1).length : Int)) (P_len Try.underlying30 rfl i7) rfl rfl jE rfl ?_
       refine EL_y (.bool ((decide (o0.1 ≥ ((x6.1).length : Int))))) (P_int rfl rfl rfl) rfl rfl jE rfl ?_
       refine EL_p (.bool ((decide (o0.1 ≥ ((x6.1).length : Int))))) (P_pick (b := (decide (o0.1 < (-1 : Int)))) rfl (pick_f jE rfl)) rfl ?_
       refine EL_mw (.bool ((decide (o0.1 ≥ ((x6.1).length : Int))))) rfl rfl ?_
       rcases csome h with ⟨qF, h⟩ | ⟨qF, h⟩
       ·refine EL_s rfl rfl qF rfl rfl ?_
        refine EL_s rfl rfl qF rfl rfl ?_
        refine EL_p (.bool true) (P_pick (b := (decide (o0.1 ≥ ((x6.1).length : Int)))) rfl (pick_t qF rfl)) rfl ?_
        refine EL_dead 19 rfl ?_
        refine EL_nil ?_
        obtain rfl := sinj h
        exact hQ _ _ ⟨rE, hfr, rfl, rp1, rfl, rfl, b6, rfl, i7, rfl, m7, rfl, rfl, rfl, tB, rfl⟩
       ·refine EL_y (.int .i64 (o0.2.1)) (P_move rfl) rfl rfl qF rfl ?_
        refine EL_y (.bool ((decide (o0.2.1 < (-1 : Int))))) (P_int rfl rfl rfl) rfl rfl qF rfl ?_
        refine EL_p (.bool ((decide (o0.2.1 < (-1 : Int))))) (P_pick (b := (decide (o0.1 ≥ ((x6.1).length : Int)))) rfl (pick_f qF rfl)) rfl ?_
        refine EL_mw (.bool ((decide (o0.2.1 < (-1 : Int))))) rfl rfl ?_
        rcases csome h with ⟨kE, h⟩ | ⟨kE, h⟩
        ·refine EL_s rfl rfl kE rfl rfl ?_
         iterate 3 refine EL_s rfl rfl kE rfl rfl ?_
         refine EL_p (.bool true) (P_pick (b := (decide (o0.2.1 < (-1 : Int)))) rfl (pick_t kE rfl)) rfl ?_
         refine EL_dead 13 rfl ?_
         refine EL_nil ?_
         obtain rfl := sinj h
         exact hQ _ _ ⟨rE, hfr, rfl, rp1, rfl, rfl, b6, rfl, i7, rfl, m7, rfl, rfl, rfl, tB, rfl⟩
        ·refine EL_y (.int .i64 (o0.2.1)) (P_move rfl) rfl rfl kE rfl ?_
         refine EL_y t5 (P_move rfl) rfl rfl kE rfl ?_
         refine EL_y (.int .i64 ((x6.1).length : Int)) (P_len Try.underlying30 rfl i7) rfl rfl kE rfl ?_
         refine EL_y (.bool ((decide (o0.2.1 ≥ ((x6.1).length : Int))))) (P_int rfl rfl rfl) rfl rfl kE rfl ?_
         refine EL_p (.bool ((decide (o0.2.1 ≥ ((x6.1).length : Int))))) (P_pick (b := (decide (o0.2.1 < (-1 : Int)))) rfl (pick_f kE rfl)) rfl ?_
         refine EL_mw (.bool ((decide (o0.2.1 ≥ ((x6.1).length : Int))))) rfl rfl ?_
         rcases csome h with ⟨yA, h⟩ | ⟨yA, h⟩
         ·refine EL_s rfl rfl yA rfl rfl ?_
          refine EL_s rfl rfl yA rfl rfl ?_
          refine EL_s rfl rfl yA rfl rfl ?_
          refine EL_dead 7 rfl ?_
          refine EL_s rfl rfl yA rfl rfl ?_
          refine EL_p (.bool true) (P_pick (b := (decide (o0.2.1 ≥ ((x6.1).length : Int)))) rfl (pick_t yA rfl)) rfl ?_
          refine EL_nil ?_
          obtain rfl := sinj h
          exact hQ _ _ ⟨rE, hfr, rfl, rp1, rfl, rfl, b6, rfl, i7, rfl, m7, rfl, rfl, rfl, tB, rfl⟩
         ·refine EL_y (.int .i64 (o0.2.1)) (P_move rfl) rfl rfl yA rfl ?_
          refine EL_y (.bool ((decide (o0.2.1 ≥ (0 : Int))))) (P_int rfl rfl rfl) rfl rfl yA rfl ?_
          refine EL_y (.bool ((decide (o0.2.1 ≥ (0 : Int))))) (P_move rfl) rfl rfl yA rfl ?_
          rcases csome h with ⟨uC, h⟩ | ⟨uC, h⟩
          ·refine EL_y (.int .i64 (o0.1)) (P_move rfl) rfl rfl uC rfl ?_
           refine EL_y (.bool ((decide (o0.1 < (0 : Int))))) (P_int rfl rfl rfl) rfl rfl uC rfl ?_
           refine EL_y (.bool ((decide (o0.1 < (0 : Int))))) (P_move rfl) rfl rfl uC rfl ?_
           rcases csome h with ⟨lE, h⟩ | ⟨lE, h⟩
           ·refine EL_s rfl rfl lE rfl rfl ?_
            refine EL_s rfl rfl lE rfl rfl ?_
            refine EL_s rfl rfl lE rfl rfl ?_
            refine EL_y (.bool true) (P_pick (b := (decide (o0.1 < (0 : Int)))) rfl (pick_t lE rfl)) rfl rfl uC rfl ?_
            refine EL_y (.bool true) (P_pick (b := (decide (o0.2.1 ≥ (0 : Int)))) rfl (pick_t uC rfl)) rfl rfl yA rfl ?_
            refine EL_p (.bool true) (P_pick (b := (decide (o0.2.1 ≥ ((x6.1).length : Int)))) rfl (pick_f yA rfl)) rfl ?_
            refine EL_nil ?_
            obtain rfl := sinj h
            exact hQ _ _ ⟨rE, hfr, rfl, rp1, rfl, rfl, b6, rfl, i7, rfl, m7, rfl, rfl, rfl, tB, rfl⟩
           ·refine EL_y (.int .i64 (o0.1)) (P_move rfl) rfl rfl lE rfl ?_
            refine EL_y (.int .i64 (o0.2.1)) (P_move rfl) rfl rfl lE rfl ?_
            refine EL_y (.bool ((decide (o0.1 > o0.2.1)))) (P_int rfl rfl rfl) rfl rfl lE rfl ?_
            refine EL_y (.bool ((decide (o0.1 > o0.2.1)))) (P_pick (b := (decide (o0.1 < (0 : Int)))) rfl (pick_f lE rfl)) rfl rfl uC rfl ?_
            refine EL_y (.bool ((decide (o0.1 > o0.2.1)))) (P_pick (b := (decide (o0.2.1 ≥ (0 : Int)))) rfl (pick_t uC rfl)) rfl rfl yA rfl ?_
            refine EL_p (.bool ((decide (o0.1 > o0.2.1)))) (P_pick (b := (decide (o0.2.1 ≥ ((x6.1).length : Int)))) rfl (pick_f yA rfl)) rfl ?_
            refine EL_nil ?_
            obtain rfl := sinj h
            exact hQ _ _ ⟨rE, hfr, rfl, rp1, rfl, rfl, b6, rfl, i7, rfl, m7, rfl, rfl, rfl, tB, rfl⟩
          ·refine EL_s rfl rfl uC rfl rfl ?_
           refine EL_s rfl rfl uC rfl rfl ?_
           refine EL_s rfl rfl uC rfl rfl ?_
           refine EL_dead 3 rfl ?_
           refine EL_s rfl rfl uC rfl rfl ?_
           refine EL_y (.bool false) (P_pick (b := (decide (o0.2.1 ≥ (0 : Int)))) rfl (pick_f uC rfl)) rfl rfl yA rfl ?_
           refine EL_p (.bool false) (P_pick (b := (decide (o0.2.1 ≥ ((x6.1).length : Int)))) rfl (pick_f yA rfl)) rfl ?_
           refine EL_nil ?_
           obtain rfl := sinj h
           exact hQ _ _ ⟨rE, hfr, rfl, rp1, rfl, rfl, b6, rfl, i7, rfl, m7, rfl, rfl, rfl, tB, rfl⟩
  ·clear hx
   obtain ⟨g75, hfr, iX, jX, kX, lX, mX, nX, oX, pX, qX, vT, xT, yT, zT, bI⟩ := hR
   rcases csome h with ⟨pN, h⟩ | ⟨pN, h⟩
   ·refine E_cond_true (Eq.trans (show ev _ _ = .bool (yD) from bI) (congrArg Value.bool pN)) ?_
    refine E_seq (E_region (EL_at (.bool false) rfl rfl ?_))
    refine EL_nil (thn_n (E_ret (thn_r ?_)))
    obtain rfl := sinj h
    exact end1 rfl rfl (show _ = .bool false from rfl) ⟨_, hfr, rfl⟩
   ·refine E_cond_false (Eq.trans (show ev _ _ = .bool (yD) from bI) (congrArg Value.bool pN)) ?_
    exact E_skip (thn_n (m01 () _ _ ⟨g75, hfr, iX, jX, kX, lX, mX, nX, oX, pX, qX, vT, xT, yT, zT⟩ h))
 ·rintro _ v06 w77 ⟨g77, hfr, rX, mK, sX, tX, nK, uX, oK, vX, pK, aU, bU, cU, cH⟩ h
  refine E_seq (E_region (EL_do .plain rfl (D_buildSliceA (g := g77) 4018 (xs := ([] : List Int)) (vs := []) Try.underlying22 Try.sizeOf3 Try.zeroValue3 rfl rfl .nil RVs.nil rfl rfl fun g78 w78 v78 hs b78 _ => ?_)))
  have hfr := hfr.stp hs
  have mK := mK.stp hs
  have nK := nK.stp hs rfl
  have oK := oK.stp hs
  have pK := pK.stp hs
  have cH := cH.stp hs
  refine EL_at v78 rfl rfl ?_
  refine EL_nil (thn_n ?_)
  obtain ⟨aG, hx, h⟩ := bsome h
  refine E_join (fun e w => ∃ (g : Gh) (xF : Value), Fr gI wI g w ∧ e 2 = .int .u8 (UInt8.toNat (x2)) ∧ e 7 = p5 ∧ OB 2007 g w 25 (y4 : BoxLoom) p5 ∧ e 8 = t5 ∧ RV g.m w (x6.1 : List BoxPick) t5 ∧ e 9 = d7 ∧ RV g.m w (x6.2.1 : List Int) d7 ∧ e 12 = .int .i64 (o0.1) ∧ e 13 = .int .i64 (o0.2.1) ∧ e 15 = x5 ∧ RV g.m w (j7.1 : List Span) x5 ∧ e 18 = xF ∧ OA 4018 g w 3 (aG : List Int) xF) (fun Q' hQ => ?_) (fun m04 x06 hR => ?_)
  ·replace h := hx
   clear hx
   refine E_seq (E_region (EL_at (.int .i64 (0)) rfl rfl ?_))
   refine EL_nil (thn_n (E_block ?_))
   refine E_lp h (fun (s : (List Int) × Int) e w => ∃ (g : Gh) (xF : Value), Fr gI wI g w ∧ e 1 = up1 ∧ RV g.m w (x1 : List UInt8) up1 ∧ e 2 = .int .u8 (UInt8.toNat (x2)) ∧ e 7 = p5 ∧ OB 2007 g w 25 (y4 : BoxLoom) p5 ∧ e 8 = t5 ∧ RV g.m w (x6.1 : List BoxPick) t5 ∧ e 9 = d7 ∧ RV g.m w (x6.2.1 : List Int) d7 ∧ e 12 = .int .i64 (o0.1) ∧ e 13 = .int .i64 (o0.2.1) ∧ e 15 = x5 ∧ RV g.m w (j7.1 : List Span) x5 ∧ e 18 = xF ∧ OA 4018 g w 3 (s.1 : List Int) xF ∧ e 19 = .int .i64 (s.2)) ⟨g78, (v78), hfr, rX, mK, sX, tX, nK, uX, oK, vX, pK, aU, bU, cU, cH, rfl, b78, rfl⟩ (fun X212 zS xX => ?_)
   rintro ⟨xD, g8⟩ n04 y06 ⟨qN, jD, hfr, dU, eU, gL, dH, yF, iL, jL, lL, mL, cI, dI, iI, jI, kI, lI, mI⟩ h
   refine E_joinC h (fun (s : Unit) e w => ∃ (g : Gh) , Fr gI wI g w ∧ e 1 = up1 ∧ RV g.m w (x1 : List UInt8) up1 ∧ e 2 = .int .u8 (UInt8.toNat (x2)) ∧ e 7 = p5 ∧ OB 2007 g w 25 (y4 : BoxLoom) p5 ∧ e 8 = t5 ∧ RV g.m w (x6.1 : List BoxPick) t5 ∧ e 9 = d7 ∧ RV g.m w (x6.2.1 : List Int) d7 ∧ e 12 = .int .i64 (o0.1) ∧ e 13 = .int .i64 (o0.2.1) ∧ e 15 = x5 ∧ RV g.m w (j7.1 : List Span) x5 ∧ e 18 = jD ∧ OA 4018 g w 3 (xD : List Int) jD ∧ e 19 = .int .i64 (g8)) (fun X217 lT yX h => ?_) ?_
   ·refine E_seq (E_region (EL_mv mI rfl ?_))
    refine EL_p (fPtr p5 2) (P_fieldAddr at_25_2 dH (OB.ptr yF)) rfl ?_
    refine EL_do .plain rfl (D_loadF (g := qN) part_BoxLoom_2.1 Try.isAgg23 Try.sizeOf23 rfl yF fun z06 n01 => ?_)
    refine EL_p (.int .i64 (((y4).Shuttles).length : Int)) (P_len Try.underlying23 rfl n01) rfl ?_
    refine EL_p (.bool ((decide (g8 < (((y4).Shuttles).length : Int))))) (P_int rfl rfl rfl) rfl ?_
    refine EL_nil (thn_n ?_)
    rcases csome h with ⟨qK, h⟩ | ⟨qK, h⟩
    ·refine E_ct qK rfl ?_
     exact E_skip (thn_n (yX () _ _ ⟨qN, hfr, dU, eU, gL, dH, yF, iL, jL, lL, mL, cI, dI, iI, jI, kI, lI, mI⟩ h))
    ·refine E_cf qK rfl ?_
     refine E_exit ?_
     refine thn_e ?_
     refine thn_e ?_
     refine blk_hit ?_
     obtain rfl := sinj h
     exact hQ _ _ ⟨qN, (jD), hfr, gL, dH, yF, iL, jL, lL, mL, cI, dI, iI, jI, kI, lI⟩
   ·rintro _ o04 a07 ⟨rN, hfr, sE, zD, nL, oL, pL, qL, rL, tL, uL, nI, pI, qI, rI, sI, tI, eG⟩ h
    obtain ⟨zE, hx, h⟩ := bsome h
    refine E_join (fun e w => ∃ (g : Gh) (xF : Value), Fr gI wI g w ∧ e 1 = up1 ∧ RV g.m w (x1 : List UInt8) up1 ∧ e 2 = .int .u8 (UInt8.toNat (x2)) ∧ e 7 = p5 ∧ OB 2007 g w 25 (y4 : BoxLoom) p5 ∧ e 8 = t5 ∧ RV g.m w (x6.1 : List BoxPick) t5 ∧ e 9 = d7 ∧ RV g.m w (x6.2.1 : List Int) d7 ∧ e 12 = .int .i64 (o0.1) ∧ e 13 = .int .i64 (o0.2.1) ∧ e 15 = x5 ∧ RV g.m w (j7.1 : List Span) x5 ∧ e 18 = xF ∧ OA 4018 g w 3 (zE : List Int) xF ∧ e 19 = .int .i64 (g8)) (fun Q' hQ => ?_) (fun p04 b07 hR => ?_)
    ·replace h := hx
     clear hx
     refine E_block ?_
     refine E_seq (E_region (EL_at (.int .i64 (0)) rfl rfl ?_))
     refine EL_nil (thn_n ?_)
     obtain ⟨yE, hx, h⟩ := bsome h
     refine E_join (fun e w => ∃ (g : Gh) , Fr gI wI g w ∧ e 1 = up1 ∧ RV g.m w (x1 : List UInt8) up1 ∧ e 2 = .int .u8 (UInt8.toNat (x2)) ∧ e 7 = p5 ∧ OB 2007 g w 25 (y4 : BoxLoom) p5 ∧ e 8 = t5 ∧ RV g.m w (x6.1 : List BoxPick) t5 ∧ e 9 = d7 ∧ RV g.m w (x6.2.1 : List Int) d7 ∧ e 12 = .int .i64 (o0.1) ∧ e 13 = .int .i64 (o0.2.1) ∧ e 15 = x5 ∧ RV g.m w (j7.1 : List Span) x5 ∧ e 18 = jD ∧ OA 4018 g w 3 (xD : List Int) jD ∧ e 19 = .int .i64 (g8) ∧ e 20 = .int .i64 (yE)) (fun Q' hQ => ?_) (fun q04 c07 hR => ?_)
     ·replace h := hx
      clear hx
      refine E_seq (E_region (EL_mv sE rfl ?_))
      refine EL_p (.int .i64 ((x1).length : Int)) (P_len Try.underlying71 rfl zD) rfl ?_
      refine EL_in (.bool ((decide (((x1).length : Int) > (0 : Int))))) rfl rfl rfl rfl ?_
      refine EL_nil (thn_n ?_)
      rcases csome h with ⟨sK, h⟩ | ⟨sK, h⟩
      ·refine E_ct sK rfl ?_
       refine E_region (EL_mv sE rfl ?_)
       refine EL_mv eG rfl ?_
       refine EL_mv sE rfl ?_
       refine EL_p (.int .i64 ((x1).length : Int)) (P_len Try.underlying71 rfl zD) rfl ?_
       obtain ⟨dK, zX, h⟩ := bsome h
       refine EL_p (.int .i64 (dK)) (P_int rfl rfl (congrArg (Option.map (Value.int .i64)) zX)) rfl ?_
       obtain ⟨eK, iP, h⟩ := bsome h
       refine EL_p (ePtr up1 dK 1) (P_indexAddr (α := UInt8) Try.underlying71 Try.sizeOf5 rfl zD rfl iP) rfl ?_
       have o01 := PT_idx zD iP
       refine EL_do .plain rfl (D_load (g := rN) Try.isAgg5 Try.sizeOf5 rfl o01 fun d07 p01 => ?_)
       obtain rfl := RV_u8.1 p01
       refine EL_p (.int .i64 (((eK).toNat : Int))) (P_u8int Try.underlying5 Try.underlying3 rfl) rfl ?_
       refine EL_at (.int .i64 (((eK).toNat : Int))) rfl rfl ?_
       refine EL_nil ?_
       obtain rfl := sinj h
       exact hQ _ _ ⟨rN, hfr, sE, zD, nL, oL, pL, qL, rL, tL, uL, nI, pI, qI, rI, sI, tI, eG, rfl⟩
      ·refine E_cf sK rfl ?_
       refine E_skip ?_
       obtain rfl := sinj h
       exact hQ _ _ ⟨rN, hfr, sE, zD, nL, oL, pL, qL, rL, tL, uL, nI, pI, qI, rI, sI, tI, eG, rfl⟩
     ·clear hx
      obtain ⟨sN, hfr, gU, vB, iU, vL, jA, jU, yB, kU, zB, yP, zP, bQ, qA, cQ, vC, uI, dQ⟩ := hR
      refine E_seq (E_region (EL_p (fPtr p5 2) (P_fieldAddr at_25_2 vL (OB.ptr jA)) rfl ?_))
      refine EL_do .plain rfl (D_loadF (g := sN) part_BoxLoom_2.1 Try.isAgg23 Try.sizeOf23 rfl jA fun lU mU => ?_)
      refine EL_mv uI rfl ?_
      obtain ⟨t8, jP, h⟩ := bsome h
      refine EL_p (ePtr lU g8 5) (P_indexAddr (α := BoxShuttle) Try.underlying23 Try.sizeOf87 rfl mU rfl jP) rfl ?_
      have nU := PT_idx mU jP
      refine EL_p (fPtr (ePtr lU g8 5) 3) (P_fieldAddr at_87_3 rfl (PT.ptr nU)) rfl ?_
      have q01 := PT_field (part_BoxShuttle_3).1 nU
      refine EL_do .plain rfl (D_load (g := sN) Try.isAgg85 Try.sizeOf85 rfl q01 fun r01 tN => ?_)
      refine EL_do .plain rfl (D_allocOc (g := sN) 2021 (⟨0, 0⟩ : Span) Try.zeroValue85 (fun m w => ⟨_, (rep_two rep_int rep_int), rfl⟩) fun s01 e07 uN hs b300 cb => ?_)
      have hfr := hfr.stp hs
      have vB := vB.stp hs
      have jA := jA.stp hs rfl
      have yB := yB.stp hs
      have zB := zB.stp hs
      have qA := qA.stp hs
      have vC := vC.stp hs rfl
      have tN := tN.stp hs
      clear cb
      refine EL_do .plain rfl (D_storeOc (g := s01) (v := r01) Try.sizeOf85 rfl b300 rfl tN fun t01 g07 hs b301 cb => ?_)
      clear cb
      have hfr := hfr.stp hs
      have vB := vB.stp hs
      have jA := jA.stp hs rfl
      have yB := yB.stp hs
      have zB := zB.stp hs
      have qA := qA.stp hs
      have vC := vC.stp hs rfl
      refine EL_nil (thn_n (L_loadO (x := .tmp 132) part_Span_0.1 Try.isAgg3 Try.sizeOf3 b301 fun h07 u01 aY => ?_))
      obtain rfl := RV_int.1 u01
      refine L_loadO (x := .tmp 135) part_Span_1.1 Try.isAgg3 Try.sizeOf3 b301 fun i07 v01 bY => ?_
      obtain rfl := RV_int.1 v01
      refine L_loadO (x := .tmp 137) part_Span_0.1 Try.isAgg3 Try.sizeOf3 b301 fun j07 x01 cY => ?_
      obtain rfl := RV_int.1 x01
      obtain ⟨oB, dY, h⟩ := bsome h
      refine E_drawL (g := t01) (n := 13) [(12, (fun v g w => RV g.m w ([(w64 (((t8).Yarn).Low + oB))] : List Int) v ∧ OS 3143 g w 3 ([(w64 (((t8).Yarn).Low + oB))] : List Int) v ∧ FullV v))] [0, 1, 2, 3, 4, 5, 6, 7, 8, 9, 10, 11, 12] rfl mixed (by kernel_rfl) (⟨fun _ => up_and up_rv (up_and up_os (up_eq _)), trivial⟩) ?_
      refine L_p jD rfl rfl (P_move cQ) ?_
      refine L_p (fPtr uN 0) rfl rfl (P_fieldAddr at_85_0 rfl (OB.ptr b301)) ?_
      refine L_ld (c := .int .i64 (((t8).Yarn).Low)) rfl rfl .plain (fun _ _ h => ⟨h.ch, fun b hb _ => h.below.block b hb⟩) aY rfl ?_
      refine L_p (.int .i64 (yE)) rfl rfl (P_move dQ) ?_
      refine L_p (fPtr uN 1) rfl rfl (P_fieldAddr at_85_1 rfl (OB.ptr b301)) ?_
      refine L_ld (c := .int .i64 (((t8).Yarn).High)) rfl rfl .plain (fun _ _ h => ⟨h.ch, fun b hb _ => h.below.block b hb⟩) bY rfl ?_
      refine L_p (fPtr uN 0) rfl rfl (P_fieldAddr at_85_0 rfl (OB.ptr b301)) ?_
      refine L_ld (c := .int .i64 (((t8).Yarn).Low)) rfl rfl .plain (fun _ _ h => ⟨h.ch, fun b hb _ => h.below.block b hb⟩) cY rfl ?_
      refine L_p (.int .i64 ((w64 (((t8).Yarn).High - ((t8).Yarn).Low)))) rfl rfl (P_int rfl rfl rfl) ?_
      refine L_p (.int .i64 ((w64 ((w64 (((t8).Yarn).High - ((t8).Yarn).Low)) + (1 : Int))))) rfl rfl (P_int rfl rfl rfl) ?_
      refine L_p (.int .i64 (oB)) rfl rfl (P_int rfl rfl (congrArg (Option.map (Value.int .i64)) dY)) ?_
      refine L_p (.int .i64 ((w64 (((t8).Yarn).Low + oB)))) rfl rfl (P_int rfl rfl rfl) ?_
      refine L_do (φ := fun v g w => RV g.m w ([(w64 (((t8).Yarn).Low + oB))] : List Int) v ∧ OS 3143 g w 3 ([(w64 (((t8).Yarn).Low + oB))] : List Int) v ∧ FullV v) rfl rfl .plain (fun g w hd => D_buildSlice (g := g) 3143 (xs := ([(w64 (((t8).Yarn).Low + oB))] : List Int)) (vs := [.int .i64 ((w64 (((t8).Yarn).Low + oB)))]) Try.underlying22 Try.sizeOf3 Try.zeroValue3 rfl rfl (.cons rfl .nil) (RVs.cons (RV_int.2 rfl) RVs.nil) rfl rfl fun g' w' v hs o r hxt hfl => ⟨g', hxt, r, o, hfl⟩) (fun gG hv => ?_)
      clear hv
      refine L_nil fun y01 k07 hall => ?_
      have hs := hall.1
      have hfr := hfr.ext hs
      have vB := vB.ext hs
      have jA := jA.ext hs
      have yB := yB.ext hs
      have zB := zB.ext hs
      have qA := qA.ext hs
      have vC := vC.ext hs
      have z01 := (word_all (A := fun g w => RV g.m w ([(w64 (((t8).Yarn).Low + oB))] : List Int) gG ∧ OS 3143 g w 3 ([(w64 (((t8).Yarn).Low + oB))] : List Int) gG ∧ FullV gG) 12 rfl hall).1
      have o341 := (word_all (A := fun g w => RV g.m w ([(w64 (((t8).Yarn).Low + oB))] : List Int) gG ∧ OS 3143 g w 3 ([(w64 (((t8).Yarn).Low + oB))] : List Int) gG ∧ FullV gG) 12 rfl hall).2.1
      clear hs hall
      obtain ⟨eT, eY, h⟩ := bsome h
      refine EL_do .plain rfl (D_appendA (g := y01) plain_int (i := 4018) Try.underlying22 info_3 rfl rfl vC rfl z01 eY fun a02 l07 oU hs b342 => ?_)
      have hfr := hfr.stp hs
      have vB := vB.stp hs
      have jA := jA.stp hs rfl
      have yB := yB.stp hs
      have zB := zB.stp hs
      have qA := qA.stp hs
      refine EL_at oU rfl rfl ?_
      refine EL_nil (blk_n ?_)
      obtain rfl := sinj h
      exact hQ _ _ ⟨a02, (oU), hfr, gU, vB, iU, vL, jA, jU, yB, kU, zB, yP, zP, bQ, qA, rfl, b342, uI⟩
    ·clear hx
     obtain ⟨b02, eQ, hfr, pU, qU, rU, sU, tU, uU, vU, xU, yU, gQ, iQ, jQ, kQ, lQ, mQ, nQ⟩ := hR
     refine E_region (EL_mv nQ rfl ?_)
     refine EL_in (.int .i64 ((w64 (g8 + (1 : Int))))) rfl rfl rfl rfl ?_
     refine EL_at (.int .i64 ((w64 (g8 + (1 : Int))))) rfl rfl ?_
     exact EL_nil (thn_n (xX (zE, (w64 (g8 + (1 : Int)))) _ _ ⟨b02, (eQ), hfr, pU, qU, rU, sU, tU, uU, vU, xU, yU, gQ, iQ, jQ, kQ, lQ, mQ, rfl⟩ h))
  ·clear hx
   obtain ⟨c02, i6, hfr, zU, aV, bV, cV, dV, eV, gV, oQ, pQ, qQ, rQ, sQ, tQ⟩ := hR
   refine E_seq (E_region (EL_at (.int .i64 (-1)) rfl rfl ?_))
   refine EL_nil (thn_n ?_)
   obtain ⟨⟨k9, i5⟩, hx, h⟩ := bsome h
   refine E_join (fun e w => ∃ (g : Gh) , Fr gI wI g w ∧ e 2 = .int .u8 (UInt8.toNat (x2)) ∧ e 7 = p5 ∧ OB 2007 g w 25 (y4 : BoxLoom) p5 ∧ e 8 = t5 ∧ RV g.m w (x6.1 : List BoxPick) t5 ∧ e 12 = .int .i64 (o0.1) ∧ e 13 = .int .i64 (o0.2.1) ∧ e 15 = x5 ∧ RV g.m w (j7.1 : List Span) x5 ∧ e 18 = i6 ∧ OA 4018 g w 3 (k9 : List Int) i6 ∧ e 22 = .int .i64 (i5)) (fun Q' hQ => ?_) (fun r04 m07 hR => ?_)
   ·replace h := hx
    clear hx
    refine E_seq (E_region (EL_at (.int .i64 (0)) rfl rfl ?_))
    refine EL_nil (thn_n (E_block ?_))
    refine E_lp h (fun (s : (List Int) × Int × Int) e w => ∃ (g : Gh) , Fr gI wI g w ∧ e 2 = .int .u8 (UInt8.toNat (x2)) ∧ e 7 = p5 ∧ OB 2007 g w 25 (y4 : BoxLoom) p5 ∧ e 8 = t5 ∧ RV g.m w (x6.1 : List BoxPick) t5 ∧ e 9 = d7 ∧ RV g.m w (x6.2.1 : List Int) d7 ∧ e 12 = .int .i64 (o0.1) ∧ e 13 = .int .i64 (o0.2.1) ∧ e 15 = x5 ∧ RV g.m w (j7.1 : List Span) x5 ∧ e 18 = i6 ∧ OA 4018 g w 3 (s.1 : List Int) i6 ∧ e 22 = .int .i64 (s.2.1) ∧ e 23 = .int .i64 (s.2.2)) ⟨c02, hfr, zU, aV, bV, cV, dV, eV, gV, oQ, pQ, qQ, rQ, sQ, tQ, rfl, rfl⟩ (fun X483 mT gY => ?_)
    rintro ⟨mA, pA, a7⟩ s04 n07 ⟨iV, hfr, xL, yL, zL, aM, bM, cM, dM, vI, xI, yI, zI, aJ, bJ, cJ, dJ⟩ h
    refine E_joinC h (fun (s : Unit) e w => ∃ (g : Gh) , Fr gI wI g w ∧ e 2 = .int .u8 (UInt8.toNat (x2)) ∧ e 7 = p5 ∧ OB 2007 g w 25 (y4 : BoxLoom) p5 ∧ e 8 = t5 ∧ RV g.m w (x6.1 : List BoxPick) t5 ∧ e 9 = d7 ∧ RV g.m w (x6.2.1 : List Int) d7 ∧ e 12 = .int .i64 (o0.1) ∧ e 13 = .int .i64 (o0.2.1) ∧ e 15 = x5 ∧ RV g.m w (j7.1 : List Span) x5 ∧ e 18 = i6 ∧ OA 4018 g w 3 (mA : List Int) i6 ∧ e 22 = .int .i64 (pA) ∧ e 23 = .int .i64 (a7)) (fun X486 nT iY h => ?_) ?_
    ·refine E_seq (E_region (EL_mv dJ rfl ?_))
     refine EL_mv cM rfl ?_
     refine EL_p (.int .i64 ((x6.2.1).length : Int)) (P_len Try.underlying22 rfl dM) rfl ?_
     refine EL_in (.bool ((decide (a7 < ((x6.2.1).length : Int))))) rfl rfl rfl rfl ?_
     refine EL_nil (thn_n ?_)
     rcases csome h with ⟨tK, h⟩ | ⟨tK, h⟩
     ·refine E_ct tK rfl ?_
      exact E_skip (thn_n (iY () _ _ ⟨iV, hfr, xL, yL, zL, aM, bM, cM, dM, vI, xI, yI, zI, aJ, bJ, cJ, dJ⟩ h))
     ·refine E_cf tK rfl ?_
      refine E_exit ?_
      refine thn_e ?_
      refine thn_e ?_
      refine blk_hit ?_
      obtain ⟨rfl, rfl⟩ := pairs2 h
      exact hQ _ _ ⟨iV, hfr, xL, yL, zL, aM, bM, vI, xI, yI, zI, aJ, bJ, cJ⟩
    ·rintro _ t04 o07 ⟨uK, hfr, eM, iM, jM, kM, mM, gH, zF, eJ, gJ, iJ, jJ, hG, iF, iG, jG⟩ h
     obtain ⟨⟨cF, dF⟩, hx, h⟩ := bsome h
     refine E_join (fun e w => ∃ (g : Gh) , Fr gI wI g w ∧ e 2 = .int .u8 (UInt8.toNat (x2)) ∧ e 7 = p5 ∧ OB 2007 g w 25 (y4 : BoxLoom) p5 ∧ e 8 = t5 ∧ RV g.m w (x6.1 : List BoxPick) t5 ∧ e 9 = d7 ∧ RV g.m w (x6.2.1 : List Int) d7 ∧ e 12 = .int .i64 (o0.1) ∧ e 13 = .int .i64 (o0.2.1) ∧ e 15 = x5 ∧ RV g.m w (j7.1 : List Span) x5 ∧ e 18 = i6 ∧ OA 4018 g w 3 (cF : List Int) i6 ∧ e 22 = .int .i64 (dF) ∧ e 23 = .int .i64 (a7)) (fun Q' hQ => ?_) (fun u04 p07 hR => ?_)
     ·replace h := hx
      clear hx
      refine E_block ?_
      obtain ⟨cG, hx, h⟩ := bsome h
      refine E_join (fun e w => ∃ (g : Gh) , Fr gI wI g w ∧ e 2 = .int .u8 (UInt8.toNat (x2)) ∧ e 7 = p5 ∧ OB 2007 g w 25 (y4 : BoxLoom) p5 ∧ e 8 = t5 ∧ RV g.m w (x6.1 : List BoxPick) t5 ∧ e 9 = d7 ∧ RV g.m w (x6.2.1 : List Int) d7 ∧ e 12 = .int .i64 (o0.1) ∧ e 13 = .int .i64 (o0.2.1) ∧ e 15 = x5 ∧ RV g.m w (j7.1 : List Span) x5 ∧ e 18 = i6 ∧ OA 4018 g w 3 (mA : List Int) i6 ∧ e 22 = .int .i64 (cG) ∧ e 23 = .int .i64 (a7)) (fun Q' hQ => ?_) (fun v04 q07 hR => ?_)
      ·replace h := hx
       clear hx
       obtain ⟨mD, hx, h⟩ := bsome h
       refine E_join (fun e w => ∃ (g : Gh) , Fr gI wI g w ∧ e 2 = .int .u8 (UInt8.toNat (x2)) ∧ e 7 = p5 ∧ OB 2007 g w 25 (y4 : BoxLoom) p5 ∧ e 8 = t5 ∧ RV g.m w (x6.1 : List BoxPick) t5 ∧ e 9 = d7 ∧ RV g.m w (x6.2.1 : List Int) d7 ∧ e 12 = .int .i64 (o0.1) ∧ e 13 = .int .i64 (o0.2.1) ∧ e 15 = x5 ∧ RV g.m w (j7.1 : List Span) x5 ∧ e 18 = i6 ∧ OA 4018 g w 3 (mA : List Int) i6 ∧ e 22 = .int .i64 (pA) ∧ e 23 = .int .i64 (a7) ∧ e 162 = .bool (mD)) (fun Q' hQ => ?_) (fun x04 r07 hR => ?_)
       ·replace h := hx
        clear hx
        refine E_region (EL_mv hG rfl ?_)
        refine EL_mv gH rfl ?_
        refine EL_mv jG rfl ?_
        obtain ⟨mN, kP, h⟩ := bsome h
        refine EL_p (ePtr d7 a7 1) (P_indexAddr (α := Int) Try.underlying22 Try.sizeOf3 rfl zF rfl kP) rfl ?_
        have d02 := PT_idx zF kP
        refine EL_do .plain rfl (D_load (g := uK) Try.isAgg3 Try.sizeOf3 rfl d02 fun s07 e02 => ?_)
        obtain rfl := RV_int.1 e02
        obtain ⟨bG, lP, h⟩ := bsome h
        refine EL_p (ePtr i6 mN 1) (P_indexAddrM (α := Int) Try.underlying22 Try.sizeOf3 rfl (iF.toM) rfl lP) rfl ?_
        refine EL_do .plain rfl (D_loadM (g := uK) Try.isAgg3 Try.sizeOf3 rfl (iF.toM) lP fun t07 g02 => ?_)
        obtain rfl := RV_int.1 g02
        refine EL_in (.bool ((bG == (0 : Int)))) rfl rfl rfl rfl ?_
        refine EL_mw (.bool ((bG == (0 : Int)))) rfl rfl ?_
        rcases csome h with ⟨mE, h⟩ | ⟨mE, h⟩
        ·refine EL_y (.int .i64 (pA)) (P_move iG) rfl rfl mE rfl ?_
         refine EL_y (.bool ((decide (pA < (0 : Int))))) (P_int rfl rfl rfl) rfl rfl mE rfl ?_
         refine EL_p (.bool ((decide (pA < (0 : Int))))) (P_pick (b := (bG == (0 : Int))) rfl (pick_t mE rfl)) rfl ?_
         refine EL_nil ?_
         obtain rfl := sinj h
         exact hQ _ _ ⟨uK, hfr, eM, iM, jM, kM, mM, gH, zF, eJ, gJ, iJ, jJ, hG, iF, iG, jG, rfl⟩
        ·refine EL_s rfl rfl mE rfl rfl ?_
         refine EL_s rfl rfl mE rfl rfl ?_
         refine EL_p (.bool false) (P_pick (b := (bG == (0 : Int))) rfl (pick_f mE rfl)) rfl ?_
         refine EL_nil ?_
         obtain rfl := sinj h
         exact hQ _ _ ⟨uK, hfr, eM, iM, jM, kM, mM, gH, zF, eJ, gJ, iJ, jJ, hG, iF, iG, jG, rfl⟩
       ·clear hx
        obtain ⟨jV, hfr, nM, oM, pM, qM, rM, sM, tM, kJ, lJ, mJ, nJ, oJ, pJ, uQ, kG, iH⟩ := hR
        rcases csome h with ⟨vK, h⟩ | ⟨vK, h⟩
        ·refine E_cond_true (Eq.trans (show ev _ _ = .bool (mD) from iH) (congrArg Value.bool vK)) ?_
         refine E_region (EL_mv kG rfl ?_)
         refine EL_at (.int .i64 (a7)) rfl rfl ?_
         refine EL_nil ?_
         obtain rfl := sinj h
         exact hQ _ _ ⟨jV, hfr, nM, oM, pM, qM, rM, sM, tM, kJ, lJ, mJ, nJ, oJ, pJ, rfl, kG⟩
        ·refine E_cond_false (Eq.trans (show ev _ _ = .bool (mD) from iH) (congrArg Value.bool vK)) ?_
         refine E_skip ?_
         obtain rfl := sinj h
         exact hQ _ _ ⟨jV, hfr, nM, oM, pM, qM, rM, sM, tM, kJ, lJ, mJ, nJ, oJ, pJ, uQ, kG⟩
      ·clear hx
       obtain ⟨h02, hfr, kV, lV, tE, mV, uE, jH, aC, vQ, xQ, yQ, aE, lG, kD, zQ, mG⟩ := hR
       obtain ⟨bH, mP, h⟩ := bsome h
       have i02 := PT_idx aC mP
       refine L_load (x := .tmp 167) Try.isAgg3 Try.sizeOf3 i02 fun u07 j02 jY => ?_
       obtain rfl := RV_int.1 j02
       obtain ⟨lK, nP, h⟩ := bsome h
       have k02 := PT_idx aC nP
       refine L_load (x := .tmp 172) Try.isAgg3 Try.sizeOf3 k02 fun v07 l02 kY => ?_
       obtain rfl := RV_int.1 l02
       obtain ⟨dG, oP, h⟩ := bsome h
       refine L_loadM (x := .tmp 174) Try.isAgg3 Try.sizeOf3 (kD.toM) oP fun x07 m02 mY => ?_
       obtain rfl := RV_int.1 m02
       obtain ⟨d01, pP, h⟩ := bsome h
       refine E_drawL (g := h02) (n := 15) [] [0, 1, 2, 3, 4, 5, 6, 7, 8, 9, 10, 11, 12, 13, 14] rfl mixed (by kernel_rfl) trivial ?_
       refine L_p i6 rfl rfl (P_move lG) ?_
       refine L_p d7 rfl rfl (P_move jH) ?_
       refine L_p (.int .i64 (a7)) rfl rfl (P_move mG) ?_
       refine L_p (ePtr d7 a7 1) rfl rfl (P_indexAddr (α := Int) Try.underlying22 Try.sizeOf3 rfl aC rfl mP) ?_
       refine L_ld (c := .int .i64 (bH)) rfl rfl .plain (fun _ _ h => h.ch) jY rfl ?_
       refine L_p i6 rfl rfl (P_move lG) ?_
       refine L_p d7 rfl rfl (P_move jH) ?_
       refine L_p (.int .i64 (a7)) rfl rfl (P_move mG) ?_
       refine L_p (ePtr d7 a7 1) rfl rfl (P_indexAddr (α := Int) Try.underlying22 Try.sizeOf3 rfl aC rfl nP) ?_
       refine L_ld (c := .int .i64 (lK)) rfl rfl .plain (fun _ _ h => h.ch) kY rfl ?_
       refine L_p (ePtr i6 lK 1) rfl rfl (P_indexAddrM (α := Int) Try.underlying22 Try.sizeOf3 rfl (kD.toM) rfl oP) ?_
       refine L_ld (c := .int .i64 (dG)) rfl rfl .plain (fun _ _ h => ⟨h.ch, fun b hb _ => h.below.block b hb⟩) mY rfl ?_
       refine L_p (.int .i64 ((w64 (dG - (1 : Int))))) rfl rfl (P_int rfl rfl rfl) ?_
       refine L_p (.int .i64 (max64 (0 : Int) (w64 (dG - (1 : Int))))) rfl rfl (P_max rfl rfl) ?_
       refine L_p (ePtr i6 bH 1) rfl rfl (P_indexAddrM (α := Int) Try.underlying22 Try.sizeOf3 rfl (kD.toM) rfl pP) ?_
       refine L_nl fun n02 y07 hs => ?_
       have hfr := hfr.ext hs
       have tE := tE.ext hs
       have uE := uE.ext hs
       have aC := aC.ext hs
       have aE := aE.ext hs
       have kD := kD.ext hs
       clear hs
       refine EL_do .plain rfl (D_storeA (g := n02) (α := Int) (a' := ((max64 (0 : Int) (w64 (dG - (1 : Int)))))) Try.sizeOf3 rfl kD pP rfl (RV_int.2 rfl) fun o02 z07 hs b618 => ?_)
       have hfr := hfr.stp hs
       have tE := tE.stp hs rfl
       have uE := uE.stp hs
       have aC := aC.stp hs
       have aE := aE.stp hs
       refine EL_nil (blk_n ?_)
       obtain ⟨rfl, rfl⟩ := pairs2 h
       exact hQ _ _ ⟨o02, hfr, kV, lV, tE, mV, uE, jH, aC, vQ, xQ, yQ, aE, lG, b618, zQ, mG⟩
     ·clear hx
      obtain ⟨p02, hfr, nV, oV, pV, qV, rV, sV, tV, aR, bR, cR, dR, eR, gR, iR, jR⟩ := hR
      refine E_region (EL_mv jR rfl ?_)
      refine EL_in (.int .i64 ((w64 (a7 + (1 : Int))))) rfl rfl rfl rfl ?_
      refine EL_at (.int .i64 ((w64 (a7 + (1 : Int))))) rfl rfl ?_
      exact EL_nil (thn_n (gY (cF, dF, (w64 (a7 + (1 : Int)))) _ _ ⟨p02, hfr, nV, oV, pV, qV, rV, sV, tV, aR, bR, cR, dR, eR, gR, iR, rfl⟩ h))
   ·clear hx
    obtain ⟨q02, hfr, uV, vV, xV, yV, zV, lR, mR, nR, oR, pR, qR, rR⟩ := hR
    refine E_joinC h (fun (s : Unit) e w => ∃ (g : Gh) , Fr gI wI g w ∧ e 2 = .int .u8 (UInt8.toNat (x2)) ∧ e 7 = p5 ∧ OB 2007 g w 25 (y4 : BoxLoom) p5 ∧ e 8 = t5 ∧ RV g.m w (x6.1 : List BoxPick) t5 ∧ e 12 = .int .i64 (o0.1) ∧ e 13 = .int .i64 (o0.2.1) ∧ e 22 = .int .i64 (i5)) (fun X941 oT nY h => ?_) ?_
    ·refine E_seq (E_region (EL_at (.int .i64 (0)) rfl rfl ?_))
     refine EL_nil (thn_n (E_block ?_))
     refine E_lp h (fun (s : Int) e w => ∃ (g : Gh) , Fr gI wI g w ∧ e 2 = .int .u8 (UInt8.toNat (x2)) ∧ e 7 = p5 ∧ OB 2007 g w 25 (y4 : BoxLoom) p5 ∧ e 8 = t5 ∧ RV g.m w (x6.1 : List BoxPick) t5 ∧ e 12 = .int .i64 (o0.1) ∧ e 13 = .int .i64 (o0.2.1) ∧ e 15 = x5 ∧ RV g.m w (j7.1 : List Span) x5 ∧ e 18 = i6 ∧ OA 4018 g w 3 (k9 : List Int) i6 ∧ e 22 = .int .i64 (i5) ∧ e 24 = .int .i64 (s)) ⟨q02, hfr, uV, vV, xV, yV, zV, lR, mR, nR, oR, pR, qR, rR, rfl⟩ (fun X942 pT oY => ?_)
     rintro v6 y04 a08 ⟨aW, hfr, uM, vM, xM, yM, zM, qJ, rJ, tR, uR, sJ, tJ, uJ, vJ⟩ h
     refine E_joinC h (fun (s : Unit) e w => ∃ (g : Gh) , Fr gI wI g w ∧ e 2 = .int .u8 (UInt8.toNat (x2)) ∧ e 7 = p5 ∧ OB 2007 g w 25 (y4 : BoxLoom) p5 ∧ e 8 = t5 ∧ RV g.m w (x6.1 : List BoxPick) t5 ∧ e 12 = .int .i64 (o0.1) ∧ e 13 = .int .i64 (o0.2.1) ∧ e 15 = x5 ∧ RV g.m w (j7.1 : List Span) x5 ∧ e 18 = i6 ∧ OA 4018 g w 3 (k9 : List Int) i6 ∧ e 22 = .int .i64 (i5) ∧ e 24 = .int .i64 (v6)) (fun X945 sT pY h => ?_) ?_
     ·refine E_seq (E_region (EL_mv vJ rfl ?_))
      refine EL_mv sJ rfl ?_
      refine EL_p (.int .i64 ((k9).length : Int)) (P_lenM Try.underlying22 rfl (tJ.toM)) rfl ?_
      refine EL_in (.bool ((decide (v6 < ((k9).length : Int))))) rfl rfl rfl rfl ?_
      refine EL_nil (thn_n ?_)
      rcases csome h with ⟨xK, h⟩ | ⟨xK, h⟩
      ·refine E_ct xK rfl ?_
       exact E_skip (thn_n (pY () _ _ ⟨aW, hfr, uM, vM, xM, yM, zM, qJ, rJ, tR, uR, sJ, tJ, uJ, vJ⟩ h))
      ·refine E_cf xK rfl ?_
       refine E_exit ?_
       refine thn_e ?_
       refine thn_e ?_
       refine blk_hit ?_
       exact thn_n (nY () _ _ ⟨aW, hfr, uM, vM, xM, yM, zM, qJ, rJ, uJ⟩ h)
     ·rintro _ z04 b08 ⟨bW, hfr, bN, cN, bE, dN, cE, xJ, yJ, dE, l9, eE, n9, zJ, aB⟩ h
      refine E_joinC h (fun (s : Unit) e w => ∃ (g : Gh) , Fr gI wI g w ∧ e 2 = .int .u8 (UInt8.toNat (x2)) ∧ e 7 = p5 ∧ OB 2007 g w 25 (y4 : BoxLoom) p5 ∧ e 8 = t5 ∧ RV g.m w (x6.1 : List BoxPick) t5 ∧ e 12 = .int .i64 (o0.1) ∧ e 13 = .int .i64 (o0.2.1) ∧ e 15 = x5 ∧ RV g.m w (j7.1 : List Span) x5 ∧ e 18 = i6 ∧ OA 4018 g w 3 (k9 : List Int) i6 ∧ e 22 = .int .i64 (i5) ∧ e 24 = .int .i64 (v6)) (fun X1104 gP cW h => ?_) ?_
      ·refine E_block ?_
       obtain ⟨iD, hx, h⟩ := bsome h
       refine E_join (fun e w => ∃ (g : Gh) , Fr gI wI g w ∧ e 2 = .int .u8 (UInt8.toNat (x2)) ∧ e 7 = p5 ∧ OB 2007 g w 25 (y4 : BoxLoom) p5 ∧ e 8 = t5 ∧ RV g.m w (x6.1 : List BoxPick) t5 ∧ e 12 = .int .i64 (o0.1) ∧ e 13 = .int .i64 (o0.2.1) ∧ e 15 = x5 ∧ RV g.m w (j7.1 : List Span) x5 ∧ e 18 = i6 ∧ OA 4018 g w 3 (k9 : List Int) i6 ∧ e 22 = .int .i64 (i5) ∧ e 24 = .int .i64 (v6) ∧ e 206 = .bool (iD)) (fun Q' hQ => ?_) (fun q03 a05 hR => ?_)
       ·replace h := hx
        clear hx
        obtain ⟨cD, kH, h⟩ := bsome h
        refine L_loadM (x := .tmp 187) Try.isAgg3 Try.sizeOf3 (n9.toM) kH fun b05 qY eN => ?_
        obtain rfl := RV_int.1 qY
        obtain ⟨eD, lH, h⟩ := bsome h
        have yK := PT_idx l9 lH
        have uY := PT_field (part_Span_0).1 yK
        refine L_load (x := .tmp 192) Try.isAgg3 Try.sizeOf3 uY fun c05 vY gN => ?_
        obtain rfl := RV_int.1 vY
        rcases csome h with ⟨a9, h⟩ | ⟨a9, h⟩
        ·refine E_drawL (g := bW) (n := 22) [] [0, 1, 2, 3, 4, 5, 6, 7, 8, 9, 10, 11, 12, 13, 14, 15, 16, 17, 18, 19, 20, 21] rfl mixed (by kernel_rfl) trivial ?_
         refine L_p i6 rfl rfl (P_move eE) ?_
         refine L_p (.int .i64 (v6)) rfl rfl (P_move aB) ?_
         refine L_p (ePtr i6 v6 1) rfl rfl (P_indexAddrM (α := Int) Try.underlying22 Try.sizeOf3 rfl (n9.toM) rfl kH) ?_
         refine L_ld (c := .int .i64 (cD)) rfl rfl .plain (fun _ _ h => ⟨h.ch, fun b hb _ => h.below.block b hb⟩) eN rfl ?_
         refine L_p x5 rfl rfl (P_move dE) ?_
         refine L_p (.int .i64 (v6)) rfl rfl (P_move aB) ?_
         refine L_p (ePtr x5 v6 2) rfl rfl (P_indexAddr (α := Span) Try.underlying51 Try.sizeOf85 rfl l9 rfl lH) ?_
         refine L_p (fPtr (ePtr x5 v6 2) 0) rfl rfl (P_fieldAddr at_85_0 rfl (PT.ptr yK)) ?_
         refine L_ld (c := .int .i64 ((eD).Low)) rfl rfl .plain (fun _ _ h => h.ch) gN rfl ?_
         refine L_p (.bool ((decide (cD < (eD).Low)))) rfl rfl (P_int rfl rfl rfl) ?_
         refine L_p (.bool ((decide (cD < (eD).Low)))) rfl rfl (P_move rfl) ?_
         iterate 10 refine L_s rfl rfl rfl a9 rfl ?_
         refine L_p (.bool true) rfl rfl (P_pick (b := (decide (cD < (eD).Low))) rfl (pick_t a9 rfl)) ?_
         refine L_nl fun xY d05 hs => ?_
         have hfr := hfr.ext hs
         have bE := bE.ext hs
         have cE := cE.ext hs
         have l9 := l9.ext hs
         have n9 := n9.ext hs
         clear hs
         refine EL_nil ?_
         obtain rfl := sinj h
         exact hQ _ _ ⟨xY, hfr, bN, cN, bE, dN, cE, xJ, yJ, dE, l9, eE, n9, zJ, aB, rfl⟩
        ·obtain ⟨uF, iN, h⟩ := bsome h
         refine L_loadM (x := .tmp 198) Try.isAgg3 Try.sizeOf3 (n9.toM) iN fun e05 yY dW => ?_
         obtain rfl := RV_int.1 yY
         obtain ⟨vF, jN, h⟩ := bsome h
         have sP := PT_idx l9 jN
         have zY := PT_field (part_Span_1).1 sP
         refine L_load (x := .tmp 203) Try.isAgg3 Try.sizeOf3 zY fun g05 aZ eW => ?_
         obtain rfl := RV_int.1 aZ
         refine E_drawL (g := bW) (n := 22) [] [0, 1, 2, 3, 4, 5, 6, 7, 8, 9, 10, 11, 12, 13, 14, 15, 16, 17, 18, 19, 20, 21] rfl mixed (by kernel_rfl) trivial ?_
         refine L_p i6 rfl rfl (P_move eE) ?_
         refine L_p (.int .i64 (v6)) rfl rfl (P_move aB) ?_
         refine L_p (ePtr i6 v6 1) rfl rfl (P_indexAddrM (α := Int) Try.underlying22 Try.sizeOf3 rfl (n9.toM) rfl kH) ?_
         refine L_ld (c := .int .i64 (cD)) rfl rfl .plain (fun _ _ h => ⟨h.ch, fun b hb _ => h.below.block b hb⟩) eN rfl ?_
         refine L_p x5 rfl rfl (P_move dE) ?_
         refine L_p (.int .i64 (v6)) rfl rfl (P_move aB) ?_
         refine L_p (ePtr x5 v6 2) rfl rfl (P_indexAddr (α := Span) Try.underlying51 Try.sizeOf85 rfl l9 rfl lH) ?_
         refine L_p (fPtr (ePtr x5 v6 2) 0) rfl rfl (P_fieldAddr at_85_0 rfl (PT.ptr yK)) ?_
         refine L_ld (c := .int .i64 ((eD).Low)) rfl rfl .plain (fun _ _ h => h.ch) gN rfl ?_
         refine L_p (.bool ((decide (cD < (eD).Low)))) rfl rfl (P_int rfl rfl rfl) ?_
         refine L_p (.bool ((decide (cD < (eD).Low)))) rfl rfl (P_move rfl) ?_
         refine L_y i6 rfl rfl rfl rfl a9 (P_move eE) ?_
         refine L_y (.int .i64 (v6)) rfl rfl rfl rfl a9 (P_move aB) ?_
         refine L_y (ePtr i6 v6 1) rfl rfl rfl rfl a9 (P_indexAddrM (α := Int) Try.underlying22 Try.sizeOf3 rfl (n9.toM) rfl iN) ?_
         refine L_ld (c := .int .i64 (uF)) rfl rfl (.yes2 rfl rfl a9) (fun _ _ h => ⟨h.ch, fun b hb _ => h.below.block b hb⟩) dW rfl ?_
         refine L_y x5 rfl rfl rfl rfl a9 (P_move dE) ?_
         refine L_y (.int .i64 (v6)) rfl rfl rfl rfl a9 (P_move aB) ?_
         refine L_y (ePtr x5 v6 2) rfl rfl rfl rfl a9 (P_indexAddr (α := Span) Try.underlying51 Try.sizeOf85 rfl l9 rfl jN) ?_
         refine L_y (fPtr (ePtr x5 v6 2) 1) rfl rfl rfl rfl a9 (P_fieldAddr at_85_1 rfl (PT.ptr sP)) ?_
         refine L_ld (c := .int .i64 ((vF).High)) rfl rfl (.yes2 rfl rfl a9) (fun _ _ h => h.ch) eW rfl ?_
         refine L_y (.bool ((decide (uF > (vF).High)))) rfl rfl rfl rfl a9 (P_int rfl rfl rfl) ?_
         refine L_p (.bool ((decide (uF > (vF).High)))) rfl rfl (P_pick (b := (decide (cD < (eD).Low))) rfl (pick_f a9 rfl)) ?_
         refine L_nl fun bZ h05 hs => ?_
         have hfr := hfr.ext hs
         have bE := bE.ext hs
         have cE := cE.ext hs
         have l9 := l9.ext hs
         have n9 := n9.ext hs
         clear hs
         refine EL_nil ?_
         obtain rfl := sinj h
         exact hQ _ _ ⟨bZ, hfr, bN, cN, bE, dN, cE, xJ, yJ, dE, l9, eE, n9, zJ, aB, rfl⟩
       ·clear hx
        obtain ⟨cZ, hfr, vR, xR, yR, zR, aS, vN, xN, yN, zN, aO, bO, cO, dO, oG⟩ := hR
        rcases csome h with ⟨mH, h⟩ | ⟨mH, h⟩
        ·refine E_cond_true (Eq.trans (show ev _ _ = .bool (iD) from oG) (congrArg Value.bool mH)) ?_
         refine E_seq (E_region (EL_at (.bool false) rfl rfl ?_))
         refine EL_nil (thn_n (E_ret (blk_r ?_)))
         refine thn_r ?_
         refine thn_r ?_
         refine blk_r ?_
         refine thn_r ?_
         obtain rfl := sinj h
         exact end1 rfl rfl (show _ = .bool false from rfl) ⟨_, hfr, rfl⟩
        ·refine E_cond_false (Eq.trans (show ev _ _ = .bool (iD) from oG) (congrArg Value.bool mH)) ?_
         exact E_skip (blk_n (thn_n (cW () _ _ ⟨cZ, hfr, vR, xR, yR, zR, aS, vN, xN, yN, zN, aO, bO, cO, dO⟩ h)))
      ·rintro _ r03 i05 ⟨dZ, hfr, bS, cS, dS, eS, gS, eO, gO, jO, kO, lO, mO, nO, oO⟩ h
       refine E_region (EL_mv oO rfl ?_)
       refine EL_in (.int .i64 ((w64 (v6 + (1 : Int))))) rfl rfl rfl rfl ?_
       refine EL_at (.int .i64 ((w64 (v6 + (1 : Int))))) rfl rfl ?_
       exact EL_nil (thn_n (oY ((w64 (v6 + (1 : Int)))) _ _ ⟨dZ, hfr, bS, cS, dS, eS, gS, eO, gO, jO, kO, lO, mO, nO, rfl⟩ h))
    ·rintro _ s03 j05 ⟨uD, hfr, dB, iB, jB, lB, mB, d9, k8, aD⟩ h
     refine E_joinC h (fun (s : Unit) e w => ∃ (g : Gh) , Fr gI wI g w ∧ e 2 = .int .u8 (UInt8.toNat (x2)) ∧ e 7 = p5 ∧ OB 2007 g w 25 (y4 : BoxLoom) p5 ∧ e 8 = t5 ∧ RV g.m w (x6.1 : List BoxPick) t5 ∧ e 12 = .int .i64 (o0.1) ∧ e 13 = .int .i64 (o0.2.1)) (fun X1279 eP gW h => ?_) ?_
     ·obtain ⟨gD, hx, h⟩ := bsome h
      refine E_join (fun e w => ∃ (g : Gh) , Fr gI wI g w ∧ e 2 = .int .u8 (UInt8.toNat (x2)) ∧ e 7 = p5 ∧ OB 2007 g w 25 (y4 : BoxLoom) p5 ∧ e 8 = t5 ∧ RV g.m w (x6.1 : List BoxPick) t5 ∧ e 12 = .int .i64 (o0.1) ∧ e 13 = .int .i64 (o0.2.1) ∧ e 230 = .bool (gD)) (fun Q' hQ => ?_) (fun t03 k05 hR => ?_)
      ·replace h := hx
       clear hx
       refine E_region (EL_mv aD rfl ?_)
       refine EL_in (.bool ((decide (i5 ≥ (0 : Int))))) rfl rfl rfl rfl ?_
       refine EL_mw (.bool ((decide (i5 ≥ (0 : Int))))) rfl rfl ?_
       rcases csome h with ⟨u9, h⟩ | ⟨u9, h⟩
       ·refine EL_y (.int .i64 (o0.1)) (P_move d9) rfl rfl u9 rfl ?_
        refine EL_y (.bool ((decide (o0.1 < (0 : Int))))) (P_int rfl rfl rfl) rfl rfl u9 rfl ?_
        refine EL_y (.bool ((decide (o0.1 < (0 : Int))))) (P_move rfl) rfl rfl u9 rfl ?_
        rcases csome h with ⟨cC, h⟩ | ⟨cC, h⟩
        ·refine EL_s rfl rfl cC rfl rfl ?_
         refine EL_s rfl rfl cC rfl rfl ?_
         refine EL_s rfl rfl cC rfl rfl ?_
         refine EL_y (.bool true) (P_pick (b := (decide (o0.1 < (0 : Int)))) rfl (pick_t cC rfl)) rfl rfl u9 rfl ?_
         refine EL_p (.bool true) (P_pick (b := (decide (i5 ≥ (0 : Int)))) rfl (pick_t u9 rfl)) rfl ?_
         refine EL_dead 13 rfl ?_
         refine EL_nil ?_
         obtain rfl := sinj h
         exact hQ _ _ ⟨uD, hfr, dB, iB, jB, lB, mB, d9, k8, rfl⟩
        ·refine EL_y (.int .i64 (i5)) (P_move aD) rfl rfl cC rfl ?_
         refine EL_y (.int .i64 (o0.1)) (P_move d9) rfl rfl cC rfl ?_
         refine EL_y (.bool ((decide (i5 < o0.1)))) (P_int rfl rfl rfl) rfl rfl cC rfl ?_
         refine EL_y (.bool ((decide (i5 < o0.1)))) (P_pick (b := (decide (o0.1 < (0 : Int)))) rfl (pick_f cC rfl)) rfl rfl u9 rfl ?_
         refine EL_p (.bool ((decide (i5 < o0.1)))) (P_pick (b := (decide (i5 ≥ (0 : Int)))) rfl (pick_t u9 rfl)) rfl ?_
         refine EL_mw (.bool ((decide (i5 < o0.1)))) rfl rfl ?_
         rcases csome h with ⟨l8, h⟩ | ⟨l8, h⟩
         ·refine EL_s rfl rfl l8 rfl rfl ?_
          refine EL_s rfl rfl l8 rfl rfl ?_
          refine EL_s rfl rfl l8 rfl rfl ?_
          refine EL_dead 7 rfl ?_
          refine EL_s rfl rfl l8 rfl rfl ?_
          refine EL_p (.bool true) (P_pick (b := (decide (i5 < o0.1))) rfl (pick_t l8 rfl)) rfl ?_
          refine EL_nil ?_
          obtain rfl := sinj h
          exact hQ _ _ ⟨uD, hfr, dB, iB, jB, lB, mB, d9, k8, rfl⟩
         ·refine EL_y (.int .i64 (o0.2.1)) (P_move k8) rfl rfl l8 rfl ?_
          refine EL_y (.bool ((decide (o0.2.1 ≥ (0 : Int))))) (P_int rfl rfl rfl) rfl rfl l8 rfl ?_
          refine EL_y (.bool ((decide (o0.2.1 ≥ (0 : Int))))) (P_move rfl) rfl rfl l8 rfl ?_
          rcases csome h with ⟨y9, h⟩ | ⟨y9, h⟩
          ·refine EL_y (.int .i64 (i5)) (P_move aD) rfl rfl y9 rfl ?_
           refine EL_y (.bool ((decide (i5 < (0 : Int))))) (P_int rfl rfl rfl) rfl rfl y9 rfl ?_
           refine EL_y (.bool ((decide (i5 < (0 : Int))))) (P_move rfl) rfl rfl y9 rfl ?_
           rcases csome h with ⟨eC, h⟩ | ⟨eC, h⟩
           ·refine EL_s rfl rfl eC rfl rfl ?_
            refine EL_s rfl rfl eC rfl rfl ?_
            refine EL_s rfl rfl eC rfl rfl ?_
            refine EL_y (.bool true) (P_pick (b := (decide (i5 < (0 : Int)))) rfl (pick_t eC rfl)) rfl rfl y9 rfl ?_
            refine EL_y (.bool true) (P_pick (b := (decide (o0.2.1 ≥ (0 : Int)))) rfl (pick_t y9 rfl)) rfl rfl l8 rfl ?_
            refine EL_p (.bool true) (P_pick (b := (decide (i5 < o0.1))) rfl (pick_f l8 rfl)) rfl ?_
            refine EL_nil ?_
            obtain rfl := sinj h
            exact hQ _ _ ⟨uD, hfr, dB, iB, jB, lB, mB, d9, k8, rfl⟩
           ·refine EL_y (.int .i64 (i5)) (P_move aD) rfl rfl eC rfl ?_
            refine EL_y (.int .i64 (o0.2.1)) (P_move k8) rfl rfl eC rfl ?_
            refine EL_y (.bool ((decide (i5 > o0.2.1)))) (P_int rfl rfl rfl) rfl rfl eC rfl ?_
            refine EL_y (.bool ((decide (i5 > o0.2.1)))) (P_pick (b := (decide (i5 < (0 : Int)))) rfl (pick_f eC rfl)) rfl rfl y9 rfl ?_
            refine EL_y (.bool ((decide (i5 > o0.2.1)))) (P_pick (b := (decide (o0.2.1 ≥ (0 : Int)))) rfl (pick_t y9 rfl)) rfl rfl l8 rfl ?_
            refine EL_p (.bool ((decide (i5 > o0.2.1)))) (P_pick (b := (decide (i5 < o0.1))) rfl (pick_f l8 rfl)) rfl ?_
            refine EL_nil ?_
            obtain rfl := sinj h
            exact hQ _ _ ⟨uD, hfr, dB, iB, jB, lB, mB, d9, k8, rfl⟩
          ·refine EL_s rfl rfl y9 rfl rfl ?_
           refine EL_s rfl rfl y9 rfl rfl ?_
           refine EL_s rfl rfl y9 rfl rfl ?_
           refine EL_dead 3 rfl ?_
           refine EL_s rfl rfl y9 rfl rfl ?_
           refine EL_y (.bool false) (P_pick (b := (decide (o0.2.1 ≥ (0 : Int)))) rfl (pick_f y9 rfl)) rfl rfl l8 rfl ?_
           refine EL_p (.bool false) (P_pick (b := (decide (i5 < o0.1))) rfl (pick_f l8 rfl)) rfl ?_
           refine EL_nil ?_
           obtain rfl := sinj h
           exact hQ _ _ ⟨uD, hfr, dB, iB, jB, lB, mB, d9, k8, rfl⟩
       ·refine EL_s rfl rfl u9 rfl rfl ?_
        refine EL_s rfl rfl u9 rfl rfl ?_
        refine EL_s rfl rfl u9 rfl rfl ?_
        refine EL_dead 3 rfl ?_
        refine EL_s rfl rfl u9 rfl rfl ?_
        refine EL_p (.bool false) (P_pick (b := (decide (i5 ≥ (0 : Int)))) rfl (pick_f u9 rfl)) rfl ?_
        refine EL_mw (.bool false) rfl rfl ?_
        refine EL_y (.int .i64 (o0.2.1)) (P_move k8) rfl rfl rfl rfl ?_
        refine EL_y (.bool ((decide (o0.2.1 ≥ (0 : Int))))) (P_int rfl rfl rfl) rfl rfl rfl rfl ?_
        refine EL_y (.bool ((decide (o0.2.1 ≥ (0 : Int))))) (P_move rfl) rfl rfl rfl rfl ?_
        rcases csome h with ⟨z9, h⟩ | ⟨z9, h⟩
        ·refine EL_y (.int .i64 (i5)) (P_move aD) rfl rfl z9 rfl ?_
         refine EL_y (.bool ((decide (i5 < (0 : Int))))) (P_int rfl rfl rfl) rfl rfl z9 rfl ?_
         refine EL_y (.bool ((decide (i5 < (0 : Int))))) (P_move rfl) rfl rfl z9 rfl ?_
         rcases csome h with ⟨iC, h⟩ | ⟨iC, h⟩
         ·refine EL_s rfl rfl iC rfl rfl ?_
          refine EL_s rfl rfl iC rfl rfl ?_
          refine EL_s rfl rfl iC rfl rfl ?_
          refine EL_y (.bool true) (P_pick (b := (decide (i5 < (0 : Int)))) rfl (pick_t iC rfl)) rfl rfl z9 rfl ?_
          refine EL_y (.bool true) (P_pick (b := (decide (o0.2.1 ≥ (0 : Int)))) rfl (pick_t z9 rfl)) rfl rfl rfl rfl ?_
          refine EL_p (.bool true) (P_pick (b := false) rfl (pick_f rfl rfl)) rfl ?_
          refine EL_nil ?_
          obtain rfl := sinj h
          exact hQ _ _ ⟨uD, hfr, dB, iB, jB, lB, mB, d9, k8, rfl⟩
         ·refine EL_y (.int .i64 (i5)) (P_move aD) rfl rfl iC rfl ?_
          refine EL_y (.int .i64 (o0.2.1)) (P_move k8) rfl rfl iC rfl ?_
          refine EL_y (.bool ((decide (i5 > o0.2.1)))) (P_int rfl rfl rfl) rfl rfl iC rfl ?_
          refine EL_y (.bool ((decide (i5 > o0.2.1)))) (P_pick (b := (decide (i5 < (0 : Int)))) rfl (pick_f iC rfl)) rfl rfl z9 rfl ?_
          refine EL_y (.bool ((decide (i5 > o0.2.1)))) (P_pick (b := (decide (o0.2.1 ≥ (0 : Int)))) rfl (pick_t z9 rfl)) rfl rfl rfl rfl ?_
          refine EL_p (.bool ((decide (i5 > o0.2.1)))) (P_pick (b := false) rfl (pick_f rfl rfl)) rfl ?_
          refine EL_nil ?_
          obtain rfl := sinj h
          exact hQ _ _ ⟨uD, hfr, dB, iB, jB, lB, mB, d9, k8, rfl⟩
        ·refine EL_s rfl rfl z9 rfl rfl ?_
         refine EL_s rfl rfl z9 rfl rfl ?_
         refine EL_s rfl rfl z9 rfl rfl ?_
         refine EL_dead 3 rfl ?_
         refine EL_s rfl rfl z9 rfl rfl ?_
         refine EL_y (.bool false) (P_pick (b := (decide (o0.2.1 ≥ (0 : Int)))) rfl (pick_f z9 rfl)) rfl rfl rfl rfl ?_
         refine EL_p (.bool false) (P_pick (b := false) rfl (pick_f rfl rfl)) rfl ?_
         refine EL_nil ?_
         obtain rfl := sinj h
         exact hQ _ _ ⟨uD, hfr, dB, iB, jB, lB, mB, d9, k8, rfl⟩
      ·clear hx
       obtain ⟨mZ, hfr, iS, jS, lS, mS, nS, pO, qO, pG⟩ := hR
       rcases csome h with ⟨nH, h⟩ | ⟨nH, h⟩
       ·refine E_cond_true (Eq.trans (show ev _ _ = .bool (gD) from pG) (congrArg Value.bool nH)) ?_
        refine E_seq (E_region (EL_at (.bool false) rfl rfl ?_))
        refine EL_nil (thn_n (E_ret (thn_r ?_)))
        obtain rfl := sinj h
        exact end1 rfl rfl (show _ = .bool false from rfl) ⟨_, hfr, rfl⟩
       ·refine E_cond_false (Eq.trans (show ev _ _ = .bool (gD) from pG) (congrArg Value.bool nH)) ?_
        exact E_skip (thn_n (gW () _ _ ⟨mZ, hfr, iS, jS, lS, mS, nS, pO, qO⟩ h))
     ·rintro _ u03 l05 ⟨tP, hfr, oS, pS, qS, rS, rA, rO, sO⟩ h
      refine E_seq (E_region (EL_do .plain rfl (D_loadO (g := tP) Try.isAgg25 Try.sizeOf25 pS qS fun nZ oZ => ?_)))
      obtain ⟨aP, iW, h⟩ := bsome h
      refine EL_do .plain rfl (D_callG (g := tP) (vs := [nZ]) en15 (.cons rfl .nil) (W15 (iO := 4232) oZ iW) fun pZ m05 n05 hs hm1298 => ?_)
      have hfr := hfr.ext hs
      have rA := rA.ext hs
      obtain ⟨sk1298, ow1298, ok1298⟩ := hm1298
      refine EL_do .plain rfl (D_allocOc (g := pZ) 2025 (⟨[], [], []⟩ : BoxLoom) Try.zeroValue25 (fun m w => ⟨_, (rep_two rep_nil (rep_two rep_nil rep_nil)), rfl⟩) fun zG zK aL hs b1300 cb => ?_)
      have hfr := hfr.stp hs
      have rA := rA.stp hs
      have ow1298 := ow1298.stp hs rfl
      have r02 : OSF 2025 62500 0 zG zK 3 25 ([] : List Int) aL := cb.osf (by rfl)
      have s02 : OSF 2025 62501 1 zG zK 3 25 ([] : List Int) aL := cb.osf (by rfl)
      have t02 : OSF 2025 62502 2 zG zK 87 25 ([] : List BoxShuttle) aL := cb.osf (by rfl)
      clear cb
      refine EL_do .plain rfl (D_storeOW (g := zG) Try.sizeOf25 rfl b1300 rfl ow1298 rfl fun gj1301 qZ o05 bk1301 hsa hsb hpp b1301 => ?_)
      have hfr := hfr.stp hsa
      have rA := rA.stp hsa
      have hfr := hfr.stp hsb
      have rA := rA.stp hsb
      clear hsa hsb
      subst hpp
      refine EL_nil (thn_n ?_)
      obtain ⟨nF, hx, h⟩ := bsome h
      refine E_join (fun e w => ∃ (g : Gh) , Fr gI wI g w ∧ e 8 = t5 ∧ RV g.m w (x6.1 : List BoxPick) t5 ∧ e 12 = .int .i64 (o0.1) ∧ e 13 = .int .i64 (o0.2.1) ∧ e 25 = (Value.pointer (some ⟨bk1301, 0, none⟩)) ∧ OVb ow_BoxLoom 2025 g w 25 (nF : BoxLoom) bk1301) (fun Q' hQ => ?_) (fun v03 rZ hR => ?_)
      ·replace h := hx
       clear hx
       refine E_seq (E_region (EL_at (.int .i64 (0)) rfl rfl ?_))
       refine EL_nil (thn_n (E_block ?_))
       refine E_lp h (fun (s : BoxLoom × Int) e w => ∃ (g : Gh) , Fr gI wI g w ∧ e 2 = .int .u8 (UInt8.toNat (x2)) ∧ e 8 = t5 ∧ RV g.m w (x6.1 : List BoxPick) t5 ∧ e 12 = .int .i64 (o0.1) ∧ e 13 = .int .i64 (o0.2.1) ∧ e 25 = (Value.pointer (some ⟨bk1301, 0, none⟩)) ∧ OVb ow_BoxLoom 2025 g w 25 (s.1 : BoxLoom) bk1301 ∧ e 26 = .int .i64 (s.2)) ⟨qZ, hfr, oS, rS, rA, rO, sO, rfl, ⟨_, b1301, ok1298⟩, rfl⟩ (fun X1561 bP jW => ?_)
       rintro ⟨u3, l5⟩ x03 p05 ⟨bL, hfr, sS, aK, bK, oH, pH, rF, ⟨qG, nE, vD⟩, qH⟩ h
       refine E_joinC h (fun (s : Unit) e w => ∃ (g : Gh) , Fr gI wI g w ∧ e 2 = .int .u8 (UInt8.toNat (x2)) ∧ e 8 = t5 ∧ RV g.m w (x6.1 : List BoxPick) t5 ∧ e 12 = .int .i64 (o0.1) ∧ e 13 = .int .i64 (o0.2.1) ∧ e 25 = (Value.pointer (some ⟨bk1301, 0, none⟩)) ∧ OVb ow_BoxLoom 2025 g w 25 (u3 : BoxLoom) bk1301 ∧ e 26 = .int .i64 (l5)) (fun X1568 cP kW h => ?_) ?_
       ·refine E_seq (E_region (EL_mv qH rfl ?_))
        refine EL_p ((.pointer (some ⟨bk1301, (0 + 2), none⟩))) (P_fieldAddrH at_25_2 rF) rfl ?_
        refine EL_do .plain rfl (D_loadH (g := bL) (Cxt.fld (Cxt.root ow_BoxLoom bk1301) fl_BoxLoom_2 (u3) (qG)) rfl rfl ((vD.2).2) Try.isAgg23 rfl nE ?_)
        have hz1572 := (OV.slice nE (Cxt.fld (Cxt.root ow_BoxLoom bk1301) fl_BoxLoom_2 (u3) (qG)) rfl rfl ((vD.2).2)).1
        refine EL_p (.int .i64 (((u3).Shuttles).length : Int)) (P_lenH Try.underlying23 rfl hz1572) rfl ?_
        refine EL_p (.bool ((decide (l5 < (((u3).Shuttles).length : Int))))) (P_int rfl rfl rfl) rfl ?_
        refine EL_nil (thn_n ?_)
        rcases csome h with ⟨sH, h⟩ | ⟨sH, h⟩
        ·refine E_ct sH rfl ?_
         exact E_skip (thn_n (kW () _ _ ⟨bL, hfr, sS, aK, bK, oH, pH, rF, ⟨_, nE, vD⟩, qH⟩ h))
        ·refine E_cf sH rfl ?_
         refine E_exit ?_
         refine thn_e ?_
         refine thn_e ?_
         refine blk_hit ?_
         obtain rfl := sinj h
         exact hQ _ _ ⟨bL, hfr, aK, bK, oH, pH, rF, ⟨_, nE, vD⟩⟩
       ·rintro _ y03 q05 ⟨cL, hfr, lD, cK, i8, tH, uH, oD, ⟨j6, m8, nB⟩, sD⟩ h
        obtain ⟨iE, hx, h⟩ := bsome h
        refine E_join (fun e w => ∃ (g : Gh) , Fr gI wI g w ∧ e 2 = .int .u8 (UInt8.toNat (x2)) ∧ e 8 = t5 ∧ RV g.m w (x6.1 : List BoxPick) t5 ∧ e 12 = .int .i64 (o0.1) ∧ e 13 = .int .i64 (o0.2.1) ∧ e 25 = (Value.pointer (some ⟨bk1301, 0, none⟩)) ∧ OVb ow_BoxLoom 2025 g w 25 (iE : BoxLoom) bk1301 ∧ e 26 = .int .i64 (l5)) (fun Q' hQ => ?_) (fun z03 r05 hR => ?_)
        ·replace h := hx
         clear hx
         refine E_block ?_
         refine E_seq (E_region (EL_p ((.pointer (some ⟨bk1301, (0 + 2), none⟩))) (P_fieldAddrH at_25_2 oD) rfl ?_))
         refine EL_do .plain rfl (D_loadH (g := cL) (Cxt.fld (Cxt.root ow_BoxLoom bk1301) fl_BoxLoom_2 (u3) (j6)) rfl rfl ((nB.2).2) Try.isAgg23 rfl m8 ?_)
         refine EL_mv sD rfl ?_
         obtain ⟨y6, tD, h⟩ := bsome h
         obtain ⟨bb1701, cc1701, ss1701, hq1701, xH⟩ := (OV.slice m8 (Cxt.fld (Cxt.root ow_BoxLoom bk1301) fl_BoxLoom_2 (u3) (j6)) rfl rfl ((nB.2).2)).2 tD
         refine EL_p ((.pointer (some ⟨bb1701, ((Int.toNat l5) * 5), none⟩))) (P_indexH Try.underlying23 Try.sizeOf87 (rfl.trans (hdr_at hq1701 _)) rfl (idx_nat tD)) rfl ?_
         refine EL_p ((.pointer (some ⟨bb1701, (((Int.toNat l5) * 5) + 3), none⟩))) (P_fieldAddrH at_87_3 rfl) rfl ?_
         refine EL_do .plain rfl (D_loadV (g := cL) (Cxt.fld (Cxt.idx (Cxt.fld (Cxt.root ow_BoxLoom bk1301) fl_BoxLoom_2 (u3) (j6)) ((u3).Shuttles) (Int.toNat l5) bb1701 cc1701 ss1701 (idx_nat tD).2 xH) fl_BoxShuttle_3 (y6) (())) ((congrArg (fun q => ({ u3 with Shuttles := q } : BoxLoom)) (set_idx tD)).trans rfl) (((congrArg (fun q => (Prod.fst j6, (Prod.fst (Prod.snd j6), (Sl.at bb1701 cc1701 q)))) set_unit).trans (congrArg (fun q => (Prod.fst j6, (Prod.fst (Prod.snd j6), q))) (hq1701).symm)).trans rfl) Try.isAgg85 Try.sizeOf85 rfl m8 fun sZ dL => ?_)
         refine EL_do .plain rfl (D_allocOc (g := cL) 2027 (⟨0, 0⟩ : Span) Try.zeroValue85 (fun m w => ⟨_, (rep_two rep_int rep_int), rfl⟩) fun tZ s05 aH hs b1705 cb => ?_)
         have hfr := hfr.stp hs
         have i8 := i8.stp hs
         have m8 := m8.stp hs rfl
         have dL := dL.stp hs
         clear cb
         refine EL_do .plain rfl (D_storeOc (g := tZ) (v := sZ) Try.sizeOf85 rfl b1705 rfl dL fun uZ t05 hs b1706 cb => ?_)
         clear cb
         have hfr := hfr.stp hs
         have i8 := i8.stp hs
         have m8 := m8.stp hs rfl
         refine EL_nil (thn_n (E_seq (L_loadH (x := .tmp 246) (Cxt.fld (Cxt.root ow_BoxLoom bk1301) fl_BoxLoom_2 (u3) (j6)) rfl rfl ((nB.2).2) Try.isAgg23 m8 fun lW => ?_)))
         refine L_loadO (x := .tmp 249) part_Span_0.1 Try.isAgg3 Try.sizeOf3 b1706 fun u05 vZ mW => ?_
         obtain rfl := RV_int.1 vZ
         obtain ⟨sF, nW, h⟩ := bsome h
         refine L_loadO (x := .tmp 255) part_Span_1.1 Try.isAgg3 Try.sizeOf3 b1706 fun v05 xZ oW => ?_
         obtain rfl := RV_int.1 xZ
         obtain ⟨tF, pW, h⟩ := bsome h
         obtain ⟨x8, qW, h⟩ := bsome h
         refine E_drawL (g := uZ) (n := 18) [(15, (fun v g w => RV g.m w x8 v))] [0, 1, 2, 3, 4, 5, 6, 7, 8, 9, 10, 11, 12, 13, 14, 15, 16, 17] rfl mixed (by kernel_rfl) (⟨fun _ => up_rv, trivial⟩) ?_
         refine L_p ((.pointer (some ⟨bk1301, (0 + 2), none⟩))) rfl rfl (P_fieldAddrH at_25_2 oD) ?_
         refine L_ld (c := (hdrV (Prod.snd (Prod.snd j6)) ((u3).Shuttles).length)) rfl rfl .plain (fun _ _ h => ⟨h.ch, fun b hb _ => h.below.block b hb⟩) lW rfl ?_
         refine L_p (.int .i64 (l5)) rfl rfl (P_move sD) ?_
         refine L_p (fPtr aH 0) rfl rfl (P_fieldAddr at_85_0 rfl (OB.ptr b1706)) ?_
         refine L_ld (c := .int .i64 (((y6).Yarn).Low)) rfl rfl .plain (fun _ _ h => ⟨h.ch, fun b hb _ => h.below.block b hb⟩) mW rfl ?_
         refine L_p (.int .u8 (UInt8.toNat (x2))) rfl rfl (P_move lD) ?_
         refine L_p (.int .i64 (((x2).toNat : Int))) rfl rfl (P_u8int Try.underlying5 Try.underlying3 rfl) ?_
         refine L_p (.int .i64 (sF)) rfl rfl (P_int rfl rfl (congrArg (Option.map (Value.int .i64)) nW)) ?_
         refine L_p (.int .i64 ((w64 (((y6).Yarn).Low + sF)))) rfl rfl (P_int rfl rfl rfl) ?_
         refine L_p (fPtr aH 1) rfl rfl (P_fieldAddr at_85_1 rfl (OB.ptr b1706)) ?_
         refine L_ld (c := .int .i64 (((y6).Yarn).High)) rfl rfl .plain (fun _ _ h => ⟨h.ch, fun b hb _ => h.below.block b hb⟩) oW rfl ?_
         refine L_p (.int .u8 (UInt8.toNat (x2))) rfl rfl (P_move lD) ?_
         refine L_p (.int .i64 (((x2).toNat : Int))) rfl rfl (P_u8int Try.underlying5 Try.underlying3 rfl) ?_
         refine L_p (.int .i64 (tF)) rfl rfl (P_int rfl rfl (congrArg (Option.map (Value.int .i64)) pW)) ?_
         refine L_p (.int .i64 ((w64 (((y6).Yarn).High + tF)))) rfl rfl (P_int rfl rfl rfl) ?_
         refine L_do (φ := fun v g w => RV g.m w x8 v) rfl rfl .plain (fun g w hd => D_call (g := g) (vs := [.int .i64 ((w64 (((y6).Yarn).Low + sF))), .int .i64 ((w64 (((y6).Yarn).High + tF)))]) en42 (.cons rfl (.cons rfl .nil)) (wk42  qW) fun g' w' v hs hr => ⟨g', hs, hr⟩) (fun yZ hv => ?_)
         obtain ⟨_, _, _, rq1716⟩ := hv
         refine L_p ((.pointer (some ⟨bb1701, ((Int.toNat l5) * 5), none⟩))) rfl rfl (P_indexH Try.underlying23 Try.sizeOf87 (rfl.trans (hdr_at hq1701 _)) rfl (idx_nat tD)) ?_
         refine L_p ((.pointer (some ⟨bb1701, (((Int.toNat l5) * 5) + 3), none⟩))) rfl rfl (P_fieldAddrH at_87_3 rfl) ?_
         refine L_nil fun zZ x05 hall => ?_
         have hs := hall.1
         have hfr := hfr.ext hs
         have i8 := i8.ext hs
         have m8 := m8.ext hs
         have b1706 := b1706.ext hs
         have a00 := (word_all (A := fun g w => RV g.m w x8 yZ) 15 rfl hall)
         clear hs hall
         refine EL_do .plain rfl (D_storeOV (g := zZ) (u' := (x8 : Span)) (Cxt.fld (Cxt.idx (Cxt.fld (Cxt.root ow_BoxLoom bk1301) fl_BoxLoom_2 (u3) (j6)) ((u3).Shuttles) (Int.toNat l5) bb1701 cc1701 ss1701 (idx_nat tD).2 xH) fl_BoxShuttle_3 (y6) (())) ((congrArg (fun q => ({ u3 with Shuttles := q } : BoxLoom)) (set_idx tD)).trans rfl) (((congrArg (fun q => (Prod.fst j6, (Prod.fst (Prod.snd j6), (Sl.at bb1701 cc1701 q)))) set_unit).trans (congrArg (fun q => (Prod.fst j6, (Prod.fst (Prod.snd j6), q))) (hq1701).symm)).trans rfl) Try.sizeOf85 rfl m8 rfl a00 fun eL b00 hs b1752 => ?_)
         have hfr := hfr.stp hs
         have i8 := i8.stp hs
         have b1706 := b1706.stp hs rfl
         replace b1752 : OV ow_BoxLoom 2025 eL b00 25 (({ u3 with Shuttles := (List.set ((u3).Shuttles) (Int.toNat l5) ({ y6 with Yarn := x8 } : BoxShuttle)) } : BoxLoom) : BoxLoom) bk1301 j6 := b1752
         refine EL_nil (thn_n (E_seq (E_region (EL_mv lD rfl ?_))))
         refine EL_p (.int .i64 (((x2).toNat : Int))) (P_u8int Try.underlying5 Try.underlying3 rfl) rfl ?_
         obtain ⟨rG, sW, h⟩ := bsome h
         refine EL_p (.int .i64 (rG)) (P_int rfl rfl (congrArg (Option.map (Value.int .i64)) sW)) rfl ?_
         refine EL_mv lD rfl ?_
         refine EL_p (.int .i64 (((x2).toNat : Int))) (P_u8int Try.underlying5 Try.underlying3 rfl) rfl ?_
         obtain ⟨sG, tW, h⟩ := bsome h
         refine EL_p (.int .i64 (sG)) (P_int rfl rfl (congrArg (Option.map (Value.int .i64)) tW)) rfl ?_
         refine EL_in (.bool ((decide (rG > sG)))) rfl rfl rfl rfl ?_
         refine EL_nil (thn_n ?_)
         rcases csome h with ⟨yH, h⟩ | ⟨yH, h⟩
         ·refine E_ct yH rfl ?_
          refine L_loadH (x := .tmp 271) (Cxt.fld (Cxt.root ow_BoxLoom bk1301) fl_BoxLoom_2 (({ u3 with Shuttles := (List.set ((u3).Shuttles) (Int.toNat l5) ({ y6 with Yarn := x8 } : BoxShuttle)) } : BoxLoom)) (j6)) rfl rfl ((nB.2).2) Try.isAgg23 b1752 fun uW => ?_
          refine L_loadO (x := .tmp 274) part_Span_0.1 Try.isAgg3 Try.sizeOf3 b1706 fun y05 c00 vW => ?_
          obtain rfl := RV_int.1 c00
          refine L_loadO (x := .tmp 276) part_Span_1.1 Try.isAgg3 Try.sizeOf3 b1706 fun z05 d00 xW => ?_
          obtain rfl := RV_int.1 d00
          obtain ⟨gE, yW, h⟩ := bsome h
          obtain ⟨tG, zH, h⟩ := bsome h
          refine E_drawL (g := eL) (n := 11) [(8, (fun v g w => RV g.m w gE v))] [0, 1, 2, 3, 4, 5, 6, 7, 8, 9, 10] rfl mixed (by kernel_rfl) (⟨fun _ => up_rv, trivial⟩) ?_
          refine L_p ((.pointer (some ⟨bk1301, (0 + 2), none⟩))) rfl rfl (P_fieldAddrH at_25_2 oD) ?_
          refine L_ld (c := (hdrV (Prod.snd (Prod.snd j6)) ((({ u3 with Shuttles := (List.set ((u3).Shuttles) (Int.toNat l5) ({ y6 with Yarn := x8 } : BoxShuttle)) } : BoxLoom)).Shuttles).length)) rfl rfl .plain (fun _ _ h => ⟨h.ch, fun b hb _ => h.below.block b hb⟩) uW rfl ?_
          refine L_p (.int .i64 (l5)) rfl rfl (P_move sD) ?_
          refine L_p (fPtr aH 0) rfl rfl (P_fieldAddr at_85_0 rfl (OB.ptr b1706)) ?_
          refine L_ld (c := .int .i64 (((y6).Yarn).Low)) rfl rfl .plain (fun _ _ h => ⟨h.ch, fun b hb _ => h.below.block b hb⟩) vW rfl ?_
          refine L_p (fPtr aH 1) rfl rfl (P_fieldAddr at_85_1 rfl (OB.ptr b1706)) ?_
          refine L_ld (c := .int .i64 (((y6).Yarn).High)) rfl rfl .plain (fun _ _ h => ⟨h.ch, fun b hb _ => h.below.block b hb⟩) xW rfl ?_
          refine L_p (.int .i64 ((w64 (((y6).Yarn).High + (1 : Int))))) rfl rfl (P_int rfl rfl rfl) ?_
          refine L_do (φ := fun v g w => RV g.m w gE v) rfl rfl .plain (fun g w hd => D_call (g := g) (vs := [.int .i64 (((y6).Yarn).Low), .int .i64 ((w64 (((y6).Yarn).High + (1 : Int))))]) en42 (.cons rfl (.cons rfl .nil)) (wk42  yW) fun g' w' v hs hr => ⟨g', hs, hr⟩) (fun g00 hv => ?_)
          obtain ⟨_, _, _, rq1763⟩ := hv
          refine L_p ((.pointer (some ⟨bb1701, ((Int.toNat l5) * 5), none⟩))) rfl rfl (P_indexH Try.underlying23 Try.sizeOf87 (rfl.trans (hdr_at hq1701 _)) rfl (idx_nat zH)) ?_
          refine L_p ((.pointer (some ⟨bb1701, (((Int.toNat l5) * 5) + 3), none⟩))) rfl rfl (P_fieldAddrH at_87_3 rfl) ?_
          refine L_nil fun h00 a06 hall => ?_
          have hs := hall.1
          have hfr := hfr.ext hs
          have i8 := i8.ext hs
          have b1752 := b1752.ext hs
          have i00 := (word_all (A := fun g w => RV g.m w gE g00) 8 rfl hall)
          clear hs hall
          refine EL_do .plain rfl (D_storeOV (g := h00) (u' := (gE : Span)) (Cxt.fld (Cxt.idx (Cxt.fld (Cxt.root ow_BoxLoom bk1301) fl_BoxLoom_2 (({ u3 with Shuttles := (List.set ((u3).Shuttles) (Int.toNat l5) ({ y6 with Yarn := x8 } : BoxShuttle)) } : BoxLoom)) (j6)) ((({ u3 with Shuttles := (List.set ((u3).Shuttles) (Int.toNat l5) ({ y6 with Yarn := x8 } : BoxShuttle)) } : BoxLoom)).Shuttles) (Int.toNat l5) bb1701 cc1701 ss1701 (idx_nat zH).2 (by simpa using xH)) fl_BoxShuttle_3 (tG) (())) ((congrArg (fun q => ({ (({ u3 with Shuttles := (List.set ((u3).Shuttles) (Int.toNat l5) ({ y6 with Yarn := x8 } : BoxShuttle)) } : BoxLoom)) with Shuttles := q } : BoxLoom)) (set_idx zH)).trans rfl) (((congrArg (fun q => (Prod.fst j6, (Prod.fst (Prod.snd j6), (Sl.at bb1701 cc1701 q)))) set_unit).trans (congrArg (fun q => (Prod.fst j6, (Prod.fst (Prod.snd j6), q))) (hq1701).symm)).trans rfl) Try.sizeOf85 rfl b1752 rfl i00 fun uP j00 hs b1818 => ?_)
          have hfr := hfr.stp hs
          have i8 := i8.stp hs
          replace b1818 : OV ow_BoxLoom 2025 uP j00 25 (({ (({ u3 with Shuttles := (List.set ((u3).Shuttles) (Int.toNat l5) ({ y6 with Yarn := x8 } : BoxShuttle)) } : BoxLoom)) with Shuttles := (List.set ((({ u3 with Shuttles := (List.set ((u3).Shuttles) (Int.toNat l5) ({ y6 with Yarn := x8 } : BoxShuttle)) } : BoxLoom)).Shuttles) (Int.toNat l5) ({ tG with Yarn := gE } : BoxShuttle)) } : BoxLoom) : BoxLoom) bk1301 j6 := b1818
          refine EL_nil (blk_n ?_)
          obtain rfl := sinj h
          exact hQ _ _ ⟨uP, hfr, lD, cK, i8, tH, uH, oD, ⟨_, b1818, nB⟩, sD⟩
         ·refine E_cf yH rfl ?_
          refine E_skip (blk_n ?_)
          obtain rfl := sinj h
          exact hQ _ _ ⟨eL, hfr, lD, cK, i8, tH, uH, oD, ⟨_, b1752, nB⟩, sD⟩
        ·clear hx
         obtain ⟨k00, hfr, tS, uS, vS, tO, uO, vO, ⟨b01, xO, kN⟩, yO⟩ := hR
         refine E_region (EL_mv yO rfl ?_)
         refine EL_in (.int .i64 ((w64 (l5 + (1 : Int))))) rfl rfl rfl rfl ?_
         refine EL_at (.int .i64 ((w64 (l5 + (1 : Int))))) rfl rfl ?_
         exact EL_nil (thn_n (jW (iE, (w64 (l5 + (1 : Int)))) _ _ ⟨k00, hfr, tS, uS, vS, tO, uO, vO, ⟨_, xO, kN⟩, rfl⟩ h))
      ·clear hx
       obtain ⟨vP, hfr, xS, nG, aI, oE, zO, ⟨c01, bD, lN⟩⟩ := hR
       refine E_seq (L_loadAL (x := .tmp 25) Try.isAgg25 Try.sizeOf25 bD fun xP al1825 zW => ?_)
       obtain ⟨dP, aX, h⟩ := bsome h
       obtain ⟨i3, bX, h⟩ := bsome h
       refine E_drawC (g := vP) (w := rZ) (n := 10) [0, 1, 4, 5, 6, 7, 8, 9] [2025] [0, 1, 2, 3, 4, 5, 6, 7, 8, 9] rfl mixed (by kernel_rfl) fun w_c1823 hs hlt => ?_
       have hfr := hfr.ext hs
       have nG := nG.ext hs
       have bD := bD.ext hs
       clear hs
       refine CH_ldO (n := 2025) (c := xP) rfl rfl .plain zW zO rfl ?_
       have al1825 := AL.lt al1825 hlt rfl
       refine CH_pur (c := t5) rfl rfl .plain (P_move xS) ?_
       refine CH_do rfl rfl .plain (D_call (g := vP) (vs := [t5]) en28 (.cons rfl .nil) (wk28 nG aX) fun l00 a04 m00 hs hr => ?_)
       have hfr := hfr.ext hs
       have hlt := hlt.ext hs
       have bD := bD.ext hs
       have al1825 := al1825.ext hs
       have n00 := hr
       refine ⟨hlt.toW, ?_⟩
       refine CH_do rfl rfl .plain (D_callF (g := l00) (vs := [xP, m00]) (R := fun v => ∃ y0 y1 y2, v = .tuple #[y0, y1, y2] ∧ y0 = .int .i64 (i3.1) ∧ y1 = .int .i64 (i3.2.1) ∧ y2 = .int .i64 (i3.2.2)) en30 (.cons rfl (.cons rfl .nil)) (wk30 (AL.lent al1825 bD lN rfl) (n00.lent) bX) fun lC b06 c06 hs hv => ?_)
       obtain ⟨_, _, _, rfl, rfl, rfl, rfl⟩ := hv
       have hfr := hfr.ext hs
       have hlt := hlt.ext hs
       refine ⟨hlt.toW, ?_⟩
       refine CH_pur (c := .tuple #[.int .i64 (i3.1), .int .i64 (i3.2.1), .int .i64 (i3.2.2)]) rfl rfl .plain (P_move rfl) ?_
       refine CH_pur (c := .int .i64 (i3.1)) rfl rfl .plain (P_extract rfl rfl) ?_
       refine CH_pur (c := .int .i64 (i3.2.1)) rfl rfl .plain (P_extract rfl rfl) ?_
       refine CH_pur (c := .int .i64 (i3.2.2)) rfl rfl .plain (P_extract rfl rfl) ?_
       refine CH_pur (c := .int .i64 (i3.1)) rfl rfl .plain (P_assign rfl) ?_
       refine CH_pur (c := .int .i64 (i3.2.1)) rfl rfl .plain (P_assign rfl) ?_
       refine CH_nil ?_
       clear hlt
       refine EL_at (.int .i64 (i3.2.2)) rfl rfl ?_
       refine EL_nil (thn_n ?_)
       obtain ⟨eF, hx, h⟩ := bsome h
       refine E_join (fun e w => ∃ (g : Gh) , Fr gI wI g w ∧ e 6 = .bool (eF)) (fun Q' hQ => ?_) (fun b04 d06 hR => ?_)
       ·replace h := hx
        clear hx
        refine E_region (EL_mw (.int .i64 (i3.2.2)) rfl rfl ?_)
        refine EL_in (.bool ((i3.2.2 == (0 : Int)))) rfl rfl rfl rfl ?_
        refine EL_mw (.bool ((i3.2.2 == (0 : Int)))) rfl rfl ?_
        rcases csome h with ⟨n8, h⟩ | ⟨n8, h⟩
        ·refine EL_y (.int .i64 (i3.1)) (P_move rfl) rfl rfl n8 rfl ?_
         refine EL_y (.bool ((decide (i3.1 < (0 : Int))))) (P_int rfl rfl rfl) rfl rfl n8 rfl ?_
         refine EL_y (.bool ((decide (i3.1 < (0 : Int))))) (P_move rfl) rfl rfl n8 rfl ?_
         rcases csome h with ⟨bA, h⟩ | ⟨bA, h⟩
         ·refine EL_s rfl rfl bA rfl rfl ?_
          refine EL_s rfl rfl bA rfl rfl ?_
          refine EL_s rfl rfl bA rfl rfl ?_
          refine EL_dead 3 rfl ?_
          refine EL_s rfl rfl bA rfl rfl ?_
          refine EL_y (.bool true) (P_pick (b := (decide (i3.1 < (0 : Int)))) rfl (pick_t bA rfl)) rfl rfl n8 rfl ?_
          refine EL_p (.bool true) (P_pick (b := (i3.2.2 == (0 : Int))) rfl (pick_t n8 rfl)) rfl ?_
          refine EL_mw (.bool true) rfl rfl ?_
          refine EL_y (.int .i64 (i3.2.1)) (P_move rfl) rfl rfl rfl rfl ?_
          refine EL_y (.bool ((decide (i3.2.1 < (0 : Int))))) (P_int rfl rfl rfl) rfl rfl rfl rfl ?_
          refine EL_y (.bool ((decide (i3.2.1 < (0 : Int))))) (P_move rfl) rfl rfl rfl rfl ?_
          rcases csome h with ⟨gA, h⟩ | ⟨gA, h⟩
          ·refine EL_s rfl rfl gA rfl rfl ?_
           refine EL_s rfl rfl gA rfl rfl ?_
           refine EL_s rfl rfl gA rfl rfl ?_
           refine EL_dead 3 rfl ?_
           refine EL_s rfl rfl gA rfl rfl ?_
           refine EL_y (.bool true) (P_pick (b := (decide (i3.2.1 < (0 : Int)))) rfl (pick_t gA rfl)) rfl rfl rfl rfl ?_
           refine EL_p (.bool true) (P_pick (b := true) rfl (pick_t rfl rfl)) rfl ?_
           refine EL_mw (.bool true) rfl rfl ?_
           obtain ⟨uG, cX, h⟩ := bsome h
           refine EL_do (.yes2 rfl rfl rfl) rfl (D_call (g := lC) (vs := []) en14 .nil (wk14  cX) fun o00 c04 e06 hs hr => ?_)
           have hfr := hfr.ext hs
           subst hr
           refine EL_p (.bool (uG)) (P_pick (b := true) rfl (pick_t rfl rfl)) rfl ?_
           refine EL_at (.bool (uG)) rfl rfl ?_
           refine EL_nil ?_
           obtain rfl := sinj h
           exact hQ _ _ ⟨o00, hfr, rfl⟩
          ·refine EL_y (.int .i64 (o0.2.1)) (P_move oE) rfl rfl gA rfl ?_
           refine EL_y (.bool ((decide (o0.2.1 ≥ (0 : Int))))) (P_int rfl rfl rfl) rfl rfl gA rfl ?_
           refine EL_y (.bool ((decide (o0.2.1 ≥ (0 : Int))))) (P_move rfl) rfl rfl gA rfl ?_
           rcases csome h with ⟨mC, h⟩ | ⟨mC, h⟩
           ·refine EL_y (.int .i64 (i3.2.1)) (P_move rfl) rfl rfl mC rfl ?_
            refine EL_y (.int .i64 (o0.2.1)) (P_move oE) rfl rfl mC rfl ?_
            refine EL_y (.bool ((decide (i3.2.1 ≥ o0.2.1)))) (P_int rfl rfl rfl) rfl rfl mC rfl ?_
            refine EL_y (.bool ((decide (i3.2.1 ≥ o0.2.1)))) (P_pick (b := (decide (o0.2.1 ≥ (0 : Int)))) rfl (pick_t mC rfl)) rfl rfl gA rfl ?_
            refine EL_y (.bool ((decide (i3.2.1 ≥ o0.2.1)))) (P_pick (b := (decide (i3.2.1 < (0 : Int)))) rfl (pick_f gA rfl)) rfl rfl rfl rfl ?_
            refine EL_p (.bool ((decide (i3.2.1 ≥ o0.2.1)))) (P_pick (b := true) rfl (pick_t rfl rfl)) rfl ?_
            refine EL_mw (.bool ((decide (i3.2.1 ≥ o0.2.1)))) rfl rfl ?_
            rcases csome h with ⟨vE, h⟩ | ⟨vE, h⟩
            ·obtain ⟨vG, dX, h⟩ := bsome h
             refine EL_do (.yes2 rfl rfl vE) rfl (D_call (g := lC) (vs := []) en14 .nil (wk14  dX) fun p00 d04 g06 hs hr => ?_)
             have hfr := hfr.ext hs
             subst hr
             refine EL_p (.bool (vG)) (P_pick (b := (decide (i3.2.1 ≥ o0.2.1))) rfl (pick_t vE rfl)) rfl ?_
             refine EL_at (.bool (vG)) rfl rfl ?_
             refine EL_nil ?_
             obtain rfl := sinj h
             exact hQ _ _ ⟨p00, hfr, rfl⟩
            ·refine EL_s rfl rfl vE rfl rfl ?_
             refine EL_p (.bool false) (P_pick (b := (decide (i3.2.1 ≥ o0.2.1))) rfl (pick_f vE rfl)) rfl ?_
             refine EL_at (.bool false) rfl rfl ?_
             refine EL_nil ?_
             obtain rfl := sinj h
             exact hQ _ _ ⟨lC, hfr, rfl⟩
           ·refine EL_s rfl rfl mC rfl rfl ?_
            refine EL_s rfl rfl mC rfl rfl ?_
            refine EL_s rfl rfl mC rfl rfl ?_
            refine EL_y (.bool false) (P_pick (b := (decide (o0.2.1 ≥ (0 : Int)))) rfl (pick_f mC rfl)) rfl rfl gA rfl ?_
            refine EL_y (.bool false) (P_pick (b := (decide (i3.2.1 < (0 : Int)))) rfl (pick_f gA rfl)) rfl rfl rfl rfl ?_
            refine EL_dead 4 rfl ?_
            refine EL_at (.bool false) rfl rfl ?_
            refine EL_nil ?_
            obtain rfl := sinj h
            exact hQ _ _ ⟨lC, hfr, rfl⟩
         ·refine EL_y (.int .i64 (o0.1)) (P_move aI) rfl rfl bA rfl ?_
          refine EL_y (.bool ((decide (o0.1 ≥ (0 : Int))))) (P_int rfl rfl rfl) rfl rfl bA rfl ?_
          refine EL_y (.bool ((decide (o0.1 ≥ (0 : Int))))) (P_move rfl) rfl rfl bA rfl ?_
          rcases csome h with ⟨qC, h⟩ | ⟨qC, h⟩
          ·refine EL_y (.int .i64 (i3.1)) (P_move rfl) rfl rfl qC rfl ?_
           refine EL_y (.int .i64 (o0.1)) (P_move aI) rfl rfl qC rfl ?_
           refine EL_y (.bool ((decide (i3.1 ≥ o0.1)))) (P_int rfl rfl rfl) rfl rfl qC rfl ?_
           refine EL_y (.bool ((decide (i3.1 ≥ o0.1)))) (P_pick (b := (decide (o0.1 ≥ (0 : Int)))) rfl (pick_t qC rfl)) rfl rfl bA rfl ?_
           refine EL_y (.bool ((decide (i3.1 ≥ o0.1)))) (P_pick (b := (decide (i3.1 < (0 : Int)))) rfl (pick_f bA rfl)) rfl rfl n8 rfl ?_
           refine EL_p (.bool ((decide (i3.1 ≥ o0.1)))) (P_pick (b := (i3.2.2 == (0 : Int))) rfl (pick_t n8 rfl)) rfl ?_
           refine EL_mw (.bool ((decide (i3.1 ≥ o0.1)))) rfl rfl ?_
           rcases csome h with ⟨q8, h⟩ | ⟨q8, h⟩
           ·refine EL_y (.int .i64 (i3.2.1)) (P_move rfl) rfl rfl q8 rfl ?_
            refine EL_y (.bool ((decide (i3.2.1 < (0 : Int))))) (P_int rfl rfl rfl) rfl rfl q8 rfl ?_
            refine EL_y (.bool ((decide (i3.2.1 < (0 : Int))))) (P_move rfl) rfl rfl q8 rfl ?_
            rcases csome h with ⟨iA, h⟩ | ⟨iA, h⟩
            ·refine EL_s rfl rfl iA rfl rfl ?_
             refine EL_s rfl rfl iA rfl rfl ?_
             refine EL_s rfl rfl iA rfl rfl ?_
             refine EL_dead 3 rfl ?_
             refine EL_s rfl rfl iA rfl rfl ?_
             refine EL_y (.bool true) (P_pick (b := (decide (i3.2.1 < (0 : Int)))) rfl (pick_t iA rfl)) rfl rfl q8 rfl ?_
             refine EL_p (.bool true) (P_pick (b := (decide (i3.1 ≥ o0.1))) rfl (pick_t q8 rfl)) rfl ?_
             refine EL_mw (.bool true) rfl rfl ?_
             obtain ⟨xG, eX, h⟩ := bsome h
             refine EL_do (.yes2 rfl rfl rfl) rfl (D_call (g := lC) (vs := []) en14 .nil (wk14  eX) fun q00 e04 h06 hs hr => ?_)
             have hfr := hfr.ext hs
             subst hr
             refine EL_p (.bool (xG)) (P_pick (b := true) rfl (pick_t rfl rfl)) rfl ?_
             refine EL_at (.bool (xG)) rfl rfl ?_
             refine EL_nil ?_
             obtain rfl := sinj h
             exact hQ _ _ ⟨q00, hfr, rfl⟩
            ·refine EL_y (.int .i64 (o0.2.1)) (P_move oE) rfl rfl iA rfl ?_
             refine EL_y (.bool ((decide (o0.2.1 ≥ (0 : Int))))) (P_int rfl rfl rfl) rfl rfl iA rfl ?_
             refine EL_y (.bool ((decide (o0.2.1 ≥ (0 : Int))))) (P_move rfl) rfl rfl iA rfl ?_
             rcases csome h with ⟨rC, h⟩ | ⟨rC, h⟩
             ·refine EL_y (.int .i64 (i3.2.1)) (P_move rfl) rfl rfl rC rfl ?_
              refine EL_y (.int .i64 (o0.2.1)) (P_move oE) rfl rfl rC rfl ?_
              refine EL_y (.bool ((decide (i3.2.1 ≥ o0.2.1)))) (P_int rfl rfl rfl) rfl rfl rC rfl ?_
              refine EL_y (.bool ((decide (i3.2.1 ≥ o0.2.1)))) (P_pick (b := (decide (o0.2.1 ≥ (0 : Int)))) rfl (pick_t rC rfl)) rfl rfl iA rfl ?_
              refine EL_y (.bool ((decide (i3.2.1 ≥ o0.2.1)))) (P_pick (b := (decide (i3.2.1 < (0 : Int)))) rfl (pick_f iA rfl)) rfl rfl q8 rfl ?_
              refine EL_p (.bool ((decide (i3.2.1 ≥ o0.2.1)))) (P_pick (b := (decide (i3.1 ≥ o0.1))) rfl (pick_t q8 rfl)) rfl ?_
              refine EL_mw (.bool ((decide (i3.2.1 ≥ o0.2.1)))) rfl rfl ?_
              rcases csome h with ⟨xE, h⟩ | ⟨xE, h⟩
              ·obtain ⟨yG, gX, h⟩ := bsome h
               refine EL_do (.yes2 rfl rfl xE) rfl (D_call (g := lC) (vs := []) en14 .nil (wk14  gX) fun r00 g04 i06 hs hr => ?_)
               have hfr := hfr.ext hs
               subst hr
               refine EL_p (.bool (yG)) (P_pick (b := (decide (i3.2.1 ≥ o0.2.1))) rfl (pick_t xE rfl)) rfl ?_
               refine EL_at (.bool (yG)) rfl rfl ?_
               refine EL_nil ?_
               obtain rfl := sinj h
               exact hQ _ _ ⟨r00, hfr, rfl⟩
              ·refine EL_s rfl rfl xE rfl rfl ?_
               refine EL_p (.bool false) (P_pick (b := (decide (i3.2.1 ≥ o0.2.1))) rfl (pick_f xE rfl)) rfl ?_
               refine EL_at (.bool false) rfl rfl ?_
               refine EL_nil ?_
               obtain rfl := sinj h
               exact hQ _ _ ⟨lC, hfr, rfl⟩
             ·refine EL_s rfl rfl rC rfl rfl ?_
              refine EL_s rfl rfl rC rfl rfl ?_
              refine EL_s rfl rfl rC rfl rfl ?_
              refine EL_y (.bool false) (P_pick (b := (decide (o0.2.1 ≥ (0 : Int)))) rfl (pick_f rC rfl)) rfl rfl iA rfl ?_
              refine EL_y (.bool false) (P_pick (b := (decide (i3.2.1 < (0 : Int)))) rfl (pick_f iA rfl)) rfl rfl q8 rfl ?_
              refine EL_p (.bool false) (P_pick (b := (decide (i3.1 ≥ o0.1))) rfl (pick_t q8 rfl)) rfl ?_
              refine EL_dead 3 rfl ?_
              refine EL_at (.bool false) rfl rfl ?_
              refine EL_nil ?_
              obtain rfl := sinj h
              exact hQ _ _ ⟨lC, hfr, rfl⟩
           ·refine EL_s rfl rfl q8 rfl rfl ?_
            refine EL_s rfl rfl q8 rfl rfl ?_
            refine EL_s rfl rfl q8 rfl rfl ?_
            refine EL_dead 7 rfl ?_
            refine EL_s rfl rfl q8 rfl rfl ?_
            refine EL_p (.bool false) (P_pick (b := (decide (i3.1 ≥ o0.1))) rfl (pick_f q8 rfl)) rfl ?_
            refine EL_dead 3 rfl ?_
            refine EL_at (.bool false) rfl rfl ?_
            refine EL_nil ?_
            obtain rfl := sinj h
            exact hQ _ _ ⟨lC, hfr, rfl⟩
          ·refine EL_s rfl rfl qC rfl rfl ?_
           refine EL_s rfl rfl qC rfl rfl ?_
           refine EL_s rfl rfl qC rfl rfl ?_
           refine EL_y (.bool false) (P_pick (b := (decide (o0.1 ≥ (0 : Int)))) rfl (pick_f qC rfl)) rfl rfl bA rfl ?_
           refine EL_y (.bool false) (P_pick (b := (decide (i3.1 < (0 : Int)))) rfl (pick_f bA rfl)) rfl rfl n8 rfl ?_
           refine EL_p (.bool false) (P_pick (b := (i3.2.2 == (0 : Int))) rfl (pick_t n8 rfl)) rfl ?_
           refine EL_dead 16 rfl ?_
           refine EL_at (.bool false) rfl rfl ?_
           refine EL_nil ?_
           obtain rfl := sinj h
           exact hQ _ _ ⟨lC, hfr, rfl⟩
        ·refine EL_s rfl rfl n8 rfl rfl ?_
         refine EL_s rfl rfl n8 rfl rfl ?_
         refine EL_s rfl rfl n8 rfl rfl ?_
         refine EL_dead 7 rfl ?_
         refine EL_s rfl rfl n8 rfl rfl ?_
         refine EL_p (.bool false) (P_pick (b := (i3.2.2 == (0 : Int))) rfl (pick_f n8 rfl)) rfl ?_
         refine EL_dead 16 rfl ?_
         refine EL_at (.bool false) rfl rfl ?_
         refine EL_nil ?_
         obtain rfl := sinj h
         exact hQ _ _ ⟨lC, hfr, rfl⟩
       ·clear hx
        obtain ⟨j06, hfr, yS⟩ := hR
        refine E_ret ?_
        obtain rfl := sinj h
        exact end1 rfl rfl (show _ = .bool (eF) from yS) ⟨_, hfr, rfl⟩
end Go.Proofs.Ytmpjooneiaiffaa
