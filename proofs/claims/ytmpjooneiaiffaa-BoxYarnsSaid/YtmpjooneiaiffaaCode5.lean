import Derived.Test.YtmpjooneiaiffaaCode4
set_option maxRecDepth 8000
set_option maxHeartbeats 4000000
namespace Go.Proofs.Ytmpjooneiaiffaa
open Go.RowKit
def f29 (x0 : BoxLoom) (x1 : List BoxPick) : Option ((List Span) × Int × Int) :=
 (f70 x0 x1).bind fun y5 =>
 jn (σ := (List Span)) (fun z9 =>
  Option.bind (α := (List Span)) (
   lp (σ := (List Span) × Int) (fun k48 (m8, i5) =>
    bif (decide (i5 < ((((y5.1).BoxLoom).Shuttles).length : Int))) then
     Option.bind (α := (List Span)) (
      (idx (((y5.1).BoxLoom).Shuttles) i5).bind fun dB =>
      (apnd 16 m8 (([(dB).Yarn] : List Span))).bind fun y71 =>
      some (y71)
      ) fun i7 =>
     k48 (i7, (w64 (i5 + (1 : Int))))
    else
     some (m8)
    ) big (z9, (0 : Int))
   ) fun n8 =>
  Option.bind (α := (List Span)) (
   lp (σ := (List Span) × Int) (fun iB (v6, o0) =>
    bif (decide (o0 < (((y5.2.1).thrown).length : Int))) then
     Option.bind (α := (List Span)) (
      (idx ((y5.2.1).thrown) o0).bind fun i6 =>
      (idx v6 (w64 (i6 - (1 : Int)))).bind fun y130 =>
      (idx v6 (w64 (i6 - (1 : Int)))).bind fun zD =>
      some ((List.set v6 (Int.toNat (w64 (i6 - (1 : Int)))) ((⟨(max64 (0 : Int) (w64 ((y130).Low - (1 : Int)))), (max64 (0 : Int) (w64 ((y130).High - (1 : Int))))⟩ : Span))))
      ) fun y6 =>
     iB (y6, (w64 (o0 + (1 : Int))))
    else
     some (v6)
    ) big (n8, (0 : Int))
   ) fun j7 =>
  some (j7, (0 : Int), (0 : Int))
  ) fun sD =>
 bif (y5.2.2.2 != (0 : Int)) then
  some (([] : List Span), y5.2.2.1, y5.2.2.2)
 else
  sD (([] : List Span))
theorem en29 : Enters Try.prog 29 := enters_of Try.func29 (by kernel_rfl) rfl
theorem wk29 {gI : Gh} {wI : World} {x0 : BoxLoom} {x1 : List BoxPick} {up0 : Value} (rp0 : RV gI.m wI x0 up0) {up1 : Value} (rp1 : RV gI.m wI x1 up1) {r : (List Span) × Int × Int} (h : f29 x0 x1 = some r) : Fn Try.prog 29 #[up0, up1] gI wI (fun m w v => ∃ y0 y1 y2, v = .tuple #[y0, y1, y2] ∧ RV m w (r.1) y0 ∧ y1 = .int .i64 (r.2.1) ∧ y2 = .int .i64 (r.2.2)) := by
 unfold f29 at h
 refine fn_of_E Try.func29 rfl (Nat.le_of_ble_eq_true rfl) fun g0 hm hfr => ?_
 have rp0 : RV g0.m wI x0 up0 := hm ▸ rp0
 have rp1 : RV g0.m wI x1 up1 := hm ▸ rp1
 show E _ 67 none _ _ _ _ _
 refine E_seq (E_region (EL_do .plain rfl (D_box (g := g0) rfl rp0 fun g1 w1 p1 hs q1 => ?_)))
 have hfr := hfr.ext hs
 have rp1 := rp1.ext hs
 refine EL_at (.slice none 0 0) rfl rfl ?_
 have b2 : OA 4004 g1 w1 85 ([] : List Span) (.slice none 0 0) := OA.nil
 refine EL_at (.int .i64 (0)) rfl rfl ?_
 refine EL_at (.int .i64 (0)) rfl rfl ?_
 refine EL_nil (thn_n (E_seq (E_region (EL_do .plain rfl (D_load (g := g1) Try.isAgg25 Try.sizeOf25 rfl q1 fun v3 r3 => ?_)))))
 refine EL_mw up1 rfl rfl ?_
 obtain ⟨y5, hy5, h⟩ := bsome h
 refine EL_do .plain rfl (D_call (g := g1) (vs := [v3, up1]) en70 (.cons rfl (.cons rfl .nil)) (wk70 r3 rp1 hy5) fun g4 w4_ v4 hs hr => ?_)
 have hfr := hfr.ext hs
 have b2 := b2.ext hs
 obtain ⟨k9, l9, nF, oF, rfl, m7, x6, rfl, rfl⟩ := hr
 refine EL_mw (.tuple #[k9, l9, .int .i64 (y5.2.2.1), .int .i64 (y5.2.2.2)]) rfl rfl ?_
 refine EL_p k9 (P_extract rfl rfl) rfl ?_
 refine EL_p l9 (P_extract rfl rfl) rfl ?_
 refine EL_p (.int .i64 (y5.2.2.1)) (P_extract rfl rfl) rfl ?_
 refine EL_p (.int .i64 (y5.2.2.2)) (P_extract rfl rfl) rfl ?_
 refine EL_do .plain rfl (D_allocOc (g := g4) 2007 (⟨⟨[], [], []⟩⟩ : BoxBoxLoom) Try.zeroValue102 (fun m w => ⟨_, (rep_two rep_nil (rep_two rep_nil rep_nil)), rfl⟩) fun g6 w6 p6 hs b6 cb => ?_)
 have hfr := hfr.stp hs
 have b2 := b2.stp hs rfl
 have m7 := m7.stp hs
 have x6 := x6.stp hs
 have pF : OSF 2007 60700 0 g6 w6 3 102 ([] : List Int) p6 := cb.osf (by rfl)
 have qF : OSF 2007 60701 1 g6 w6 3 102 ([] : List Int) p6 := cb.osf (by rfl)
 have rF : OSF 2007 60702 2 g6 w6 87 102 ([] : List BoxShuttle) p6 := cb.osf (by rfl)
 clear cb
 refine EL_do .plain rfl (D_allocOc (g := g6) 2008 (⟨[], ⟨(⟨List.toArray [(⟨List.toArray [0, 0, 0, 0], rfl⟩ : Vector Int 4), (⟨List.toArray [0, 0, 0, 0], rfl⟩ : Vector Int 4)], rfl⟩ : Vector (Vector Int 4) 2), ⟨0, 0⟩⟩, 0⟩ : BoxRun) Try.zeroValue129 (fun m w => ⟨_, (rep_two rep_nil (rep_two (rep_two (rep_vec (flat_chunk (rep_vec (flat_chunk rep_int (flat_chunk rep_int (flat_chunk rep_int (flat_chunk rep_int flat_nil)))) rfl) (flat_chunk (rep_vec (flat_chunk rep_int (flat_chunk rep_int (flat_chunk rep_int (flat_chunk rep_int flat_nil)))) rfl) flat_nil)) rfl) (rep_two rep_int rep_int)) rep_int)), rfl⟩) fun g7 w7 p7 hs b7 cb => ?_)
 have hfr := hfr.stp hs
 have b2 := b2.stp hs rfl
 have m7 := m7.stp hs
 have x6 := x6.stp hs
 have b6 := b6.stp hs rfl
 have sF : OSF 2008 60800 0 g7 w7 3 129 ([] : List Int) p7 := cb.osf (by rfl)
 clear cb
 refine EL_do .plain rfl (D_storeOc (g := g7) (v := k9) Try.sizeOf102 rfl b6 rfl m7 fun g8 w8 hs b8 cb => ?_)
 clear cb
 have hfr := hfr.stp hs
 have b2 := b2.stp hs rfl
 have x6 := x6.stp hs
 have b7 := b7.stp hs rfl
 refine EL_do .plain rfl (D_storeOc (g := g8) (v := l9) Try.sizeOf129 rfl b7 rfl x6 fun g9 w9 hs b9 cb => ?_)
 clear cb
 have hfr := hfr.stp hs
 have b2 := b2.stp hs rfl
 have b8 := b8.stp hs rfl
 refine EL_at (.int .i64 (y5.2.2.1)) rfl rfl ?_
 refine EL_at (.int .i64 (y5.2.2.2)) rfl rfl ?_
 refine EL_nil (thn_n (E_joinC h (fun (s : (List Span)) e w => ∃ (g : Gh) (v4 : Value), Fr gI wI g w ∧ e 4 = v4 ∧ OA 4004 g w 85 (s : List Span) v4 ∧ e 7 = p6 ∧ OB 2007 g w 102 (y5.1 : BoxBoxLoom) p6 ∧ e 8 = p7 ∧ OB 2008 g w 129 (y5.2.1 : BoxRun) p7) (fun X13 sD aE h => ?_) ?_))
 ·refine E_seq (E_region (EL_mw (.int .i64 (y5.2.2.2)) rfl rfl ?_))
  refine EL_in (.bool ((y5.2.2.2 != (0 : Int)))) rfl rfl rfl rfl ?_
  refine EL_nil (thn_n ?_)
  rcases csome h with ⟨n9, h⟩ | ⟨n9, h⟩
  ·refine E_ct n9 rfl ?_
   refine E_seq (E_region (EL_mw (.int .i64 (y5.2.2.1)) rfl rfl ?_))
   refine EL_mw (.int .i64 (y5.2.2.2)) rfl rfl ?_
   refine EL_at (.slice none 0 0) rfl rfl ?_
   have b15 : OA 4004 g9 w9 85 ([] : List Span) (.slice none 0 0) := OA.nil
   refine EL_at (.int .i64 (y5.2.2.1)) rfl rfl ?_
   refine EL_at (.int .i64 (y5.2.2.2)) rfl rfl ?_
   refine EL_nil (thn_n (E_ret (thn_r ?_)))
   obtain ⟨gp16, hs, rp16⟩ := OM.pub (b15.toM)
   have hfr := hfr.stp hs
   obtain rfl := sinj h
   exact end3 rfl rfl (show _ = .slice none 0 0 from rfl) (show _ = .int .i64 (y5.2.2.1) from rfl) (show _ = .int .i64 (y5.2.2.2) from rfl) ⟨_, hfr, _, _, _, rfl, rp16, rfl, rfl⟩
  ·refine E_cf n9 rfl ?_
   exact E_skip (thn_n (aE (([] : List Span)) _ _ ⟨g9, (.slice none 0 0), hfr, rfl, b2, rfl, b8, rfl, b9⟩ h))
 ·rintro z9 tF iG ⟨tD, mC, hfr, qC, rC, uC, q8, vC, aD⟩ h
  obtain ⟨n8, hx, h⟩ := bsome h
  refine E_join (fun e w => ∃ (g : Gh) (v4 : Value), Fr gI wI g w ∧ e 4 = v4 ∧ OA 4004 g w 85 (n8 : List Span) v4 ∧ e 8 = p7 ∧ OB 2008 g w 129 (y5.2.1 : BoxRun) p7) (fun Q' hQ => ?_) (fun uF jG hR => ?_)
  ·replace h := hx
   clear hx
   refine E_seq (E_region (EL_p (fPtr p6 0) (P_fieldAddr at_102_0 uC (OB.ptr q8)) rfl ?_))
   refine EL_p (fPtr p6 2) (P_fieldAddr2 (o1 := 0) rfl at_25_2 rfl (OB.ptr q8)) rfl ?_
   refine EL_do .plain rfl (D_loadF (g := tD) (SubS.comp part_BoxBoxLoom_0 part_BoxLoom_2 rfl).1 Try.isAgg23 Try.sizeOf23 rfl q8 fun x8 uD => ?_)
   refine EL_p (.int .i64 ((((y5.1).BoxLoom).Shuttles).length : Int)) (P_len Try.underlying23 rfl uD) rfl ?_
   refine EL_mw (.int .i64 (0)) rfl rfl ?_
   refine EL_nil (thn_n (E_block ?_))
   refine E_lp h (fun (s : (List Span) × Int) e w => ∃ (g : Gh) (v4 : Value), Fr gI wI g w ∧ e 4 = v4 ∧ OA 4004 g w 85 (s.1 : List Span) v4 ∧ e 8 = p7 ∧ OB 2008 g w 129 (y5.2.1 : BoxRun) p7 ∧ e 28 = x8 ∧ RV g.m w (((y5.1).BoxLoom).Shuttles : List BoxShuttle) x8 ∧ e 29 = .int .i64 (((((y5.1).BoxLoom).Shuttles).length : Int)) ∧ e 30 = .int .i64 (s.2)) ⟨tD, (mC), hfr, qC, rC, vC, aD, rfl, uD, rfl, rfl⟩ (fun X48 k48 bE => ?_)
   rintro ⟨m8, i5⟩ vF kG ⟨jB, bD, hfr, bA, j6, gA, t5, a9, i3, d9, v7⟩ h
   refine E_seq (E_region (EL_p (.bool ((decide (i5 < ((((y5.1).BoxLoom).Shuttles).length : Int))))) (P_int v7 d9 rfl) rfl ?_))
   refine EL_nil (thn_n (E_seq ?_))
   rcases csome h with ⟨u9, h⟩ | ⟨u9, h⟩
   ·refine E_ct u9 rfl ?_
    refine E_skip (thn_n ?_)
    obtain ⟨i7, hx, h⟩ := bsome h
    refine E_join (fun e w => ∃ (g : Gh) (v4 : Value), Fr gI wI g w ∧ e 4 = v4 ∧ OA 4004 g w 85 (i7 : List Span) v4 ∧ e 8 = p7 ∧ OB 2008 g w 129 (y5.2.1 : BoxRun) p7 ∧ e 28 = x8 ∧ RV g.m w (((y5.1).BoxLoom).Shuttles : List BoxShuttle) x8 ∧ e 29 = .int .i64 (((((y5.1).BoxLoom).Shuttles).length : Int)) ∧ e 30 = .int .i64 (i5)) (fun Q' hQ => ?_) (fun xF lG hR => ?_)
    ·replace h := hx
     clear hx
     refine E_block ?_
     refine E_seq (E_region ?_)
     obtain ⟨dB, lB, h⟩ := bsome h
     refine EL_p (ePtr x8 i5 5) (P_indexAddr (α := BoxShuttle) Try.underlying23 Try.sizeOf87 a9 i3 v7 lB) rfl ?_
     have q62 := PT_idx i3 lB
     refine EL_do .plain rfl (D_load (g := jB) Try.isAgg87 Try.sizeOf87 rfl q62 fun rE mB => ?_)
     refine EL_do .plain rfl (D_allocOc (g := jB) 2010 (⟨0, 0, 0, ⟨0, 0⟩⟩ : BoxShuttle) Try.zeroValue87 (fun m w => ⟨_, (rep_two rep_int (rep_two rep_int (rep_two rep_int (rep_two rep_int rep_int)))), rfl⟩) fun sE mG tE hs b65 cb => ?_)
     have hfr := hfr.stp hs
     have j6 := j6.stp hs rfl
     have t5 := t5.stp hs rfl
     have i3 := i3.stp hs
     have mB := mB.stp hs
     clear cb
     refine EL_do .plain rfl (D_storeOc (g := sE) (v := rE) Try.sizeOf87 rfl b65 rfl mB fun vD nG hs b66 cb => ?_)
     clear cb
     have hfr := hfr.stp hs
     have j6 := j6.stp hs rfl
     have t5 := t5.stp hs rfl
     have i3 := i3.stp hs
     refine EL_nil (thn_n (E_region (EL_mv bA rfl ?_)))
     refine EL_p (fPtr tE 3) (P_fieldAddr at_87_3 rfl (OB.ptr b66)) rfl ?_
     refine EL_do .plain rfl (D_loadF (g := vD) part_BoxShuttle_3.1 Try.isAgg85 Try.sizeOf85 rfl b66 fun uE vE => ?_)
     refine EL_do .plain rfl (D_buildSlice (g := vD) 3037 (xs := ([(dB).Yarn] : List Span)) (vs := [uE]) Try.underlying51 Try.sizeOf85 Try.zeroValue85 rfl rfl (.cons rfl .nil) (RVs.cons vE RVs.nil) rfl rfl fun xE oG pG hs o69 yE hxt hfl => ?_)
     have hfr := hfr.stp hs
     have j6 := j6.stp hs rfl
     have t5 := t5.stp hs rfl
     have i3 := i3.stp hs
     obtain ⟨y71, cE, h⟩ := bsome h
     refine EL_do .plain rfl (D_appendA (g := xE) plain_Span (i := 4004) Try.underlying51 info_85 rfl rfl j6 rfl yE cE fun zE qG xD hs b70 => ?_)
     have hfr := hfr.stp hs
     have t5 := t5.stp hs rfl
     have i3 := i3.stp hs
     refine EL_at xD rfl rfl ?_
     refine EL_nil (blk_n ?_)
     obtain rfl := sinj h
     exact hQ _ _ ⟨zE, (xD), hfr, rfl, b70, gA, t5, a9, i3, d9, v7⟩
    ·clear hx
     obtain ⟨cF, cD, hfr, eD, gD, iD, jD, nB, oB, tB, vB⟩ := hR
     refine E_region (EL_in (.int .i64 ((w64 (i5 + (1 : Int))))) vB rfl rfl rfl ?_)
     refine EL_mw (.int .i64 ((w64 (i5 + (1 : Int))))) rfl rfl ?_
     exact EL_nil (thn_n (bE (i7, (w64 (i5 + (1 : Int)))) _ _ ⟨cF, (cD), hfr, eD, gD, iD, jD, nB, oB, tB, rfl⟩ h))
   ·refine E_cf u9 rfl ?_
    refine E_exit ?_
    refine thn_e ?_
    refine thn_e ?_
    refine blk_hit ?_
    obtain rfl := sinj h
    exact hQ _ _ ⟨jB, (bD), hfr, bA, j6, gA, t5⟩
  ·clear hx
   obtain ⟨yD, x5, hfr, kD, lD, mD, iA⟩ := hR
   obtain ⟨j7, hx, h⟩ := bsome h
   refine E_join (fun e w => ∃ (g : Gh) , Fr gI wI g w ∧ e 4 = x5 ∧ OA 4004 g w 85 (j7 : List Span) x5) (fun Q' hQ => ?_) (fun dF yF hR => ?_)
   ·replace h := hx
    clear hx
    refine E_seq (E_region (EL_p (fPtr p7 0) (P_fieldAddr at_129_0 mD (OB.ptr iA)) rfl ?_))
    refine EL_do .plain rfl (D_loadF (g := yD) part_BoxRun_0.1 Try.isAgg22 Try.sizeOf22 rfl iA fun i8 yB => ?_)
    refine EL_p (.int .i64 (((y5.2.1).thrown).length : Int)) (P_len Try.underlying22 rfl yB) rfl ?_
    refine EL_mw (.int .i64 (0)) rfl rfl ?_
    refine EL_nil (thn_n (E_block ?_))
    refine E_lp h (fun (s : (List Span) × Int) e w => ∃ (g : Gh) , Fr gI wI g w ∧ e 4 = x5 ∧ OA 4004 g w 85 (s.1 : List Span) x5 ∧ e 41 = i8 ∧ RV g.m w ((y5.2.1).thrown : List Int) i8 ∧ e 42 = .int .i64 ((((y5.2.1).thrown).length : Int)) ∧ e 43 = .int .i64 (s.2)) ⟨yD, hfr, kD, lD, rfl, yB, rfl, rfl⟩ (fun X110 iB nD => ?_)
    rintro ⟨v6, o0⟩ eF zF ⟨r8, hfr, a7, l5, k8, u3, l8, d7⟩ h
    refine E_seq (E_region (EL_p (.bool ((decide (o0 < (((y5.2.1).thrown).length : Int))))) (P_int d7 l8 rfl) rfl ?_))
    refine EL_nil (thn_n (E_seq ?_))
    rcases csome h with ⟨t8, h⟩ | ⟨t8, h⟩
    ·refine E_ct t8 rfl ?_
     refine E_skip (thn_n ?_)
     obtain ⟨y6, hx, h⟩ := bsome h
     refine E_join (fun e w => ∃ (g : Gh) , Fr gI wI g w ∧ e 4 = x5 ∧ OA 4004 g w 85 (y6 : List Span) x5 ∧ e 41 = i8 ∧ RV g.m w ((y5.2.1).thrown : List Int) i8 ∧ e 42 = .int .i64 ((((y5.2.1).thrown).length : Int)) ∧ e 43 = .int .i64 (o0)) (fun Q' hQ => ?_) (fun iF aG hR => ?_)
     ·replace h := hx
      clear hx
      refine E_block ?_
      refine E_seq (E_region ?_)
      obtain ⟨i6, jA, h⟩ := bsome h
      refine EL_p (ePtr i8 o0 1) (P_indexAddr (α := Int) Try.underlying22 Try.sizeOf3 k8 u3 d7 jA) rfl ?_
      have dE := PT_idx u3 jA
      refine EL_do .plain rfl (D_load (g := r8) Try.isAgg3 Try.sizeOf3 rfl dE fun bG eE => ?_)
      obtain rfl := RV_int.1 eE
      refine EL_at (.int .i64 (i6)) rfl rfl ?_
      refine EL_nil (thn_n (E_seq (E_region (EL_mv a7 rfl ?_))))
      refine EL_mw (.int .i64 (i6)) rfl rfl ?_
      refine EL_in (.int .i64 ((w64 (i6 - (1 : Int))))) rfl rfl rfl rfl ?_
      obtain ⟨y130, mA, h⟩ := bsome h
      refine EL_p (ePtr x5 (w64 (i6 - (1 : Int))) 2) (P_indexAddrM (α := Span) Try.underlying51 Try.sizeOf85 rfl (l5.toM) rfl mA) rfl ?_
      refine EL_do .plain rfl (D_loadM (g := r8) Try.isAgg85 Try.sizeOf85 rfl (l5.toM) mA fun gE y9 => ?_)
      refine EL_do .plain rfl (D_allocOc (g := r8) 2013 (⟨0, 0⟩ : Span) Try.zeroValue85 (fun m w => ⟨_, (rep_two rep_int rep_int), rfl⟩) fun iE cG zB hs b132 cb => ?_)
      have hfr := hfr.stp hs
      have l5 := l5.stp hs rfl
      have u3 := u3.stp hs
      have y9 := y9.stp hs
      clear cb
      refine EL_do .plain rfl (D_storeOc (g := iE) (v := gE) Try.sizeOf85 rfl b132 rfl y9 fun v8 jE hs b133 cb => ?_)
      clear cb
      have hfr := hfr.stp hs
      have l5 := l5.stp hs rfl
      have u3 := u3.stp hs
      refine EL_nil (thn_n (E_region (EL_mv a7 rfl ?_)))
      refine EL_mw (.int .i64 (i6)) rfl rfl ?_
      refine EL_in (.int .i64 ((w64 (i6 - (1 : Int))))) rfl rfl rfl rfl ?_
      refine EL_p (fPtr zB 0) (P_fieldAddr at_85_0 rfl (OB.ptr b133)) rfl ?_
      refine EL_do .plain rfl (D_loadF (g := v8) part_Span_0.1 Try.isAgg3 Try.sizeOf3 rfl b133 fun dG kE => ?_)
      obtain rfl := RV_int.1 kE
      refine EL_in (.int .i64 ((w64 ((y130).Low - (1 : Int))))) rfl rfl rfl rfl ?_
      refine EL_p (.int .i64 (max64 (0 : Int) (w64 ((y130).Low - (1 : Int))))) (P_max rfl rfl) rfl ?_
      refine EL_p (fPtr zB 1) (P_fieldAddr at_85_1 rfl (OB.ptr b133)) rfl ?_
      refine EL_do .plain rfl (D_loadF (g := v8) part_Span_1.1 Try.isAgg3 Try.sizeOf3 rfl b133 fun eG lE => ?_)
      obtain rfl := RV_int.1 lE
      refine EL_in (.int .i64 ((w64 ((y130).High - (1 : Int))))) rfl rfl rfl rfl ?_
      refine EL_p (.int .i64 (max64 (0 : Int) (w64 ((y130).High - (1 : Int))))) (P_max rfl rfl) rfl ?_
      have aC : RV v8.m jE (⟨(max64 (0 : Int) (w64 ((y130).Low - (1 : Int)))), (max64 (0 : Int) (w64 ((y130).High - (1 : Int))))⟩ : Span) (.agg (setCh [[.int .i64 0], [.int .i64 0]] [(0, .int .i64 (max64 (0 : Int) (w64 ((y130).Low - (1 : Int))))), (1, .int .i64 (max64 (0 : Int) (w64 ((y130).High - (1 : Int)))))]).flatten.toArray) := RV_build rfl (rep_pair (rfl) (rep_last (rfl)))
      generalize oD : (Value.agg (setCh [[.int .i64 0], [.int .i64 0]] [(0, .int .i64 (max64 (0 : Int) (w64 ((y130).Low - (1 : Int))))), (1, .int .i64 (max64 (0 : Int) (w64 ((y130).High - (1 : Int)))))]).flatten.toArray) = mE at aC
      refine EL_p mE (oD ▸ P_build (vs := [(0, .int .i64 (max64 (0 : Int) (w64 ((y130).Low - (1 : Int))))), (1, .int .i64 (max64 (0 : Int) (w64 ((y130).High - (1 : Int)))))]) [[.int .i64 0], [.int .i64 0]] lay_85 rfl rfl (.cons rfl (.cons rfl .nil)) ⟨⟨_, rfl, rfl⟩, ⟨⟨_, rfl, rfl⟩, trivial⟩⟩) rfl ?_
      obtain ⟨zD, pA, h⟩ := bsome h
      refine EL_p (ePtr x5 (w64 (i6 - (1 : Int))) 2) (P_indexAddrM (α := Span) Try.underlying51 Try.sizeOf85 rfl (l5.toM) rfl pA) rfl ?_
      refine EL_do .plain rfl (D_storeA (g := v8) (α := Span) (a' := ((⟨(max64 (0 : Int) (w64 ((y130).Low - (1 : Int)))), (max64 (0 : Int) (w64 ((y130).High - (1 : Int))))⟩ : Span))) Try.sizeOf85 rfl l5 pA rfl aC fun nE gG hs b140 => ?_)
      have hfr := hfr.stp hs
      have u3 := u3.stp hs
      refine EL_nil (blk_n ?_)
      obtain rfl := sinj h
      exact hQ _ _ ⟨nE, hfr, a7, b140, k8, u3, l8, d7⟩
     ·clear hx
      obtain ⟨oE, hfr, cC, eC, qA, rA, yA, aB⟩ := hR
      refine E_region (EL_in (.int .i64 ((w64 (o0 + (1 : Int))))) aB rfl rfl rfl ?_)
      refine EL_mw (.int .i64 ((w64 (o0 + (1 : Int))))) rfl rfl ?_
      exact EL_nil (thn_n (nD (y6, (w64 (o0 + (1 : Int)))) _ _ ⟨oE, hfr, cC, eC, qA, rA, yA, rfl⟩ h))
    ·refine E_cf t8 rfl ?_
     refine E_exit ?_
     refine thn_e ?_
     refine thn_e ?_
     refine blk_hit ?_
     obtain rfl := sinj h
     exact hQ _ _ ⟨r8, hfr, a7, l5⟩
   ·clear hx
    obtain ⟨hG, hfr, iC, lC⟩ := hR
    refine E_seq (E_region (EL_mv iC rfl ?_))
    refine EL_at x5 rfl rfl ?_
    refine EL_at (.int .i64 (0)) rfl rfl ?_
    refine EL_at (.int .i64 (0)) rfl rfl ?_
    refine EL_nil (thn_n (E_ret ?_))
    obtain ⟨gp143, hs, rp143⟩ := OM.pub (lC.toM)
    have hfr := hfr.stp hs
    obtain rfl := sinj h
    exact end3 rfl rfl (show _ = x5 from rfl) (show _ = .int .i64 (0) from rfl) (show _ = .int .i64 (0) from rfl) ⟨_, hfr, _, _, _, rfl, rp143, rfl, rfl⟩
def f30 (x0 : BoxLoom) (x1 : List BoxPick) : Option (Int × Int × Int) :=
 (f70 x0 x1).bind fun y4 =>
 jn (σ := Unit) (fun _ =>
  (f73 (y4.1) ((y4.2.1).thrown) ((fun a0 => f71 a0))).bind fun i5 =>
  (f73 (y4.1) ((y4.2.1).thrown) ((fun a0 => f72 a0))).bind fun l5 =>
  some (i5, l5, (0 : Int))
  ) fun y6 =>
 bif (y4.2.2.2 != (0 : Int)) then
  some ((0 : Int), (0 : Int), y4.2.2.2)
 else
  y6 ()
theorem en30 : Enters Try.prog 30 := enters_of Try.func30 (by kernel_rfl) rfl
theorem wk30 {gI : Gh} {wI : World} {x0 : BoxLoom} {x1 : List BoxPick} {up0 : Value} (rp0 : RV gI.m wI x0 up0) {up1 : Value} (rp1 : RV gI.m wI x1 up1) {r : Int × Int × Int} (h : f30 x0 x1 = some r) : Fn Try.prog 30 #[up0, up1] gI wI (fun m w v => ∃ y0 y1 y2, v = .tuple #[y0, y1, y2] ∧ y0 = .int .i64 (r.1) ∧ y1 = .int .i64 (r.2.1) ∧ y2 = .int .i64 (r.2.2)) := by
 unfold f30 at h
 refine fn_of_E Try.func30 rfl (Nat.le_of_ble_eq_true rfl) fun g0 hm hfr => ?_
 have rp0 : RV g0.m wI x0 up0 := hm ▸ rp0
 have rp1 : RV g0.m wI x1 up1 := hm ▸ rp1
 show E _ 33 none _ _ _ _ _
 refine E_seq (E_region (EL_do .plain rfl (D_box (g := g0) rfl rp0 fun g1 w1 p1 hs q1 => ?_)))
 have hfr := hfr.ext hs
 have rp1 := rp1.ext hs
 iterate 3 refine EL_at (.int .i64 (0)) rfl rfl ?_
 refine EL_nil (thn_n (E_seq (E_region (EL_do .plain rfl (D_load (g := g1) Try.isAgg25 Try.sizeOf25 rfl q1 fun v2 r2 => ?_)))))
 refine EL_mw up1 rfl rfl ?_
 obtain ⟨y4, q8, h⟩ := bsome h
 refine EL_do .plain rfl (D_call (g := g1) (vs := [v2, up1]) en70 (.cons rfl (.cons rfl .nil)) (wk70 r2 rp1 q8) fun g3 w3_ v3 hs hr => ?_)
 have hfr := hfr.ext hs
 obtain ⟨t5, x5, d9, k9, rfl, u3, o0, rfl, rfl⟩ := hr
 refine EL_mw (.tuple #[t5, x5, .int .i64 (y4.2.2.1), .int .i64 (y4.2.2.2)]) rfl rfl ?_
 refine EL_p t5 (P_extract rfl rfl) rfl ?_
 refine EL_p x5 (P_extract rfl rfl) rfl ?_
 refine EL_p (.int .i64 (y4.2.2.1)) (P_extract rfl rfl) rfl ?_
 refine EL_p (.int .i64 (y4.2.2.2)) (P_extract rfl rfl) rfl ?_
 refine EL_do .plain rfl (D_allocOc (g := g3) 2007 (⟨⟨[], [], []⟩⟩ : BoxBoxLoom) Try.zeroValue102 (fun m w => ⟨_, (rep_two rep_nil (rep_two rep_nil rep_nil)), rfl⟩) fun g5 w5 p5 hs b5 cb => ?_)
 have hfr := hfr.stp hs
 have u3 := u3.stp hs
 have o0 := o0.stp hs
 have l9 : OSF 2007 60700 0 g5 w5 3 102 ([] : List Int) p5 := cb.osf (by rfl)
 have n9 : OSF 2007 60701 1 g5 w5 3 102 ([] : List Int) p5 := cb.osf (by rfl)
 have u9 : OSF 2007 60702 2 g5 w5 87 102 ([] : List BoxShuttle) p5 := cb.osf (by rfl)
 clear cb
 refine EL_do .plain rfl (D_allocOc (g := g5) 2008 (⟨[], ⟨(⟨List.toArray [(⟨List.toArray [0, 0, 0, 0], rfl⟩ : Vector Int 4), (⟨List.toArray [0, 0, 0, 0], rfl⟩ : Vector Int 4)], rfl⟩ : Vector (Vector Int 4) 2), ⟨0, 0⟩⟩, 0⟩ : BoxRun) Try.zeroValue129 (fun m w => ⟨_, (rep_two rep_nil (rep_two (rep_two (rep_vec (flat_chunk (rep_vec (flat_chunk rep_int (flat_chunk rep_int (flat_chunk rep_int (flat_chunk rep_int flat_nil)))) rfl) (flat_chunk (rep_vec (flat_chunk rep_int (flat_chunk rep_int (flat_chunk rep_int (flat_chunk rep_int flat_nil)))) rfl) flat_nil)) rfl) (rep_two rep_int rep_int)) rep_int)), rfl⟩) fun g6 w6 p6 hs b6 cb => ?_)
 have hfr := hfr.stp hs
 have u3 := u3.stp hs
 have o0 := o0.stp hs
 have b5 := b5.stp hs rfl
 have y9 : OSF 2008 60800 0 g6 w6 3 129 ([] : List Int) p6 := cb.osf (by rfl)
 clear cb
 refine EL_do .plain rfl (D_storeOc (g := g6) (v := t5) Try.sizeOf102 rfl b5 rfl u3 fun g7 w7 hs b7 cb => ?_)
 clear cb
 have hfr := hfr.stp hs
 have o0 := o0.stp hs
 have b6 := b6.stp hs rfl
 refine EL_do .plain rfl (D_storeOc (g := g7) (v := x5) Try.sizeOf129 rfl b6 rfl o0 fun g8 w8 hs b8 cb => ?_)
 clear cb
 have hfr := hfr.stp hs
 have b7 := b7.stp hs rfl
 refine EL_at (.int .i64 (y4.2.2.1)) rfl rfl ?_
 refine EL_at (.int .i64 (y4.2.2.2)) rfl rfl ?_
 refine EL_nil (thn_n (E_joinC h (fun (s : Unit) e w => ∃ (g : Gh) , Fr gI wI g w ∧ e 7 = p5 ∧ OB 2007 g w 102 (y4.1 : BoxBoxLoom) p5 ∧ e 8 = p6 ∧ OB 2008 g w 129 (y4.2.1 : BoxRun) p6) (fun X10 y6 m7 h => ?_) ?_))
 ·refine E_seq (E_region (EL_mw (.int .i64 (y4.2.2.2)) rfl rfl ?_))
  refine EL_in (.bool ((y4.2.2.2 != (0 : Int)))) rfl rfl rfl rfl ?_
  refine EL_nil (thn_n ?_)
  rcases csome h with ⟨i6, h⟩ | ⟨i6, h⟩
  ·refine E_ct i6 rfl ?_
   refine E_seq (E_region (EL_mw (.int .i64 (y4.2.2.2)) rfl rfl ?_))
   refine EL_at (.int .i64 (0)) rfl rfl ?_
   refine EL_at (.int .i64 (0)) rfl rfl ?_
   refine EL_at (.int .i64 (y4.2.2.2)) rfl rfl ?_
   refine EL_nil (thn_n (E_ret (thn_r ?_)))
   obtain rfl := sinj h
   exact end3 rfl rfl (show _ = .int .i64 (0) from rfl) (show _ = .int .i64 (0) from rfl) (show _ = .int .i64 (y4.2.2.2) from rfl) ⟨_, hfr, _, _, _, rfl, rfl, rfl, rfl⟩
  ·refine E_cf i6 rfl ?_
   exact E_skip (thn_n (m7 () _ _ ⟨g8, hfr, rfl, b7, rfl, b8⟩ h))
 ·rintro _ z9 bA ⟨r8, hfr, j6, v6, x6, i3⟩ h
  refine E_seq (E_region (EL_at (.func (.func 71) #[] #[]) rfl rfl ?_))
  refine EL_at (.func (.func 72) #[] #[]) rfl rfl ?_
  refine EL_nil (thn_n (E_seq (L_loadO0 (x := .tmp 7) Try.isAgg102 Try.sizeOf102 v6 fun a7 t8 v7 => ?_)))
  refine L_loadO (x := .tmp 24) part_BoxRun_0.1 Try.isAgg22 Try.sizeOf22 i3 fun d7 v8 i8 => ?_
  obtain ⟨i5, k8, h⟩ := bsome h
  refine L_loadO0 (x := .tmp 7) Try.isAgg102 Try.sizeOf102 v6 fun i7 x8 l8 => ?_
  refine L_loadO (x := .tmp 29) part_BoxRun_0.1 Try.isAgg22 Try.sizeOf22 i3 fun j7 a9 m8 => ?_
  obtain ⟨l5, n8, h⟩ := bsome h
  refine E_drawL (g := r8) (n := 13) [(4, (fun v g w => v = .int .i64 (i5))), (9, (fun v g w => v = .int .i64 (l5)))] [0, 1, 2, 3, 4, 5, 6, 7, 8, 9, 10, 11, 12] rfl mixed (by kernel_rfl) (⟨fun _ => up_eq _, fun _ => up_eq _, trivial⟩) ?_
  refine L_ld (c := a7) rfl rfl .plain (fun _ _ h => ⟨h.ch, fun b hb _ => h.below.block b hb⟩) v7 j6 ?_
  refine L_p (fPtr p6 0) rfl rfl (P_fieldAddr at_129_0 x6 (OB.ptr i3)) ?_
  refine L_ld (c := d7) rfl rfl .plain (fun _ _ h => ⟨h.ch, fun b hb _ => h.below.block b hb⟩) i8 rfl ?_
  refine L_p (.func (.func 71) #[] #[]) rfl rfl (P_move rfl) ?_
  refine L_do (φ := fun v g w => v = .int .i64 (i5)) rfl rfl .plain (fun g w hd => D_call (g := g) (vs := [a7, d7, .func (.func 71) #[] #[]]) en73 (.cons rfl (.cons rfl (.cons rfl .nil))) (wk73 (t8.ext hd.1) (v8.ext hd.1) ⟨71, #[], #[], rfl, en71, fun g' w' hch a0 b0 r hu0 hr => by exact Fn.mono (wk71 hu0  hr) fun _ _ _ h => RV_int.2 h⟩ k8) fun g' w' v hs hr => ⟨g', hs, hr⟩) (fun gA hv => ?_)
  obtain ⟨_, _, _, rfl⟩ := hv
  refine L_ld (c := i7) rfl rfl .plain (fun _ _ h => ⟨h.ch, fun b hb _ => h.below.block b hb⟩) l8 j6 ?_
  refine L_p (fPtr p6 0) rfl rfl (P_fieldAddr at_129_0 x6 (OB.ptr i3)) ?_
  refine L_ld (c := j7) rfl rfl .plain (fun _ _ h => ⟨h.ch, fun b hb _ => h.below.block b hb⟩) m8 rfl ?_
  refine L_p (.func (.func 72) #[] #[]) rfl rfl (P_move rfl) ?_
  refine L_do (φ := fun v g w => v = .int .i64 (l5)) rfl rfl .plain (fun g w hd => D_call (g := g) (vs := [i7, j7, .func (.func 72) #[] #[]]) en73 (.cons rfl (.cons rfl (.cons rfl .nil))) (wk73 (x8.ext hd.1) (a9.ext hd.1) ⟨72, #[], #[], rfl, en72, fun g' w' hch a0 b0 r hu0 hr => by exact Fn.mono (wk72 hu0  hr) fun _ _ _ h => RV_int.2 h⟩ n8) fun g' w' v hs hr => ⟨g', hs, hr⟩) (fun iA hv => ?_)
  obtain ⟨_, _, _, rfl⟩ := hv
  refine L_p (.int .i64 (i5)) rfl rfl (P_assign rfl) ?_
  refine L_p (.int .i64 (l5)) rfl rfl (P_assign rfl) ?_
  refine L_p (.int .i64 (0)) rfl rfl (P_assign rfl) ?_
  refine L_nl fun jA mA hs => ?_
  have hfr := hfr.ext hs
  clear hs
  refine EL_nil (thn_n (E_ret ?_))
  obtain rfl := sinj h
  exact end3 rfl rfl (show _ = .int .i64 (i5) from rfl) (show _ = .int .i64 (l5) from rfl) (show _ = .int .i64 (0) from rfl) ⟨_, hfr, _, _, _, rfl, rfl, rfl, rfl⟩
def f5 (x0 : BoxLoom) (x1 : List BoxPick) : Option (Bool) :=
 jn (σ := Unit) (fun _ =>
  (f15 x0).bind fun aD =>
  (f28 x1).bind fun bD =>
  (f29 aD bD).bind fun o0 =>
  (f30 aD bD).bind fun y40 =>
  jn (σ := Unit) (fun _ =>
   (f31 x0 x1).bind fun iA =>
   jn (σ := Int × Int) (fun (l5, i6) =>
    Option.bind (α := Bool) (
     bif (o0.2.2 == l5) then
      bif (o0.2.1 == i6) then
       bif (y40.2.2 == l5) then
        bif (((o0.1).length : Int) == (0 : Int)) then
         bif (y40.1 == (0 : Int)) then
          bif (y40.2.1 == (0 : Int)) then
           (f14).bind fun mB =>
           some (mB)
          else
           some (false)
         else
          some (false)
        else
         some (false)
       else
        some (false)
      else
       some (false)
     else
      some (false)
     ) fun d9 =>
    some (d9)
    ) fun rC =>
   bif (iA == (0 : Int)) then
    (f32 x0 x1).bind fun j6 =>
    jn (σ := Unit) (fun _ =>
     rC ((9 : Int), (((j6.1).Thrown).length : Int))
     ) fun vD =>
    bif j6.2 then
     Option.bind (α := Bool) (
      bif (o0.2.2 == (0 : Int)) then
       bif (o0.2.1 == (0 : Int)) then
        bif (y40.2.2 == (0 : Int)) then
         (f34 x0 ((j6.1).Thrown)).bind fun xD =>
         (f33 (o0.1) xD).bind fun y9 =>
         bif y9 then
          (f35 x0 ((j6.1).Thrown) false).bind fun t8 =>
          bif (y40.1 == t8) then
           (f35 x0 ((j6.1).Thrown) true).bind fun v8 =>
           bif (y40.2.1 == v8) then
            (f14).bind fun nB =>
            some (nB)
           else
            some (false)
          else
           some (false)
         else
          some (false)
        else
         some (false)
       else
        some (false)
      else
       some (false)
      ) fun k9 =>
     some (k9)
    else
     vD ()
   else
    rC (iA, (0 : Int))
   ) fun k57 =>
  Option.bind (α := Bool) (
   (f18 aD x0).bind fun iB =>
   bif (!iB) then
    some (true)
   else
    (f23 bD x1).bind fun cD =>
    some ((!cD))
   ) fun q8 =>
  bif q8 then
   some (false)
  else
   k57 ()
  ) fun zF =>
 Option.bind (α := Bool) (
  (f13 x0).bind fun iC =>
  bif iC then
   some (true)
  else
   some ((decide (((x1).length : Int) > (30 : Int))))
  ) fun r8 =>
 bif r8 then
  (f14).bind fun eD =>
  some (eD)
 else
  zF ()
theorem wk5 {gI : Gh} {wI : World} {x0 : BoxLoom} {x1 : List BoxPick} {up0 : Value} (rp0 : RV gI.m wI x0 up0) {up1 : Value} (rp1 : RV gI.m wI x1 up1) {r : Bool} (h : f5 x0 x1 = some r) : Fn Try.prog 5 #[up0, up1] gI wI (fun _ _ v => v = .bool (r)) := by
 unfold f5 at h
 refine fn_of_E Try.func5 rfl (Nat.le_of_ble_eq_true rfl) fun g0 hm hfr => ?_
 have rp0 : RV g0.m wI x0 up0 := hm ▸ rp0
 have rp1 : RV g0.m wI x1 up1 := hm ▸ rp1
 show E _ 134 none _ _ _ _ _
 refine E_seq (E_region (EL_do .plain rfl (D_box (g := g0) rfl rp0 fun g1 w1 p1 hs q1 => ?_)))
 have hfr := hfr.ext hs
 have rp1 := rp1.ext hs
 refine EL_at (.bool false) rfl rfl ?_
 refine EL_nil (thn_n (E_joinC h (fun (s : Unit) e w => ∃ (g : Gh) , Fr gI wI g w ∧ e 1 = up1 ∧ RV g.m w (x1 : List BoxPick) up1 ∧ e 2 = p1 ∧ PT g.m w (x0 : BoxLoom) p1) (fun X14 zF iG h => ?_) ?_))
 ·obtain ⟨r8, hx, h⟩ := bsome h
  refine E_join (fun e w => ∃ (g : Gh) , Fr gI wI g w ∧ e 1 = up1 ∧ RV g.m w (x1 : List BoxPick) up1 ∧ e 2 = p1 ∧ PT g.m w (x0 : BoxLoom) p1 ∧ e 23 = .bool (r8)) (fun Q' hQ => ?_) (fun yJ jL hR => ?_)
  ·replace h := hx
   clear hx
   refine E_region (EL_do .plain rfl (D_load (g := g1) Try.isAgg25 Try.sizeOf25 rfl q1 fun yH zH => ?_))
   obtain ⟨iC, jG, h⟩ := bsome h
   refine EL_do .plain rfl (D_call (g := g1) (vs := [yH]) en13 (.cons rfl .nil) (wk13 zH jG) fun aG zJ lL hs hr => ?_)
   have hfr := hfr.ext hs
   have rp1 := rp1.ext hs
   have q1 := q1.ext hs
   subst hr
   refine EL_mw (.bool (iC)) rfl rfl ?_
   rcases csome h with ⟨g8, h⟩ | ⟨g8, h⟩
   ·refine EL_s rfl rfl g8 rfl rfl ?_
    refine EL_s rfl rfl g8 rfl rfl ?_
    refine EL_s rfl rfl g8 rfl rfl ?_
    refine EL_p (.bool true) (P_pick (b := iC) rfl (pick_t g8 rfl)) rfl ?_
    refine EL_nil ?_
    obtain rfl := sinj h
    exact hQ _ _ ⟨aG, hfr, rfl, rp1, rfl, q1, rfl⟩
   ·refine EL_y up1 (P_move rfl) rfl rfl g8 rfl ?_
    refine EL_y (.int .i64 ((x1).length : Int)) (P_len Try.underlying30 rfl rp1) rfl rfl g8 rfl ?_
    refine EL_y (.bool ((decide (((x1).length : Int) > (30 : Int))))) (P_int rfl rfl rfl) rfl rfl g8 rfl ?_
    refine EL_p (.bool ((decide (((x1).length : Int) > (30 : Int))))) (P_pick (b := iC) rfl (pick_f g8 rfl)) rfl ?_
    refine EL_nil ?_
    obtain rfl := sinj h
    exact hQ _ _ ⟨aG, hfr, rfl, rp1, rfl, q1, rfl⟩
  ·clear hx
   obtain ⟨bG, hfr, tE, uE, vE, xE, lC⟩ := hR
   rcases csome h with ⟨uC, h⟩ | ⟨uC, h⟩
   ·refine E_cond_true (Eq.trans (show ev _ _ = .bool (r8) from lC) (congrArg Value.bool uC)) ?_
    refine E_seq (E_region ?_)
    obtain ⟨eD, kG, h⟩ := bsome h
    refine EL_do .plain rfl (D_call (g := bG) (vs := []) en14 .nil (wk14  kG) fun mL aK nL hs hr => ?_)
    have hfr := hfr.ext hs
    subst hr
    refine EL_at (.bool (eD)) rfl rfl ?_
    refine EL_nil (thn_n (E_ret (thn_r ?_)))
    obtain rfl := sinj h
    exact end1 rfl rfl (show _ = .bool (eD) from rfl) ⟨_, hfr, rfl⟩
   ·refine E_cond_false (Eq.trans (show ev _ _ = .bool (r8) from lC) (congrArg Value.bool uC)) ?_
    exact E_skip (thn_n (iG () _ _ ⟨bG, hfr, tE, uE, vE, xE⟩ h))
 ·rintro _ bK oL ⟨cG, hfr, z9, i3, bA, u3⟩ h
  refine E_seq (E_region (EL_do .plain rfl (D_load (g := cG) Try.isAgg25 Try.sizeOf25 bA u3 fun aI bI => ?_)))
  obtain ⟨aD, lG, h⟩ := bsome h
  refine EL_do .plain rfl (D_call (g := cG) (vs := [aI]) en15 (.cons rfl .nil) (wk15 bI lG) fun cI cK dI hs hr => ?_)
  have hfr := hfr.ext hs
  have i3 := i3.ext hs
  have u3 := u3.ext hs
  have mC := hr
  refine EL_mv z9 rfl ?_
  obtain ⟨bD, mG, h⟩ := bsome h
  refine EL_do .plain rfl (D_call (g := cI) (vs := [up1]) en28 (.cons rfl .nil) (wk28 i3 mG) fun iI dK jA hs hr => ?_)
  have hfr := hfr.ext hs
  have i3 := i3.ext hs
  have u3 := u3.ext hs
  have mC := mC.ext hs
  have v7 := hr
  refine EL_do .plain rfl (D_allocOc (g := iI) 2005 (⟨[], [], []⟩ : BoxLoom) Try.zeroValue25 (fun m w => ⟨_, (rep_two rep_nil (rep_two rep_nil rep_nil)), rfl⟩) fun gD yD zD hs b33 cb => ?_)
  have hfr := hfr.stp hs
  have i3 := i3.stp hs
  have u3 := u3.stp hs
  have mC := mC.stp hs
  have v7 := v7.stp hs
  have cJ : OSF 2005 60500 0 gD yD 3 25 ([] : List Int) zD := cb.osf (by rfl)
  have dJ : OSF 2005 60501 1 gD yD 3 25 ([] : List Int) zD := cb.osf (by rfl)
  have eJ : OSF 2005 60502 2 gD yD 87 25 ([] : List BoxShuttle) zD := cb.osf (by rfl)
  clear cb
  refine EL_do .plain rfl (D_storeOc (g := gD) (v := dI) Try.sizeOf25 rfl b33 rfl mC fun dG pL hs b34 cb => ?_)
  clear cb
  have hfr := hfr.stp hs
  have i3 := i3.stp hs
  have u3 := u3.stp hs
  have v7 := v7.stp hs
  refine EL_at jA rfl rfl ?_
  refine EL_nil (thn_n (E_seq (E_region (EL_do .plain rfl (D_loadO (g := dG) Try.isAgg25 Try.sizeOf25 rfl b34 fun jI kI => ?_)))))
  refine EL_mw jA rfl rfl ?_
  obtain ⟨o0, nG, h⟩ := bsome h
  refine EL_do .plain rfl (D_call (g := dG) (vs := [jI, jA]) en29 (.cons rfl (.cons rfl .nil)) (wk29 kI v7 nG) fun eG eK qL hs hr => ?_)
  have hfr := hfr.ext hs
  have i3 := i3.ext hs
  have u3 := u3.ext hs
  have v7 := v7.ext hs
  have b34 := b34.ext hs
  obtain ⟨t5, gJ, iJ, rfl, j7, rfl, rfl⟩ := hr
  refine EL_mw (.tuple #[t5, .int .i64 (o0.2.1), .int .i64 (o0.2.2)]) rfl rfl ?_
  refine EL_p t5 (P_extract rfl rfl) rfl ?_
  refine EL_p (.int .i64 (o0.2.1)) (P_extract rfl rfl) rfl ?_
  refine EL_p (.int .i64 (o0.2.2)) (P_extract rfl rfl) rfl ?_
  refine EL_at t5 rfl rfl ?_
  refine EL_at (.int .i64 (o0.2.1)) rfl rfl ?_
  refine EL_at (.int .i64 (o0.2.2)) rfl rfl ?_
  refine EL_nil (thn_n (E_seq (E_region (EL_do .plain rfl (D_loadO (g := eG) Try.isAgg25 Try.sizeOf25 rfl b34 fun lI mI => ?_)))))
  refine EL_mw jA rfl rfl ?_
  obtain ⟨y40, oG, h⟩ := bsome h
  refine EL_do .plain rfl (D_call (g := eG) (vs := [lI, jA]) en30 (.cons rfl (.cons rfl .nil)) (wk30 mI v7 oG) fun aE lK rL hs hr => ?_)
  have hfr := hfr.ext hs
  have i3 := i3.ext hs
  have u3 := u3.ext hs
  have v7 := v7.ext hs
  have b34 := b34.ext hs
  have j7 := j7.ext hs
  obtain ⟨jJ, kJ, lJ, rfl, rfl, rfl, rfl⟩ := hr
  refine EL_mw (.tuple #[.int .i64 (y40.1), .int .i64 (y40.2.1), .int .i64 (y40.2.2)]) rfl rfl ?_
  refine EL_p (.int .i64 (y40.1)) (P_extract rfl rfl) rfl ?_
  refine EL_p (.int .i64 (y40.2.1)) (P_extract rfl rfl) rfl ?_
  refine EL_p (.int .i64 (y40.2.2)) (P_extract rfl rfl) rfl ?_
  refine EL_at (.int .i64 (y40.1)) rfl rfl ?_
  refine EL_at (.int .i64 (y40.2.1)) rfl rfl ?_
  refine EL_at (.int .i64 (y40.2.2)) rfl rfl ?_
  refine EL_nil (thn_n (E_joinC h (fun (s : Unit) e w => ∃ (g : Gh) , Fr gI wI g w ∧ e 1 = up1 ∧ RV g.m w (x1 : List BoxPick) up1 ∧ e 2 = p1 ∧ PT g.m w (x0 : BoxLoom) p1 ∧ e 7 = t5 ∧ RV g.m w (o0.1 : List Span) t5 ∧ e 8 = .int .i64 (o0.2.1) ∧ e 9 = .int .i64 (o0.2.2) ∧ e 10 = .int .i64 (y40.1) ∧ e 11 = .int .i64 (y40.2.1) ∧ e 12 = .int .i64 (y40.2.2)) (fun X57 k57 pG h => ?_) ?_))
  ·obtain ⟨q8, hx, h⟩ := bsome h
   refine E_join (fun e w => ∃ (g : Gh) , Fr gI wI g w ∧ e 1 = up1 ∧ RV g.m w (x1 : List BoxPick) up1 ∧ e 2 = p1 ∧ PT g.m w (x0 : BoxLoom) p1 ∧ e 7 = t5 ∧ RV g.m w (o0.1 : List Span) t5 ∧ e 8 = .int .i64 (o0.2.1) ∧ e 9 = .int .i64 (o0.2.2) ∧ e 10 = .int .i64 (y40.1) ∧ e 11 = .int .i64 (y40.2.1) ∧ e 12 = .int .i64 (y40.2.2) ∧ e 52 = .bool (q8)) (fun Q' hQ => ?_) (fun mK tL hR => ?_)
   ·replace h := hx
    clear hx
    refine E_region (EL_do .plain rfl (D_loadO (g := aE) Try.isAgg25 Try.sizeOf25 rfl b34 fun nI pI => ?_))
    refine EL_do .plain rfl (D_load (g := aE) Try.isAgg25 Try.sizeOf25 bA u3 fun qI rI => ?_)
    obtain ⟨iB, qG, h⟩ := bsome h
    refine EL_do .plain rfl (D_call (g := aE) (vs := [nI, qI]) en18 (.cons rfl (.cons rfl .nil)) (wk18 pI rI qG) fun gG nK uL hs hr => ?_)
    have hfr := hfr.ext hs
    have i3 := i3.ext hs
    have u3 := u3.ext hs
    have v7 := v7.ext hs
    have j7 := j7.ext hs
    subst hr
    refine EL_p (.bool (!iB)) (P_not rfl) rfl ?_
    refine EL_mw (.bool (!iB)) rfl rfl ?_
    rcases csome h with ⟨i8, h⟩ | ⟨i8, h⟩
    ·refine EL_s rfl rfl i8 rfl rfl ?_
     iterate 3 refine EL_s rfl rfl i8 rfl rfl ?_
     refine EL_p (.bool true) (P_pick (b := (!iB)) rfl (pick_t i8 rfl)) rfl ?_
     refine EL_nil ?_
     obtain rfl := sinj h
     exact hQ _ _ ⟨gG, hfr, z9, i3, bA, u3, rfl, j7, rfl, rfl, rfl, rfl, rfl, rfl⟩
    ·refine EL_y jA (P_move rfl) rfl rfl i8 rfl ?_
     refine EL_y up1 (P_move z9) rfl rfl i8 rfl ?_
     obtain ⟨cD, rG, h⟩ := bsome h
     refine EL_do (.yes2 rfl rfl i8) rfl (D_call (g := gG) (vs := [jA, up1]) en23 (.cons rfl (.cons rfl .nil)) (wk23 v7 i3 rG) fun sI oK vL hs hr => ?_)
     have hfr := hfr.ext hs
     have i3 := i3.ext hs
     have u3 := u3.ext hs
     have j7 := j7.ext hs
     subst hr
     refine EL_y (.bool (!cD)) (P_not rfl) rfl rfl i8 rfl ?_
     refine EL_p (.bool (!cD)) (P_pick (b := (!iB)) rfl (pick_f i8 rfl)) rfl ?_
     refine EL_nil ?_
     obtain rfl := sinj h
     exact hQ _ _ ⟨sI, hfr, z9, i3, bA, u3, rfl, j7, rfl, rfl, rfl, rfl, rfl, rfl⟩
   ·clear hx
    obtain ⟨tI, hfr, yE, zE, cF, dF, eF, iF, nF, oF, bE, cE, dE, qC⟩ := hR
    rcases csome h with ⟨vC, h⟩ | ⟨vC, h⟩
    ·refine E_cond_true (Eq.trans (show ev _ _ = .bool (q8) from qC) (congrArg Value.bool vC)) ?_
     refine E_seq (E_region (EL_at (.bool false) rfl rfl ?_))
     refine EL_nil (thn_n (E_ret (thn_r ?_)))
     obtain rfl := sinj h
     exact end1 rfl rfl (show _ = .bool false from rfl) ⟨_, hfr, rfl⟩
    ·refine E_cond_false (Eq.trans (show ev _ _ = .bool (q8) from qC) (congrArg Value.bool vC)) ?_
     exact E_skip (thn_n (pG () _ _ ⟨tI, hfr, yE, zE, cF, dF, eF, iF, nF, oF, bE, cE, dE⟩ h))
  ·rintro _ pK xL ⟨hG, hfr, iD, gA, l9, i5, oB, x5, tB, vB, mA, pA, qA⟩ h
   refine E_seq (E_region (EL_do .plain rfl (D_load (g := hG) Try.isAgg25 Try.sizeOf25 l9 i5 fun uI vI => ?_)))
   refine EL_mv iD rfl ?_
   obtain ⟨iA, sG, h⟩ := bsome h
   refine EL_do .plain rfl (D_call (g := hG) (vs := [uI, up1]) en31 (.cons rfl (.cons rfl .nil)) (wk31 vI gA sG) fun eE qK yL hs hr => ?_)
   have hfr := hfr.ext hs
   have gA := gA.ext hs
   have i5 := i5.ext hs
   have x5 := x5.ext hs
   subst hr
   refine EL_at (.int .i64 (iA)) rfl rfl ?_
   refine EL_at (.int .i64 (0)) rfl rfl ?_
   refine EL_nil (thn_n (E_joinC h (fun (s : Int × Int) e w => ∃ (g : Gh) , Fr gI wI g w ∧ e 7 = t5 ∧ RV g.m w (o0.1 : List Span) t5 ∧ e 8 = .int .i64 (o0.2.1) ∧ e 9 = .int .i64 (o0.2.2) ∧ e 10 = .int .i64 (y40.1) ∧ e 11 = .int .i64 (y40.2.1) ∧ e 12 = .int .i64 (y40.2.2) ∧ e 13 = .int .i64 (s.1) ∧ e 14 = .int .i64 (s.2)) (fun X206 rC jD h => ?_) ?_))
   ·refine E_seq (E_region (EL_mw (.int .i64 (iA)) rfl rfl ?_))
    refine EL_in (.bool ((iA == (0 : Int)))) rfl rfl rfl rfl ?_
    refine EL_nil (thn_n ?_)
    rcases csome h with ⟨yB, h⟩ | ⟨yB, h⟩
    ·refine E_ct yB rfl ?_
     refine E_seq (E_region (EL_do .plain rfl (D_load (g := eE) Try.isAgg25 Try.sizeOf25 l9 i5 fun tG uG => ?_)))
     refine EL_mv iD rfl ?_
     obtain ⟨j6, pF, h⟩ := bsome h
     refine EL_do .plain rfl (D_call (g := eE) (vs := [tG, up1]) en32 (.cons rfl (.cons rfl .nil)) (wk32 uG gA pF) fun vG mJ sK hs hr => ?_)
     have hfr := hfr.ext hs
     have i5 := i5.ext hs
     have x5 := x5.ext hs
     obtain ⟨rA, xI, rfl, yA, rfl⟩ := hr
     refine EL_mw (.tuple #[rA, .bool (j6.2)]) rfl rfl ?_
     refine EL_p rA (P_extract rfl rfl) rfl ?_
     refine EL_p (.bool (j6.2)) (P_extract rfl rfl) rfl ?_
     refine EL_do .plain rfl (D_allocOc (g := vG) 2015 (⟨[], ⟨[], [], []⟩, 0⟩ : Grifferef04Run) Try.zeroValue58 (fun m w => ⟨_, (rep_two rep_nil (rep_two (rep_two rep_nil (rep_two rep_nil rep_nil)) rep_int)), rfl⟩) fun aB zB m7 hs b211 cb => ?_)
     have hfr := hfr.stp hs
     have i5 := i5.stp hs
     have x5 := x5.stp hs
     have yA := yA.stp hs
     have yI : OSF 2015 61500 0 aB zB 3 58 ([] : List Int) m7 := cb.osf (by rfl)
     have zI : OSF 2015 61501 1 aB zB 3 58 ([] : List Int) m7 := cb.osf (by rfl)
     have aJ : OSF 2015 61502 2 aB zB 3 58 ([] : List Int) m7 := cb.osf (by rfl)
     have bJ : OSF 2015 61503 3 aB zB 87 58 ([] : List BoxShuttle) m7 := cb.osf (by rfl)
     clear cb
     refine EL_do .plain rfl (D_storeOc (g := aB) (v := rA) Try.sizeOf58 rfl b211 rfl yA fun x8 tK hs b212 cb => ?_)
     clear cb
     have hfr := hfr.stp hs
     have i5 := i5.stp hs
     have x5 := x5.stp hs
     refine EL_at (.bool (j6.2)) rfl rfl ?_
     refine EL_nil (thn_n (E_joinC h (fun (s : Unit) e w => ∃ (g : Gh) , Fr gI wI g w ∧ e 7 = t5 ∧ RV g.m w (o0.1 : List Span) t5 ∧ e 8 = .int .i64 (o0.2.1) ∧ e 9 = .int .i64 (o0.2.2) ∧ e 10 = .int .i64 (y40.1) ∧ e 11 = .int .i64 (y40.2.1) ∧ e 12 = .int .i64 (y40.2.2) ∧ e 15 = m7 ∧ OB 2015 g w 58 (j6.1 : Grifferef04Run) m7) (fun X265 vD qF h => ?_) ?_))
     ·refine E_seq (E_region (EL_mw (.bool (j6.2)) rfl rfl ?_))
      refine EL_nil (thn_n ?_)
      rcases csome h with ⟨aC, h⟩ | ⟨aC, h⟩
      ·refine E_ct aC rfl ?_
       obtain ⟨k9, hx, h⟩ := bsome h
       refine E_join (fun e w => ∃ (g : Gh) , Fr gI wI g w ∧ e 4 = .bool (k9)) (fun Q' hQ => ?_) (fun nJ uK hR => ?_)
       ·replace h := hx
        clear hx
        refine E_region (EL_mv vB rfl ?_)
        refine EL_in (.bool ((o0.2.2 == (0 : Int)))) rfl rfl rfl rfl ?_
        refine EL_mw (.bool ((o0.2.2 == (0 : Int)))) rfl rfl ?_
        rcases csome h with ⟨k8, h⟩ | ⟨k8, h⟩
        ·refine EL_y (.int .i64 (o0.2.1)) (P_move tB) rfl rfl k8 rfl ?_
         refine EL_y (.bool ((o0.2.1 == (0 : Int)))) (P_int rfl rfl rfl) rfl rfl k8 rfl ?_
         refine EL_p (.bool ((o0.2.1 == (0 : Int)))) (P_pick (b := (o0.2.2 == (0 : Int))) rfl (pick_t k8 rfl)) rfl ?_
         refine EL_mw (.bool ((o0.2.1 == (0 : Int)))) rfl rfl ?_
         rcases csome h with ⟨l8, h⟩ | ⟨l8, h⟩
         ·refine EL_y (.int .i64 (y40.2.2)) (P_move qA) rfl rfl l8 rfl ?_
          refine EL_y (.bool ((y40.2.2 == (0 : Int)))) (P_int rfl rfl rfl) rfl rfl l8 rfl ?_
          refine EL_p (.bool ((y40.2.2 == (0 : Int)))) (P_pick (b := (o0.2.1 == (0 : Int))) rfl (pick_t l8 rfl)) rfl ?_
          refine EL_mw (.bool ((y40.2.2 == (0 : Int)))) rfl rfl ?_
          rcases csome h with ⟨v6, h⟩ | ⟨v6, h⟩
          ·refine EL_y t5 (P_move oB) rfl rfl v6 rfl ?_
           refine EL_do (.yes2 rfl rfl v6) rfl (D_load (g := x8) Try.isAgg25 Try.sizeOf25 l9 i5 fun xG yG => ?_)
           refine EL_y (fPtr m7 0) (P_fieldAddr at_58_0 rfl (OB.ptr b212)) rfl rfl v6 rfl ?_
           refine EL_do (.yes2 rfl rfl v6) rfl (D_loadF (g := x8) part_Grifferef04Run_0.1 Try.isAgg22 Try.sizeOf22 rfl b212 fun zG aH => ?_)
           obtain ⟨xD, rF, h⟩ := bsome h
           refine EL_do (.yes2 rfl rfl v6) rfl (D_call (g := x8) (vs := [xG, zG]) en34 (.cons rfl (.cons rfl .nil)) (wk34 yG aH rF) fun bH oJ cH hs hr => ?_)
           have hfr := hfr.ext hs
           have i5 := i5.ext hs
           have x5 := x5.ext hs
           have b212 := b212.ext hs
           have dH := hr
           obtain ⟨y9, sF, h⟩ := bsome h
           refine EL_do (.yes2 rfl rfl v6) rfl (D_call (g := bH) (vs := [t5, cH]) en33 (.cons rfl (.cons rfl .nil)) (wk33 x5 dH sF) fun cC pJ vK hs hr => ?_)
           have hfr := hfr.ext hs
           have i5 := i5.ext hs
           have b212 := b212.ext hs
           subst hr
           refine EL_p (.bool (y9)) (P_pick (b := (y40.2.2 == (0 : Int))) rfl (pick_t v6 rfl)) rfl ?_
           refine EL_mw (.bool (y9)) rfl rfl ?_
           rcases csome h with ⟨x6, h⟩ | ⟨x6, h⟩
           ·refine EL_y (.int .i64 (y40.1)) (P_move mA) rfl rfl x6 rfl ?_
            refine EL_do (.yes2 rfl rfl x6) rfl (D_load (g := cC) Try.isAgg25 Try.sizeOf25 l9 i5 fun gH iH => ?_)
            refine EL_y (fPtr m7 0) (P_fieldAddr at_58_0 rfl (OB.ptr b212)) rfl rfl x6 rfl ?_
            refine EL_do (.yes2 rfl rfl x6) rfl (D_loadF (g := cC) part_Grifferef04Run_0.1 Try.isAgg22 Try.sizeOf22 rfl b212 fun jH kH => ?_)
            obtain ⟨t8, tF, h⟩ := bsome h
            refine EL_do (.yes2 rfl rfl x6) rfl (D_call (g := cC) (vs := [gH, jH, .bool false]) en35 (.cons rfl (.cons rfl (.cons rfl .nil))) (wk35 iH kH tF) fun eC qJ xK hs hr => ?_)
            have hfr := hfr.ext hs
            have i5 := i5.ext hs
            have b212 := b212.ext hs
            subst hr
            refine EL_y (.bool ((y40.1 == t8))) (P_int rfl rfl rfl) rfl rfl x6 rfl ?_
            refine EL_p (.bool ((y40.1 == t8))) (P_pick (b := y9) rfl (pick_t x6 rfl)) rfl ?_
            refine EL_mw (.bool ((y40.1 == t8))) rfl rfl ?_
            rcases csome h with ⟨y6, h⟩ | ⟨y6, h⟩
            ·refine EL_y (.int .i64 (y40.2.1)) (P_move pA) rfl rfl y6 rfl ?_
             refine EL_do (.yes2 rfl rfl y6) rfl (D_load (g := eC) Try.isAgg25 Try.sizeOf25 l9 i5 fun lH mH => ?_)
             refine EL_y (fPtr m7 0) (P_fieldAddr at_58_0 rfl (OB.ptr b212)) rfl rfl y6 rfl ?_
             refine EL_do (.yes2 rfl rfl y6) rfl (D_loadF (g := eC) part_Grifferef04Run_0.1 Try.isAgg22 Try.sizeOf22 rfl b212 fun nH oH => ?_)
             obtain ⟨v8, uF, h⟩ := bsome h
             refine EL_do (.yes2 rfl rfl y6) rfl (D_call (g := eC) (vs := [lH, nH, .bool true]) en35 (.cons rfl (.cons rfl (.cons rfl .nil))) (wk35 mH oH uF) fun gE rJ yK hs hr => ?_)
             have hfr := hfr.ext hs
             subst hr
             refine EL_y (.bool ((y40.2.1 == v8))) (P_int rfl rfl rfl) rfl rfl y6 rfl ?_
             refine EL_p (.bool ((y40.2.1 == v8))) (P_pick (b := (y40.1 == t8)) rfl (pick_t y6 rfl)) rfl ?_
             refine EL_mw (.bool ((y40.2.1 == v8))) rfl rfl ?_
             rcases csome h with ⟨n9, h⟩ | ⟨n9, h⟩
             ·obtain ⟨nB, vF, h⟩ := bsome h
              refine EL_do (.yes2 rfl rfl n9) rfl (D_call (g := gE) (vs := []) en14 .nil (wk14  vF) fun pH sJ zK hs hr => ?_)
              have hfr := hfr.ext hs
              subst hr
              refine EL_p (.bool (nB)) (P_pick (b := (y40.2.1 == v8)) rfl (pick_t n9 rfl)) rfl ?_
              refine EL_at (.bool (nB)) rfl rfl ?_
              refine EL_nil ?_
              obtain rfl := sinj h
              exact hQ _ _ ⟨pH, hfr, rfl⟩
             ·refine EL_s rfl rfl n9 rfl rfl ?_
              refine EL_p (.bool false) (P_pick (b := (y40.2.1 == v8)) rfl (pick_f n9 rfl)) rfl ?_
              refine EL_at (.bool false) rfl rfl ?_
              refine EL_nil ?_
              obtain rfl := sinj h
              exact hQ _ _ ⟨gE, hfr, rfl⟩
            ·refine EL_s rfl rfl y6 rfl rfl ?_
             iterate 5 refine EL_s rfl rfl y6 rfl rfl ?_
             refine EL_p (.bool false) (P_pick (b := (y40.1 == t8)) rfl (pick_f y6 rfl)) rfl ?_
             refine EL_dead 3 rfl ?_
             refine EL_at (.bool false) rfl rfl ?_
             refine EL_nil ?_
             obtain rfl := sinj h
             exact hQ _ _ ⟨eC, hfr, rfl⟩
           ·refine EL_s rfl rfl x6 rfl rfl ?_
            iterate 5 refine EL_s rfl rfl x6 rfl rfl ?_
            refine EL_p (.bool false) (P_pick (b := y9) rfl (pick_f x6 rfl)) rfl ?_
            refine EL_dead 11 rfl ?_
            refine EL_at (.bool false) rfl rfl ?_
            refine EL_nil ?_
            obtain rfl := sinj h
            exact hQ _ _ ⟨cC, hfr, rfl⟩
          ·refine EL_s rfl rfl v6 rfl rfl ?_
           iterate 5 refine EL_s rfl rfl v6 rfl rfl ?_
           refine EL_p (.bool false) (P_pick (b := (y40.2.2 == (0 : Int))) rfl (pick_f v6 rfl)) rfl ?_
           refine EL_dead 19 rfl ?_
           refine EL_at (.bool false) rfl rfl ?_
           refine EL_nil ?_
           obtain rfl := sinj h
           exact hQ _ _ ⟨x8, hfr, rfl⟩
         ·refine EL_s rfl rfl l8 rfl rfl ?_
          refine EL_s rfl rfl l8 rfl rfl ?_
          refine EL_p (.bool false) (P_pick (b := (o0.2.1 == (0 : Int))) rfl (pick_f l8 rfl)) rfl ?_
          refine EL_dead 27 rfl ?_
          refine EL_at (.bool false) rfl rfl ?_
          refine EL_nil ?_
          obtain rfl := sinj h
          exact hQ _ _ ⟨x8, hfr, rfl⟩
        ·refine EL_s rfl rfl k8 rfl rfl ?_
         refine EL_s rfl rfl k8 rfl rfl ?_
         refine EL_p (.bool false) (P_pick (b := (o0.2.2 == (0 : Int))) rfl (pick_f k8 rfl)) rfl ?_
         refine EL_dead 31 rfl ?_
         refine EL_at (.bool false) rfl rfl ?_
         refine EL_nil ?_
         obtain rfl := sinj h
         exact hQ _ _ ⟨x8, hfr, rfl⟩
       ·clear hx
        obtain ⟨aL, hfr, iE⟩ := hR
        refine E_ret (thn_r ?_)
        refine thn_r ?_
        obtain rfl := sinj h
        exact end1 rfl rfl (show _ = .bool (k9) from iE) ⟨_, hfr, rfl⟩
      ·refine E_cf aC rfl ?_
       exact E_skip (thn_n (qF () _ _ ⟨x8, hfr, oB, x5, tB, vB, mA, pA, qA, rfl, b212⟩ h))
     ·rintro _ tJ bL ⟨qH, hfr, jE, dB, kE, lE, kD, lD, mD, nD, jB⟩ h
      refine L_loadO (x := .tmp 102) part_Grifferef04Run_0.1 Try.isAgg22 Try.sizeOf22 jB fun sH tH xF => ?_
      refine E_drawL (g := qH) (n := 5) [] [0, 1, 2, 3, 4] rfl mixed (by kernel_rfl) trivial ?_
      refine L_p (fPtr m7 0) rfl rfl (P_fieldAddr at_58_0 nD (OB.ptr jB)) ?_
      refine L_ld (c := sH) rfl rfl .plain (fun _ _ h => ⟨h.ch, fun b hb _ => h.below.block b hb⟩) xF rfl ?_
      refine L_p (.int .i64 (((j6.1).Thrown).length : Int)) rfl rfl (P_len Try.underlying22 rfl tH) ?_
      refine L_p (.int .i64 (9)) rfl rfl (P_assign rfl) ?_
      refine L_p (.int .i64 (((j6.1).Thrown).length : Int)) rfl rfl (P_assign rfl) ?_
      refine L_nl fun uH cL hs => ?_
      have hfr := hfr.ext hs
      have dB := dB.ext hs
      clear hs
      exact EL_nil (thn_n (jD ((9 : Int), (((j6.1).Thrown).length : Int)) _ _ ⟨uH, hfr, jE, dB, kE, lE, kD, lD, mD, rfl, rfl⟩ h))
    ·refine E_cf yB rfl ?_
     exact E_skip (thn_n (jD (iA, (0 : Int)) _ _ ⟨eE, hfr, oB, x5, tB, vB, mA, pA, qA, rfl, rfl⟩ h))
   ·rintro ⟨l5, i6⟩ uJ dL ⟨a9, hfr, mE, nE, oE, rE, oD, sD, tD, lB, uD⟩ h
    obtain ⟨d9, hx, h⟩ := bsome h
    refine E_join (fun e w => ∃ (g : Gh) , Fr gI wI g w ∧ e 4 = .bool (d9)) (fun Q' hQ => ?_) (fun vJ eL hR => ?_)
    ·replace h := hx
     clear hx
     refine E_region (EL_mv rE rfl ?_)
     refine EL_mv lB rfl ?_
     refine EL_in (.bool ((o0.2.2 == l5))) rfl rfl rfl rfl ?_
     refine EL_mw (.bool ((o0.2.2 == l5))) rfl rfl ?_
     rcases csome h with ⟨a7, h⟩ | ⟨a7, h⟩
     ·refine EL_y (.int .i64 (o0.2.1)) (P_move oE) rfl rfl a7 rfl ?_
      refine EL_y (.int .i64 (i6)) (P_move uD) rfl rfl a7 rfl ?_
      refine EL_y (.bool ((o0.2.1 == i6))) (P_int rfl rfl rfl) rfl rfl a7 rfl ?_
      refine EL_p (.bool ((o0.2.1 == i6))) (P_pick (b := (o0.2.2 == l5)) rfl (pick_t a7 rfl)) rfl ?_
      refine EL_mw (.bool ((o0.2.1 == i6))) rfl rfl ?_
      rcases csome h with ⟨d7, h⟩ | ⟨d7, h⟩
      ·refine EL_y (.int .i64 (y40.2.2)) (P_move tD) rfl rfl d7 rfl ?_
       refine EL_y (.int .i64 (l5)) (P_move lB) rfl rfl d7 rfl ?_
       refine EL_y (.bool ((y40.2.2 == l5))) (P_int rfl rfl rfl) rfl rfl d7 rfl ?_
       refine EL_p (.bool ((y40.2.2 == l5))) (P_pick (b := (o0.2.1 == i6)) rfl (pick_t d7 rfl)) rfl ?_
       refine EL_mw (.bool ((y40.2.2 == l5))) rfl rfl ?_
       rcases csome h with ⟨i7, h⟩ | ⟨i7, h⟩
       ·refine EL_y t5 (P_move mE) rfl rfl i7 rfl ?_
        refine EL_y (.int .i64 ((o0.1).length : Int)) (P_len Try.underlying51 rfl nE) rfl rfl i7 rfl ?_
        refine EL_y (.bool ((((o0.1).length : Int) == (0 : Int)))) (P_int rfl rfl rfl) rfl rfl i7 rfl ?_
        refine EL_p (.bool ((((o0.1).length : Int) == (0 : Int)))) (P_pick (b := (y40.2.2 == l5)) rfl (pick_t i7 rfl)) rfl ?_
        refine EL_mw (.bool ((((o0.1).length : Int) == (0 : Int)))) rfl rfl ?_
        rcases csome h with ⟨m8, h⟩ | ⟨m8, h⟩
        ·refine EL_y (.int .i64 (y40.1)) (P_move oD) rfl rfl m8 rfl ?_
         refine EL_y (.bool ((y40.1 == (0 : Int)))) (P_int rfl rfl rfl) rfl rfl m8 rfl ?_
         refine EL_p (.bool ((y40.1 == (0 : Int)))) (P_pick (b := (((o0.1).length : Int) == (0 : Int))) rfl (pick_t m8 rfl)) rfl ?_
         refine EL_mw (.bool ((y40.1 == (0 : Int)))) rfl rfl ?_
         rcases csome h with ⟨n8, h⟩ | ⟨n8, h⟩
         ·refine EL_y (.int .i64 (y40.2.1)) (P_move sD) rfl rfl n8 rfl ?_
          refine EL_y (.bool ((y40.2.1 == (0 : Int)))) (P_int rfl rfl rfl) rfl rfl n8 rfl ?_
          refine EL_p (.bool ((y40.2.1 == (0 : Int)))) (P_pick (b := (y40.1 == (0 : Int))) rfl (pick_t n8 rfl)) rfl ?_
          refine EL_mw (.bool ((y40.2.1 == (0 : Int)))) rfl rfl ?_
          rcases csome h with ⟨u9, h⟩ | ⟨u9, h⟩
          ·obtain ⟨mB, yF, h⟩ := bsome h
           refine EL_do (.yes2 rfl rfl u9) rfl (D_call (g := a9) (vs := []) en14 .nil (wk14  yF) fun xH xJ gL hs hr => ?_)
           have hfr := hfr.ext hs
           subst hr
           refine EL_p (.bool (mB)) (P_pick (b := (y40.2.1 == (0 : Int))) rfl (pick_t u9 rfl)) rfl ?_
           refine EL_at (.bool (mB)) rfl rfl ?_
           refine EL_nil ?_
           obtain rfl := sinj h
           exact hQ _ _ ⟨xH, hfr, rfl⟩
          ·refine EL_s rfl rfl u9 rfl rfl ?_
           refine EL_p (.bool false) (P_pick (b := (y40.2.1 == (0 : Int))) rfl (pick_f u9 rfl)) rfl ?_
           refine EL_at (.bool false) rfl rfl ?_
           refine EL_nil ?_
           obtain rfl := sinj h
           exact hQ _ _ ⟨a9, hfr, rfl⟩
         ·refine EL_s rfl rfl n8 rfl rfl ?_
          refine EL_s rfl rfl n8 rfl rfl ?_
          refine EL_p (.bool false) (P_pick (b := (y40.1 == (0 : Int))) rfl (pick_f n8 rfl)) rfl ?_
          refine EL_dead 3 rfl ?_
          refine EL_at (.bool false) rfl rfl ?_
          refine EL_nil ?_
          obtain rfl := sinj h
          exact hQ _ _ ⟨a9, hfr, rfl⟩
        ·refine EL_s rfl rfl m8 rfl rfl ?_
         refine EL_s rfl rfl m8 rfl rfl ?_
         refine EL_p (.bool false) (P_pick (b := (((o0.1).length : Int) == (0 : Int))) rfl (pick_f m8 rfl)) rfl ?_
         refine EL_dead 7 rfl ?_
         refine EL_at (.bool false) rfl rfl ?_
         refine EL_nil ?_
         obtain rfl := sinj h
         exact hQ _ _ ⟨a9, hfr, rfl⟩
       ·refine EL_s rfl rfl i7 rfl rfl ?_
        refine EL_s rfl rfl i7 rfl rfl ?_
        refine EL_s rfl rfl i7 rfl rfl ?_
        refine EL_p (.bool false) (P_pick (b := (y40.2.2 == l5)) rfl (pick_f i7 rfl)) rfl ?_
        refine EL_dead 11 rfl ?_
        refine EL_at (.bool false) rfl rfl ?_
        refine EL_nil ?_
        obtain rfl := sinj h
        exact hQ _ _ ⟨a9, hfr, rfl⟩
      ·refine EL_s rfl rfl d7 rfl rfl ?_
       refine EL_s rfl rfl d7 rfl rfl ?_
       refine EL_s rfl rfl d7 rfl rfl ?_
       refine EL_p (.bool false) (P_pick (b := (o0.2.1 == i6)) rfl (pick_f d7 rfl)) rfl ?_
       refine EL_dead 16 rfl ?_
       refine EL_at (.bool false) rfl rfl ?_
       refine EL_nil ?_
       obtain rfl := sinj h
       exact hQ _ _ ⟨a9, hfr, rfl⟩
     ·refine EL_s rfl rfl a7 rfl rfl ?_
      refine EL_s rfl rfl a7 rfl rfl ?_
      refine EL_s rfl rfl a7 rfl rfl ?_
      refine EL_p (.bool false) (P_pick (b := (o0.2.2 == l5)) rfl (pick_f a7 rfl)) rfl ?_
      refine EL_dead 21 rfl ?_
      refine EL_at (.bool false) rfl rfl ?_
      refine EL_nil ?_
      obtain rfl := sinj h
      exact hQ _ _ ⟨a9, hfr, rfl⟩
    ·clear hx
     obtain ⟨iL, hfr, sE⟩ := hR
     refine E_ret ?_
     obtain rfl := sinj h
     exact end1 rfl rfl (show _ = .bool (d9) from sE) ⟨_, hfr, rfl⟩
end Go.Proofs.Ytmpjooneiaiffaa
