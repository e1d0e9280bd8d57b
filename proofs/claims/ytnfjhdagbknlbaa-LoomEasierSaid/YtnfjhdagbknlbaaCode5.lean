import Derived.Test.YtnfjhdagbknlbaaCode4
set_option maxRecDepth 8000
set_option maxHeartbeats 4000000
namespace Go.Proofs.Ytnfjhdagbknlbaa
open Go.RowKit
def f30 (x0 : LoomMill) (x1 : List LoomOrder) : Option (Span × Int × Int) :=
 (f50 x0 x1).bind fun y5 =>
 jn (σ := Span × Int) (fun (mC, qC) =>
  Option.bind (α := Span × Int × Int) (
   lp (σ := Span × Int × Int × Int) (fun cG (iA, rA, yA, o0) =>
    bif (decide (o0 < (300 : Int))) then
     Option.bind (α := Span × Int × Int) (
      lp (σ := Span × Int × Int × Int) (fun eG (a9, d9, y6, u3) =>
       jn (σ := Unit) (fun _ =>
        Option.bind (α := Span × Int × Int) (
         (f64 (y5.1) o0 u3).bind fun l5 =>
         bif (decide ((w64 (l5 - (w64 ((w64 (u3 - o0)) * (((x0).Widths).length : Int))))) > y6)) then
          some ((⟨o0, u3⟩ : Span), l5, (w64 (l5 - (w64 ((w64 (u3 - o0)) * (((x0).Widths).length : Int))))))
         else
          some (a9, d9, y6)
         ) fun (d7, i7, m7) =>
        eG (d7, i7, m7, (w64 (u3 + (1 : Int))))
        ) fun gG =>
       bif (decide (u3 ≤ (300 : Int))) then
        gG ()
       else
        some (a9, d9, y6)
       ) big (iA, rA, yA, (w64 (o0 + (1 : Int))))
      ) fun (g8, k8, l8) =>
     cG (g8, k8, l8, (w64 (o0 + (1 : Int))))
    else
     some (iA, rA, yA)
    ) big (mC, qC, (0 : Int), (0 : Int))
   ) fun (j6, m8, n8) =>
  jn (σ := Span × Int) (fun (jB, r8) =>
   some (jB, r8, (0 : Int))
   ) fun tD =>
  bif (n8 == (0 : Int)) then
   some (j6, (0 : Int), (7 : Int))
  else
   tD (j6, m8)
  ) fun hG =>
 bif (y5.2 != (0 : Int)) then
  some ((⟨0, 0⟩ : Span), (0 : Int), y5.2)
 else
  hG ((⟨0, 0⟩ : Span), (0 : Int))
theorem en30 : Enters Try.prog 30 := enters_of Try.func30 (by kernel_rfl) rfl
theorem wk30 {gI : Gh} {wI : World} {x0 : LoomMill} {x1 : List LoomOrder} {up0 : Value} (rp0 : RV gI.m wI x0 up0) {up1 : Value} (rp1 : RV gI.m wI x1 up1) {r : Span × Int × Int} (h : f30 x0 x1 = some r) : Fn Try.prog 30 #[up0, up1] gI wI (fun m w v => ∃ y0 y1 y2, v = .tuple #[y0, y1, y2] ∧ RV m w (r.1) y0 ∧ y1 = .int .i64 (r.2.1) ∧ y2 = .int .i64 (r.2.2)) := by
 unfold f30 at h
 refine fn_of_E Try.func30 rfl (Nat.le_of_ble_eq_true rfl) fun g0 hm hfr => ?_
 have rp0 : RV g0.m wI x0 up0 := hm ▸ rp0
 have rp1 : RV g0.m wI x1 up1 := hm ▸ rp1
 show E _ 59 none _ _ _ _ _
 refine E_seq (E_region (EL_do .plain rfl (D_box (g := g0) rfl rp0 fun g1 w1 p1 hs q1 => ?_)))
 have hfr := hfr.ext hs
 have rp1 := rp1.ext hs
 refine EL_do .plain rfl (D_allocOc (g := g1) 2004 (⟨0, 0⟩ : Span) Try.zeroValue48 (fun m w => ⟨_, (rep_two rep_int rep_int), rfl⟩) fun g2 w2 p2 hs b2 cb => ?_)
 have hfr := hfr.stp hs
 have rp1 := rp1.stp hs
 have q1 := q1.stp hs
 clear cb
 refine EL_at (.int .i64 (0)) rfl rfl ?_
 refine EL_at (.int .i64 (0)) rfl rfl ?_
 refine EL_nil (thn_n (E_seq (E_region (EL_do .plain rfl (D_load (g := g2) Try.isAgg24 Try.sizeOf24 rfl q1 fun v3 r3 => ?_)))))
 refine EL_mw up1 rfl rfl ?_
 obtain ⟨y5, hy5, h⟩ := bsome h
 refine EL_do .plain rfl (D_call (g := g2) (vs := [v3, up1]) en50 (.cons rfl (.cons rfl .nil)) (wk50 r3 rp1 hy5) fun g4 w4_ v4 hs hr => ?_)
 have hfr := hfr.ext hs
 have q1 := q1.ext hs
 have b2 := b2.ext hs
 obtain ⟨tB, qH, rfl, vB, rfl⟩ := hr
 refine EL_mw (.tuple #[tB, .int .i64 (y5.2)]) rfl rfl ?_
 refine EL_p tB (P_extract rfl rfl) rfl ?_
 refine EL_p (.int .i64 (y5.2)) (P_extract rfl rfl) rfl ?_
 refine EL_do .plain rfl (D_allocOc (g := g4) 2007 (⟨⟨[], 0⟩, []⟩ : LoomLoomMill) Try.zeroValue96 (fun m w => ⟨_, (rep_two (rep_two rep_nil rep_int) rep_nil), rfl⟩) fun g6 w6 p6 hs b6 cb => ?_)
 have hfr := hfr.stp hs
 have q1 := q1.stp hs
 have b2 := b2.stp hs rfl
 have vB := vB.stp hs
 have sH : OSF 2007 60700 0 g6 w6 3 96 ([] : List Int) p6 := cb.osf (by rfl)
 have tH : OSF 2007 60702 2 g6 w6 82 96 ([] : List LoomOrder) p6 := cb.osf (by rfl)
 clear cb
 refine EL_do .plain rfl (D_storeOc (g := g6) (v := tB) Try.sizeOf96 rfl b6 rfl vB fun g7 w7 hs b7 cb => ?_)
 clear cb
 have hfr := hfr.stp hs
 have q1 := q1.stp hs
 have b2 := b2.stp hs rfl
 refine EL_at (.int .i64 (y5.2)) rfl rfl ?_
 refine EL_nil (thn_n (E_joinC h (fun (s : Span × Int) e w => ∃ (g : Gh) , Fr gI wI g w ∧ e 2 = p1 ∧ PT g.m w (x0 : LoomMill) p1 ∧ e 4 = p2 ∧ OB 2004 g w 48 (s.1 : Span) p2 ∧ e 5 = .int .i64 (s.2) ∧ e 7 = p6 ∧ OB 2007 g w 96 (y5.1 : LoomLoomMill) p6) (fun X12 hG kG h => ?_) ?_))
 ·refine E_seq (E_region (EL_mw (.int .i64 (y5.2)) rfl rfl ?_))
  refine EL_in (.bool ((y5.2 != (0 : Int)))) rfl rfl rfl rfl ?_
  refine EL_nil (thn_n ?_)
  rcases csome h with ⟨yB, h⟩ | ⟨yB, h⟩
  ·refine E_ct yB rfl ?_
   refine E_seq (E_region (EL_do .plain rfl (D_loadO (g := g7) Try.isAgg48 Try.sizeOf48 rfl b2 fun iH jH => ?_)))
   refine EL_mw (.int .i64 (y5.2)) rfl rfl ?_
   refine EL_do .plain rfl (D_storeOc (g := g7) (v := iH) Try.sizeOf48 rfl b2 rfl jH fun sI w15 hs b15 cb => ?_)
   clear cb
   have hfr := hfr.stp hs
   refine EL_at (.int .i64 (0)) rfl rfl ?_
   refine EL_at (.int .i64 (y5.2)) rfl rfl ?_
   refine EL_nil (thn_n (E_ret (thn_r ?_)))
   obtain rfl := sinj h
   obtain ⟨ad16, cv16, hp16, lG, cr16⟩ := ob_read Try.isAgg48 Try.sizeOf48 b15
   exact endm_ctt rfl rfl ((show _ = p2 from rfl).trans hp16) lG (show _ = .int .i64 (0) from rfl) (show _ = .int .i64 (y5.2) from rfl) ⟨_, hfr, _, _, _, rfl, cr16, rfl, rfl⟩
  ·refine E_cf yB rfl ?_
   exact E_skip (thn_n (kG ((⟨0, 0⟩ : Span), (0 : Int)) _ _ ⟨g7, hfr, rfl, q1, rfl, b2, rfl, rfl, b7⟩ h))
 ·rintro ⟨mC, qC⟩ uH tI ⟨kH, hfr, cF, dF, eF, iF, nF, oF, pF⟩ h
  refine E_seq (E_region (EL_at (.int .i64 (0)) rfl rfl ?_))
  refine EL_nil (thn_n ?_)
  obtain ⟨⟨j6, m8, n8⟩, hx, h⟩ := bsome h
  refine E_join (fun e w => ∃ (g : Gh) , Fr gI wI g w ∧ e 4 = p2 ∧ OB 2004 g w 48 (j6 : Span) p2 ∧ e 5 = .int .i64 (m8) ∧ e 8 = .int .i64 (n8)) (fun Q' hQ => ?_) (fun lH xH hR => ?_)
  ·replace h := hx
   clear hx
   refine E_seq (E_region (EL_mw (.int .i64 (0)) rfl rfl ?_))
   refine EL_nil (thn_n (E_block ?_))
   refine E_lp h (fun (s : Span × Int × Int × Int) e w => ∃ (g : Gh) , Fr gI wI g w ∧ e 2 = p1 ∧ PT g.m w (x0 : LoomMill) p1 ∧ e 4 = p2 ∧ OB 2004 g w 48 (s.1 : Span) p2 ∧ e 5 = .int .i64 (s.2.1) ∧ e 7 = p6 ∧ OB 2007 g w 96 (y5.1 : LoomLoomMill) p6 ∧ e 8 = .int .i64 (s.2.2.1) ∧ e 23 = .int .i64 (s.2.2.2)) ⟨kH, hfr, cF, dF, eF, iF, nF, oF, pF, rfl, rfl⟩ (fun X69 cG mG => ?_)
   rintro ⟨iA, rA, yA, o0⟩ yH uI ⟨iG, hfr, qF, rF, rC, uC, vC, sF, tF, aD, k9⟩ h
   refine E_seq (E_region (EL_in (.bool ((decide (o0 < (300 : Int))))) k9 rfl rfl rfl ?_))
   refine EL_nil (thn_n (E_seq ?_))
   rcases csome h with ⟨zB, h⟩ | ⟨zB, h⟩
   ·refine E_ct zB rfl ?_
    refine E_skip (thn_n ?_)
    obtain ⟨⟨g8, k8, l8⟩, hx, h⟩ := bsome h
    refine E_join (fun e w => ∃ (g : Gh) , Fr gI wI g w ∧ e 2 = p1 ∧ PT g.m w (x0 : LoomMill) p1 ∧ e 4 = p2 ∧ OB 2004 g w 48 (g8 : Span) p2 ∧ e 5 = .int .i64 (k8) ∧ e 7 = p6 ∧ OB 2007 g w 96 (y5.1 : LoomLoomMill) p6 ∧ e 8 = .int .i64 (l8) ∧ e 23 = .int .i64 (o0)) (fun Q' hQ => ?_) (fun mH zH hR => ?_)
    ·replace h := hx
     clear hx
     refine E_block ?_
     refine E_seq (E_region (EL_mv k9 rfl ?_))
     refine EL_at (.int .i64 (o0)) rfl rfl ?_
     refine EL_nil (thn_n (E_seq (E_region (EL_mw (.int .i64 (o0)) rfl rfl ?_))))
     refine EL_in (.int .i64 ((w64 (o0 + (1 : Int))))) rfl rfl rfl rfl ?_
     refine EL_at (.int .i64 ((w64 (o0 + (1 : Int))))) rfl rfl ?_
     refine EL_nil (thn_n (E_block ?_))
     refine E_lp h (fun (s : Span × Int × Int × Int) e w => ∃ (g : Gh) , Fr gI wI g w ∧ e 2 = p1 ∧ PT g.m w (x0 : LoomMill) p1 ∧ e 4 = p2 ∧ OB 2004 g w 48 (s.1 : Span) p2 ∧ e 5 = .int .i64 (s.2.1) ∧ e 7 = p6 ∧ OB 2007 g w 96 (y5.1 : LoomLoomMill) p6 ∧ e 8 = .int .i64 (s.2.2.1) ∧ e 9 = .int .i64 (o0) ∧ e 10 = .int .i64 (s.2.2.2) ∧ e 23 = .int .i64 (o0)) ⟨iG, hfr, qF, rF, rC, uC, vC, sF, tF, aD, rfl, rfl, k9⟩ (fun X95 eG nG => ?_)
     rintro ⟨a9, d9, y6, u3⟩ aI vI ⟨jG, hfr, bD, cD, eD, gD, iD, jD, lD, mD, uF, lB, mB⟩ h
     refine E_joinC h (fun (s : Unit) e w => ∃ (g : Gh) , Fr gI wI g w ∧ e 2 = p1 ∧ PT g.m w (x0 : LoomMill) p1 ∧ e 4 = p2 ∧ OB 2004 g w 48 (a9 : Span) p2 ∧ e 5 = .int .i64 (d9) ∧ e 7 = p6 ∧ OB 2007 g w 96 (y5.1 : LoomLoomMill) p6 ∧ e 8 = .int .i64 (y6) ∧ e 9 = .int .i64 (o0) ∧ e 10 = .int .i64 (u3) ∧ e 23 = .int .i64 (o0)) (fun X98 gG oG h => ?_) ?_
     ·refine E_seq (E_region (EL_mv lB rfl ?_))
      refine EL_in (.bool ((decide (u3 ≤ (300 : Int))))) rfl rfl rfl rfl ?_
      refine EL_nil (thn_n ?_)
      rcases csome h with ⟨cC, h⟩ | ⟨cC, h⟩
      ·refine E_ct cC rfl ?_
       exact E_skip (thn_n (oG () _ _ ⟨jG, hfr, bD, cD, eD, gD, iD, jD, lD, mD, uF, lB, mB⟩ h))
      ·refine E_cf cC rfl ?_
       refine E_exit ?_
       refine thn_e ?_
       refine thn_e ?_
       refine blk_hit ?_
       refine blk_n ?_
       obtain ⟨rfl, rfl, rfl⟩ := pairs3 h
       exact hQ _ _ ⟨jG, hfr, bD, cD, eD, gD, iD, jD, lD, mD, mB⟩
     ·rintro _ nH bI ⟨uD, hfr, l9, t5, n9, v8, vD, u9, x5, nB, x6, i6, bA⟩ h
      obtain ⟨⟨d7, i7, m7⟩, hx, h⟩ := bsome h
      refine E_join (fun e w => ∃ (g : Gh) , Fr gI wI g w ∧ e 2 = p1 ∧ PT g.m w (x0 : LoomMill) p1 ∧ e 4 = p2 ∧ OB 2004 g w 48 (d7 : Span) p2 ∧ e 5 = .int .i64 (i7) ∧ e 7 = p6 ∧ OB 2007 g w 96 (y5.1 : LoomLoomMill) p6 ∧ e 8 = .int .i64 (m7) ∧ e 9 = .int .i64 (o0) ∧ e 10 = .int .i64 (u3) ∧ e 23 = .int .i64 (o0)) (fun Q' hQ => ?_) (fun oH dI hR => ?_)
      ·replace h := hx
       clear hx
       refine E_block ?_
       refine E_seq (E_region (EL_do .plain rfl (D_loadO (g := uD) Try.isAgg96 Try.sizeOf96 u9 x5 fun sG tG => ?_)))
       refine EL_mv x6 rfl ?_
       refine EL_mv i6 rfl ?_
       obtain ⟨l5, vF, h⟩ := bsome h
       refine EL_do .plain rfl (D_call (g := uD) (vs := [sG, .int .i64 (o0), .int .i64 (u3)]) en64 (.cons rfl (.cons rfl (.cons rfl .nil))) (wk64 tG vF) fun aB xF iI hs hr => ?_)
       have hfr := hfr.ext hs
       have t5 := t5.ext hs
       have v8 := v8.ext hs
       have x5 := x5.ext hs
       subst hr
       refine EL_at (.int .i64 (l5)) rfl rfl ?_
       refine EL_nil (thn_n (E_seq (E_region (EL_mw (.int .i64 (l5)) rfl rfl ?_))))
       refine EL_mv i6 rfl ?_
       refine EL_mv x6 rfl ?_
       refine EL_in (.int .i64 ((w64 (u3 - o0)))) rfl rfl rfl rfl ?_
       refine EL_p (fPtr p1 0) (P_fieldAddr at_24_0 l9 (PT.ptr t5)) rfl ?_
       have uG := PT_field (part_LoomMill_0).1 t5
       refine EL_do .plain rfl (D_load (g := aB) Try.isAgg22 Try.sizeOf22 rfl uG fun jI vG => ?_)
       refine EL_p (.int .i64 (((x0).Widths).length : Int)) (P_len Try.underlying22 rfl vG) rfl ?_
       refine EL_p (.int .i64 ((w64 ((w64 (u3 - o0)) * (((x0).Widths).length : Int))))) (P_int rfl rfl rfl) rfl ?_
       refine EL_p (.int .i64 ((w64 (l5 - (w64 ((w64 (u3 - o0)) * (((x0).Widths).length : Int))))))) (P_int rfl rfl rfl) rfl ?_
       refine EL_p (.int .i64 ((w64 (l5 - (w64 ((w64 (u3 - o0)) * (((x0).Widths).length : Int))))))) (P_assign rfl) rfl ?_
       refine EL_nil (thn_n (E_seq (E_region (EL_p (.int .i64 ((w64 (l5 - (w64 ((w64 (u3 - o0)) * (((x0).Widths).length : Int))))))) (P_move rfl) rfl ?_))))
       refine EL_mv nB rfl ?_
       refine EL_p (.bool ((decide ((w64 (l5 - (w64 ((w64 (u3 - o0)) * (((x0).Widths).length : Int))))) > y6)))) (P_int rfl rfl rfl) rfl ?_
       refine EL_nil (thn_n ?_)
       rcases csome h with ⟨dB, h⟩ | ⟨dB, h⟩
       ·refine E_ct dB rfl ?_
        refine E_region (EL_mv x6 rfl ?_)
        refine EL_mv i6 rfl ?_
        have xD : RV aB.m xF (⟨o0, u3⟩ : Span) (.agg (setCh [[.int .i64 0], [.int .i64 0]] [(0, .int .i64 (o0)), (1, .int .i64 (u3))]).flatten.toArray) := RV_build rfl (rep_pair (rfl) (rep_last (rfl)))
        generalize yF : (Value.agg (setCh [[.int .i64 0], [.int .i64 0]] [(0, .int .i64 (o0)), (1, .int .i64 (u3))]).flatten.toArray) = yD at xD
        refine EL_p yD (yF ▸ P_build (vs := [(0, .int .i64 (o0)), (1, .int .i64 (u3))]) [[.int .i64 0], [.int .i64 0]] lay_48 rfl rfl (.cons rfl (.cons rfl .nil)) ⟨⟨_, rfl, rfl⟩, ⟨⟨_, rfl, rfl⟩, trivial⟩⟩) rfl ?_
        refine EL_mw (.int .i64 (l5)) rfl rfl ?_
        refine EL_p (.int .i64 ((w64 (l5 - (w64 ((w64 (u3 - o0)) * (((x0).Widths).length : Int))))))) (P_move rfl) rfl ?_
        refine EL_do .plain rfl (D_storeOc (g := aB) (v := yD) Try.sizeOf48 n9 v8 rfl xD fun xG kI hs b116 cb => ?_)
        clear cb
        have hfr := hfr.stp hs
        have t5 := t5.stp hs
        have x5 := x5.stp hs rfl
        refine EL_at (.int .i64 (l5)) rfl rfl ?_
        refine EL_p (.int .i64 ((w64 (l5 - (w64 ((w64 (u3 - o0)) * (((x0).Widths).length : Int))))))) (P_assign rfl) rfl ?_
        refine EL_nil (blk_n ?_)
        obtain ⟨rfl, rfl, rfl⟩ := pairs3 h
        exact hQ _ _ ⟨xG, hfr, l9, t5, n9, b116, rfl, u9, x5, rfl, x6, i6, bA⟩
       ·refine E_cf dB rfl ?_
        refine E_skip (blk_n ?_)
        obtain ⟨rfl, rfl, rfl⟩ := pairs3 h
        exact hQ _ _ ⟨aB, hfr, l9, t5, n9, v8, vD, u9, x5, nB, x6, i6, bA⟩
      ·clear hx
       obtain ⟨yG, hfr, zD, aE, bE, cE, dE, eE, iE, jE, kE, nD, oD⟩ := hR
       refine E_region (EL_mv nD rfl ?_)
       refine EL_in (.int .i64 ((w64 (u3 + (1 : Int))))) rfl rfl rfl rfl ?_
       refine EL_at (.int .i64 ((w64 (u3 + (1 : Int))))) rfl rfl ?_
       exact EL_nil (thn_n (nG (d7, i7, m7, (w64 (u3 + (1 : Int)))) _ _ ⟨yG, hfr, zD, aE, bE, cE, dE, eE, iE, jE, kE, rfl, oD⟩ h))
    ·clear hx
     obtain ⟨zG, hfr, lE, mE, nE, oE, rE, sE, tE, uE, sD⟩ := hR
     refine E_region (EL_in (.int .i64 ((w64 (o0 + (1 : Int))))) sD rfl rfl rfl ?_)
     refine EL_mw (.int .i64 ((w64 (o0 + (1 : Int))))) rfl rfl ?_
     exact EL_nil (thn_n (mG (g8, k8, l8, (w64 (o0 + (1 : Int)))) _ _ ⟨zG, hfr, lE, mE, nE, oE, rE, sE, tE, uE, rfl⟩ h))
   ·refine E_cf zB rfl ?_
    refine E_exit ?_
    refine thn_e ?_
    refine thn_e ?_
    refine blk_hit ?_
    obtain ⟨rfl, rfl, rfl⟩ := pairs3 h
    exact hQ _ _ ⟨iG, hfr, rC, uC, vC, aD⟩
  ·clear hx
   obtain ⟨eC, hfr, x8, y9, vE, xE⟩ := hR
   refine E_joinC h (fun (s : Span × Int) e w => ∃ (g : Gh) , Fr gI wI g w ∧ e 4 = p2 ∧ OB 2004 g w 48 (s.1 : Span) p2 ∧ e 5 = .int .i64 (s.2)) (fun X124 tD zF h => ?_) ?_
   ·refine E_seq (E_region (EL_mv xE rfl ?_))
    refine EL_in (.bool ((n8 == (0 : Int)))) rfl rfl rfl rfl ?_
    refine EL_nil (thn_n ?_)
    rcases csome h with ⟨iB, h⟩ | ⟨iB, h⟩
    ·refine E_ct iB rfl ?_
     refine E_seq (E_region (EL_do .plain rfl (D_loadO (g := eC) Try.isAgg48 Try.sizeOf48 x8 y9 fun aH cH => ?_)))
     refine EL_do .plain rfl (D_storeOc (g := eC) (v := aH) Try.sizeOf48 x8 y9 rfl cH fun lI mI hs b127 cb => ?_)
     clear cb
     have hfr := hfr.stp hs
     refine EL_at (.int .i64 (0)) rfl rfl ?_
     refine EL_at (.int .i64 (7)) rfl rfl ?_
     refine EL_nil (thn_n (E_ret (thn_r ?_)))
     obtain rfl := sinj h
     obtain ⟨ad128, cv128, hp128, aG, cr128⟩ := ob_read Try.isAgg48 Try.sizeOf48 b127
     exact endm_ctt rfl rfl ((show _ = p2 from x8).trans hp128) aG (show _ = .int .i64 (0) from rfl) (show _ = .int .i64 (7) from rfl) ⟨_, hfr, _, _, _, rfl, cr128, rfl, rfl⟩
    ·refine E_cf iB rfl ?_
     exact E_skip (thn_n (zF (j6, m8) _ _ ⟨eC, hfr, x8, y9, vE⟩ h))
   ·rintro ⟨jB, r8⟩ pH nI ⟨yE, hfr, z9, oB, zE⟩ h
    refine E_seq (E_region (EL_do .plain rfl (D_loadO (g := yE) Try.isAgg48 Try.sizeOf48 z9 oB fun dH gH => ?_)))
    refine EL_mv zE rfl ?_
    refine EL_do .plain rfl (D_storeOc (g := yE) (v := dH) Try.sizeOf48 z9 oB rfl gH fun pI qI hs b131 cb => ?_)
    clear cb
    have hfr := hfr.stp hs
    refine EL_at (.int .i64 (r8)) rfl rfl ?_
    refine EL_at (.int .i64 (0)) rfl rfl ?_
    refine EL_nil (thn_n (E_ret ?_))
    obtain rfl := sinj h
    obtain ⟨ad132, cv132, hp132, bG, cr132⟩ := ob_read Try.isAgg48 Try.sizeOf48 b131
    exact endm_ctt rfl rfl ((show _ = p2 from z9).trans hp132) bG (show _ = .int .i64 (r8) from rfl) (show _ = .int .i64 (0) from rfl) ⟨_, hfr, _, _, _, rfl, cr132, rfl, rfl⟩
def f33 (x0 : LoomMill) (x1 : List LoomOrder) (x2 : List LoomRun) (x3 : LoomStop) : Option ((List Int) × Int) :=
 (f65 x0 x1 x2 x3).bind fun y6 =>
 jn (σ := (List Int)) (fun mC =>
  Option.bind (α := (List Int)) (
   lp (σ := (List Int) × Int) (fun lE (m8, o0) =>
    bif (decide (o0 < ((x2).length : Int))) then
     Option.bind (α := (List Int)) (
      (idx x2 o0).bind fun i7 =>
      Option.bind (α := Bool) (
       bif ((i7).Loom == (x3).Loom) then
        (f66 (y6.1) i7).bind fun oB =>
        some (oB)
       else
        some (false)
       ) fun m7 =>
      bif m7 then
       (apnd 8 m8 (([(i7).Order] : List Int))).bind fun y140 =>
       some (y140)
      else
       some (m8)
      ) fun l8 =>
     lE (l8, (w64 (o0 + (1 : Int))))
    else
     some (m8)
    ) big (mC, (0 : Int))
   ) fun n8 =>
  some (n8, (0 : Int))
  ) fun mE =>
 bif (y6.2 != (0 : Int)) then
  some ([], y6.2)
 else
  mE ([])
theorem en33 : Enters Try.prog 33 := enters_of Try.func33 (by kernel_rfl) rfl
theorem wk33 {gI : Gh} {wI : World} {x0 : LoomMill} {x1 : List LoomOrder} {x2 : List LoomRun} {x3 : LoomStop} {up0 : Value} (rp0 : RV gI.m wI x0 up0) {up1 : Value} (rp1 : RV gI.m wI x1 up1) {up2 : Value} (rp2 : RV gI.m wI x2 up2) {up3 : Value} (rp3 : RV gI.m wI x3 up3) {r : (List Int) × Int} (h : f33 x0 x1 x2 x3 = some r) : Fn Try.prog 33 #[up0, up1, up2, up3] gI wI (fun m w v => ∃ y0 y1, v = .tuple #[y0, y1] ∧ RV m w (r.1) y0 ∧ y1 = .int .i64 (r.2)) := by
 unfold f33 at h
 refine fn_of_E Try.func33 rfl (Nat.le_of_ble_eq_true rfl) fun g0 hm hfr => ?_
 have rp0 : RV g0.m wI x0 up0 := hm ▸ rp0
 have rp1 : RV g0.m wI x1 up1 := hm ▸ rp1
 have rp2 : RV g0.m wI x2 up2 := hm ▸ rp2
 have rp3 : RV g0.m wI x3 up3 := hm ▸ rp3
 show E _ 47 none _ _ _ _ _
 refine E_seq (E_region (EL_do .plain rfl (D_box (g := g0) rfl rp0 fun g1 w1 p1 hs q1 => ?_)))
 have hfr := hfr.ext hs
 have rp1 := rp1.ext hs
 have rp2 := rp2.ext hs
 have rp3 := rp3.ext hs
 refine EL_do .plain rfl (D_box (g := g1) rfl rp3 fun g2 w2 p2 hs q2 => ?_)
 have hfr := hfr.ext hs
 have rp1 := rp1.ext hs
 have rp2 := rp2.ext hs
 have q1 := q1.ext hs
 refine EL_at (.slice none 0 0) rfl rfl ?_
 refine EL_at (.int .i64 (0)) rfl rfl ?_
 refine EL_nil (thn_n (E_seq (E_region (EL_do .plain rfl (D_load (g := g2) Try.isAgg24 Try.sizeOf24 rfl q1 fun v3 r3 => ?_)))))
 refine EL_mw up1 rfl rfl ?_
 refine EL_mw up2 rfl rfl ?_
 refine EL_do .plain rfl (D_load (g := g2) Try.isAgg54 Try.sizeOf54 rfl q2 fun v4 r4 => ?_)
 obtain ⟨y6, sF, h⟩ := bsome h
 refine EL_do .plain rfl (D_call (g := g2) (vs := [v3, up1, up2, v4]) en65 (.cons rfl (.cons rfl (.cons rfl (.cons rfl .nil)))) (wk65 r3 rp1 rp2 r4 sF) fun g5 w5_ v5 hs hr => ?_)
 have hfr := hfr.ext hs
 have rp2 := rp2.ext hs
 have q2 := q2.ext hs
 obtain ⟨tB, aG, rfl, vB, rfl⟩ := hr
 refine EL_mw (.tuple #[tB, .int .i64 (y6.2)]) rfl rfl ?_
 refine EL_p tB (P_extract rfl rfl) rfl ?_
 refine EL_p (.int .i64 (y6.2)) (P_extract rfl rfl) rfl ?_
 refine EL_do .plain rfl (D_allocOc (g := g5) 2010 (⟨⟨⟨[], 0⟩, []⟩, ⟨0, ⟨0, 0⟩⟩⟩ : LoomStill) Try.zeroValue113 (fun m w => ⟨_, (rep_two (rep_two (rep_two rep_nil rep_int) rep_nil) (rep_two rep_int (rep_two rep_int rep_int))), rfl⟩) fun g7 w7 p7 hs b7 cb => ?_)
 have hfr := hfr.stp hs
 have rp2 := rp2.stp hs
 have q2 := q2.stp hs
 have vB := vB.stp hs
 have bG : OSF 2010 61000 0 g7 w7 3 113 ([] : List Int) p7 := cb.osf (by rfl)
 have cG : OSF 2010 61002 2 g7 w7 82 113 ([] : List LoomOrder) p7 := cb.osf (by rfl)
 clear cb
 refine EL_do .plain rfl (D_storeOc (g := g7) (v := tB) Try.sizeOf113 rfl b7 rfl vB fun g8 w8 hs b8 cb => ?_)
 clear cb
 have hfr := hfr.stp hs
 have rp2 := rp2.stp hs
 have q2 := q2.stp hs
 refine EL_at (.int .i64 (y6.2)) rfl rfl ?_
 refine EL_nil (thn_n (E_joinC h (fun (s : (List Int)) e w => ∃ (g : Gh) (v8 : Value), Fr gI wI g w ∧ e 2 = up2 ∧ RV g.m w (x2 : List LoomRun) up2 ∧ e 7 = p2 ∧ PT g.m w (x3 : LoomStop) p2 ∧ e 8 = v8 ∧ RV g.m w (s : List Int) v8 ∧ OS 1008 g w 3 (s : List Int) v8 ∧ e 10 = p7 ∧ OB 2010 g w 113 (y6.1 : LoomStill) p7) (fun X10 mE nE h => ?_) ?_))
 ·refine E_seq (E_region (EL_mw (.int .i64 (y6.2)) rfl rfl ?_))
  refine EL_in (.bool ((y6.2 != (0 : Int)))) rfl rfl rfl rfl ?_
  refine EL_nil (thn_n ?_)
  rcases csome h with ⟨yB, h⟩ | ⟨yB, h⟩
  ·refine E_ct yB rfl ?_
   refine E_seq (E_region (EL_mw (.int .i64 (y6.2)) rfl rfl ?_))
   refine EL_at (.slice none 0 0) rfl rfl ?_
   refine EL_at (.int .i64 (y6.2)) rfl rfl ?_
   refine EL_nil (thn_n (E_ret (thn_r ?_)))
   obtain rfl := sinj h
   exact end2 rfl rfl (show _ = .slice none 0 0 from rfl) (show _ = .int .i64 (y6.2) from rfl) ⟨_, hfr, _, _, rfl, RV_nil, rfl⟩
  ·refine E_cf yB rfl ?_
   exact E_skip (thn_n (nE ([]) _ _ ⟨g8, (.slice none 0 0), hfr, rfl, rp2, rfl, q2, rfl, RV_nil, OS.nil, rfl, b8⟩ h))
 ·rintro mC eG yG ⟨tF, zD, hfr, aE, qC, bE, cE, dE, eE, iE, iD, jD⟩ h
  obtain ⟨n8, hx, h⟩ := bsome h
  refine E_join (fun e w => ∃ (g : Gh) (v8 : Value), Fr gI wI g w ∧ e 8 = v8 ∧ RV g.m w (n8 : List Int) v8 ∧ OS 1008 g w 3 (n8 : List Int) v8) (fun Q' hQ => ?_) (fun vF gG hR => ?_)
  ·replace h := hx
   clear hx
   refine E_seq (E_region (EL_mv aE rfl ?_))
   refine EL_p (.int .i64 ((x2).length : Int)) (P_len Try.underlying31 rfl qC) rfl ?_
   refine EL_mw (.int .i64 (0)) rfl rfl ?_
   refine EL_nil (thn_n (E_block ?_))
   refine E_lp h (fun (s : (List Int) × Int) e w => ∃ (g : Gh) (v8 : Value), Fr gI wI g w ∧ e 7 = p2 ∧ PT g.m w (x3 : LoomStop) p2 ∧ e 8 = v8 ∧ RV g.m w (s.1 : List Int) v8 ∧ OS 1008 g w 3 (s.1 : List Int) v8 ∧ e 10 = p7 ∧ OB 2010 g w 113 (y6.1 : LoomStill) p7 ∧ e 24 = up2 ∧ RV g.m w (x2 : List LoomRun) up2 ∧ e 25 = .int .i64 (((x2).length : Int)) ∧ e 26 = .int .i64 (s.2)) ⟨tF, (zD), hfr, bE, cE, dE, eE, iE, iD, jD, rfl, qC, rfl, rfl⟩ (fun X78 lE oE => ?_)
   rintro ⟨m8, o0⟩ hG zG ⟨lD, r8, hfr, aB, t5, dB, x5, i6, l9, l5, n9, u3, u9, x8⟩ h
   refine E_seq (E_region (EL_in (.bool ((decide (o0 < ((x2).length : Int))))) x8 u9 rfl rfl ?_))
   refine EL_nil (thn_n (E_seq ?_))
   rcases csome h with ⟨zB, h⟩ | ⟨zB, h⟩
   ·refine E_ct zB rfl ?_
    refine E_skip (thn_n ?_)
    obtain ⟨l8, hx, h⟩ := bsome h
    refine E_join (fun e w => ∃ (g : Gh) (v8 : Value), Fr gI wI g w ∧ e 7 = p2 ∧ PT g.m w (x3 : LoomStop) p2 ∧ e 8 = v8 ∧ RV g.m w (l8 : List Int) v8 ∧ OS 1008 g w 3 (l8 : List Int) v8 ∧ e 10 = p7 ∧ OB 2010 g w 113 (y6.1 : LoomStill) p7 ∧ e 24 = up2 ∧ RV g.m w (x2 : List LoomRun) up2 ∧ e 25 = .int .i64 (((x2).length : Int)) ∧ e 26 = .int .i64 (o0)) (fun Q' hQ => ?_) (fun xF iG hR => ?_)
    ·replace h := hx
     clear hx
     refine E_block ?_
     refine E_seq (E_region ?_)
     obtain ⟨i7, rC, h⟩ := bsome h
     refine EL_p (ePtr up2 o0 3) (P_indexAddr (α := LoomRun) Try.underlying31 Try.sizeOf76 n9 u3 x8 rC) rfl ?_
     have rE := PT_idx u3 rC
     refine EL_do .plain rfl (D_load (g := lD) Try.isAgg76 Try.sizeOf76 rfl rE fun sE cC => ?_)
     refine EL_do .plain rfl (D_allocOc (g := lD) 2012 (⟨0, 0, 0⟩ : LoomRun) Try.zeroValue76 (fun m w => ⟨_, (rep_two rep_int (rep_two rep_int rep_int)), rfl⟩) fun tE jG iB hs b114 cb => ?_)
     have hfr := hfr.stp hs
     have t5 := t5.stp hs
     have x5 := x5.stp hs
     have i6 := i6.stp hs rfl
     have l5 := l5.stp hs rfl
     have u3 := u3.stp hs
     have cC := cC.stp hs
     clear cb
     refine EL_do .plain rfl (D_storeOc (g := tE) (v := sE) Try.sizeOf76 rfl b114 rfl cC fun k9 kG hs b115 cb => ?_)
     clear cb
     have hfr := hfr.stp hs
     have t5 := t5.stp hs
     have x5 := x5.stp hs
     have i6 := i6.stp hs rfl
     have l5 := l5.stp hs rfl
     have u3 := u3.stp hs
     refine EL_nil (thn_n ?_)
     obtain ⟨m7, hx, h⟩ := bsome h
     refine E_join (fun e w => ∃ (g : Gh) , Fr gI wI g w ∧ e 7 = p2 ∧ PT g.m w (x3 : LoomStop) p2 ∧ e 8 = r8 ∧ RV g.m w (m8 : List Int) r8 ∧ OS 1008 g w 3 (m8 : List Int) r8 ∧ e 10 = p7 ∧ OB 2010 g w 113 (y6.1 : LoomStill) p7 ∧ e 12 = iB ∧ OB 2012 g w 76 (i7 : LoomRun) iB ∧ e 24 = up2 ∧ RV g.m w (x2 : List LoomRun) up2 ∧ e 25 = .int .i64 (((x2).length : Int)) ∧ e 26 = .int .i64 (o0) ∧ e 39 = .bool (m7)) (fun Q' hQ => ?_) (fun yF lG hR => ?_)
     ·replace h := hx
      clear hx
      refine E_region (EL_p (fPtr iB 1) (P_fieldAddr at_76_1 rfl (OB.ptr b115)) rfl ?_)
      refine EL_do .plain rfl (D_loadF (g := k9) part_LoomRun_1.1 Try.isAgg3 Try.sizeOf3 rfl b115 fun mG uE => ?_)
      obtain rfl := RV_int.1 uE
      refine EL_p (fPtr p2 0) (P_fieldAddr at_54_0 aB (PT.ptr t5)) rfl ?_
      have vE := PT_field (part_LoomStop_0).1 t5
      refine EL_do .plain rfl (D_load (g := k9) Try.isAgg3 Try.sizeOf3 rfl vE fun nG xE => ?_)
      obtain rfl := RV_int.1 xE
      refine EL_in (.bool (((i7).Loom == (x3).Loom))) rfl rfl rfl rfl ?_
      refine EL_mw (.bool (((i7).Loom == (x3).Loom))) rfl rfl ?_
      rcases csome h with ⟨j6, h⟩ | ⟨j6, h⟩
      ·refine EL_do (.yes2 rfl rfl j6) rfl (D_loadO (g := k9) Try.isAgg113 Try.sizeOf113 l9 l5 fun yE zE => ?_)
       refine EL_do (.yes2 rfl rfl j6) rfl (D_loadO (g := k9) Try.isAgg76 Try.sizeOf76 rfl b115 fun cF dF => ?_)
       obtain ⟨oB, jE, h⟩ := bsome h
       refine EL_do (.yes2 rfl rfl j6) rfl (D_call (g := k9) (vs := [yE, cF]) en66 (.cons rfl (.cons rfl .nil)) (wk66 zE dF jE) fun eF zF oG hs hr => ?_)
       have hfr := hfr.ext hs
       have t5 := t5.ext hs
       have x5 := x5.ext hs
       have i6 := i6.ext hs
       have l5 := l5.ext hs
       have u3 := u3.ext hs
       have b115 := b115.ext hs
       subst hr
       refine EL_p (.bool (oB)) (P_pick (b := ((i7).Loom == (x3).Loom)) rfl (pick_t j6 rfl)) rfl ?_
       refine EL_nil ?_
       obtain rfl := sinj h
       exact hQ _ _ ⟨eF, hfr, aB, t5, dB, x5, i6, l9, l5, rfl, b115, n9, u3, u9, x8, rfl⟩
      ·refine EL_s rfl rfl j6 rfl rfl ?_
       refine EL_s rfl rfl j6 rfl rfl ?_
       refine EL_s rfl rfl j6 rfl rfl ?_
       refine EL_p (.bool false) (P_pick (b := ((i7).Loom == (x3).Loom)) rfl (pick_f j6 rfl)) rfl ?_
       refine EL_nil ?_
       obtain rfl := sinj h
       exact hQ _ _ ⟨k9, hfr, aB, t5, dB, x5, i6, l9, l5, rfl, b115, n9, u3, u9, x8, rfl⟩
     ·clear hx
      obtain ⟨eC, hfr, lB, k8, mB, a9, d9, y9, x6, uC, z9, bA, d7, iA, rA, yA⟩ := hR
      rcases csome h with ⟨jB, h⟩ | ⟨jB, h⟩
      ·refine E_cond_true (Eq.trans (show ev _ _ = .bool (m7) from yA) (congrArg Value.bool jB)) ?_
       refine E_region (EL_mv mB rfl ?_)
       refine EL_p (fPtr iB 0) (P_fieldAddr at_76_0 uC (OB.ptr z9)) rfl ?_
       refine EL_do .plain rfl (D_loadF (g := eC) part_LoomRun_0.1 Try.isAgg3 Try.sizeOf3 rfl z9 fun sG iF => ?_)
       obtain rfl := RV_int.1 iF
       refine EL_do .plain rfl (D_buildSlice (g := eC) 3043 (xs := ([(i7).Order] : List Int)) (vs := [.int .i64 ((i7).Order)]) Try.underlying22 Try.sizeOf3 Try.zeroValue3 rfl rfl (.cons rfl .nil) (RVs.cons (RV_int.2 rfl) RVs.nil) rfl rfl fun nF tG uG hs o138 oF hxt hfl => ?_)
       have hfr := hfr.stp hs
       have k8 := k8.stp hs
       have a9 := a9.stp hs
       have d9 := d9.stp hs rfl
       have x6 := x6.stp hs rfl
       have d7 := d7.stp hs
       obtain ⟨y140, kE, h⟩ := bsome h
       refine EL_do .plain rfl (D_append (g := nF) (i := 1008) Try.underlying22 info_3 rfl rfl d9 a9 rfl oF kE fun pF vG mD hs o139 qF _ => ?_)
       have hfr := hfr.stp hs
       have k8 := k8.stp hs
       have x6 := x6.stp hs rfl
       have d7 := d7.stp hs
       refine EL_at mD rfl rfl ?_
       refine EL_nil (blk_n ?_)
       obtain rfl := sinj h
       exact hQ _ _ ⟨pF, (mD), hfr, lB, k8, rfl, qF, o139, y9, x6, bA, d7, iA, rA⟩
      ·refine E_cond_false (Eq.trans (show ev _ _ = .bool (m7) from yA) (congrArg Value.bool jB)) ?_
       refine E_skip (blk_n ?_)
       obtain rfl := sinj h
       exact hQ _ _ ⟨eC, (r8), hfr, lB, k8, mB, a9, d9, y9, x6, bA, d7, iA, rA⟩
    ·clear hx
     obtain ⟨rF, nD, hfr, oD, sD, tD, uD, vD, vC, aD, bD, cD, eD, gD⟩ := hR
     refine E_region (EL_in (.int .i64 ((w64 (o0 + (1 : Int))))) gD rfl rfl rfl ?_)
     refine EL_mw (.int .i64 ((w64 (o0 + (1 : Int))))) rfl rfl ?_
     exact EL_nil (thn_n (oE (l8, (w64 (o0 + (1 : Int)))) _ _ ⟨rF, (nD), hfr, oD, sD, tD, uD, vD, vC, aD, bD, cD, eD, rfl⟩ h))
   ·refine E_cf zB rfl ?_
    refine E_exit ?_
    refine thn_e ?_
    refine thn_e ?_
    refine blk_hit ?_
    obtain rfl := sinj h
    exact hQ _ _ ⟨lD, (r8), hfr, dB, x5, i6⟩
  ·clear hx
   obtain ⟨xG, nB, hfr, xD, yD, uF⟩ := hR
   refine E_seq (E_region (EL_mv xD rfl ?_))
   refine EL_at nB rfl rfl ?_
   refine EL_at (.int .i64 (0)) rfl rfl ?_
   refine EL_nil (thn_n (E_ret ?_))
   obtain rfl := sinj h
   exact end2 rfl rfl (show _ = nB from rfl) (show _ = .int .i64 (0) from rfl) ⟨_, hfr, _, _, rfl, yD, rfl⟩
theorem v67_0 {iO : Nat} {gI : Gh} {wI : World} {x0 : List LoomRun} {up0 : Value} (rp0 : RV gI.m wI x0 up0) {r : List LoomRun} (h : f67 x0 = some r) : FnG Try.prog 67 #[up0] gI wI (fun g w v => OM iO g w 76 r v) := by
 unfold f67 at h
 refine fnG_of_E Try.func67 rfl (Nat.le_of_ble_eq_true rfl) fun g0 hm hfr => ?_
 have rp0 : RV g0.m wI x0 up0 := hm ▸ rp0
 show E _ 8 none _ _ _ _ _
 refine E_seq (E_region (EL_at (.slice none 0 0) rfl rfl (EL_nil (thn_n ?_))))
 refine E_seq (E_seq (E_region (EL_mw up0 rfl rfl ?_)))
 obtain ⟨a, c, hv, hc, hrow⟩ := RV_list rp0
 refine EL_p (.bool a.isNone) (P_slnil Try.underlying31 (show ev _ _ = _ from hv)) rfl (EL_nil (thn_n ?_))
 cases a with
 | none =>
  have hx : x0 = [] := by
   cases x0 with
   | nil => rfl
   | cons y ys => obtain ⟨b, off, hb, _⟩ := hrow (by simp); cases hb
  subst hx
  have hr : r = [] := by unfold apnd at h; split at h <;> simp at h; exact h
  subst hr
  refine E_cond_true rfl (E_seq (E_region ?_))
  refine EL_at (.slice none 0 0) rfl rfl (EL_nil (thn_n ?_))
  obtain ⟨gh, hxh, homh⟩ := OM.handn (i := iO) (t := 76) (α := LoomRun) hfr; exact E_ret (thn_r (end1 rfl rfl (show _ = .slice none 0 0 from rfl) ⟨gh, hxh, homh⟩))
 | some a =>
  refine E_cond_false rfl (E_skip (thn_n ?_))
  refine E_seq (E_region (EL_do .plain rfl (D_buildSlice (g := g0) 1 (xs := ([] : List LoomRun)) (vs := []) Try.underlying31 Try.sizeOf76 Try.zeroValue76 rfl rfl .nil RVs.nil rfl rfl fun g1 w1 v1 hs o1 r1 hxt hfl => ?_)))
  have hfr := hfr.stp hs
  have rp0 := rp0.stp hs
  refine EL_mw up0 rfl rfl ?_
  refine EL_do .plain rfl (D_append (g := g1) (i := 1) Try.underlying31 info_76 rfl rfl o1 r1 rfl rp0 h fun g2 w2 v2 hs o2 r2 _ => ?_)
  have hfr := hfr.stp hs
  refine EL_at v2 rfl rfl (EL_nil (thn_n ?_))
  obtain ⟨gh, hxh, homh⟩ := OM.hand (i := iO) plain_LoomRun hfr o2 r2; exact E_ret (end1 rfl rfl (show _ = v2 from rfl) ⟨gh, hxh, homh⟩)
def f40 (x0 : LoomMill) (x1 : List LoomOrder) (x2 : List LoomRun) : Option (Int × Int) :=
 (f50 x0 x1).bind fun y4 =>
 jn (σ := Unit) (fun _ =>
  (f78 (y4.1) x2).bind fun o0 =>
  some (o0.1, o0.2)
  ) fun k8 =>
 bif (y4.2 != (0 : Int)) then
  some ((0 : Int), y4.2)
 else
  k8 ()
theorem en40 : Enters Try.prog 40 := enters_of Try.func40 (by kernel_rfl) rfl
theorem wk40 {gI : Gh} {wI : World} {x0 : LoomMill} {x1 : List LoomOrder} {x2 : List LoomRun} {up0 : Value} (rp0 : RV gI.m wI x0 up0) {up1 : Value} (rp1 : RV gI.m wI x1 up1) {up2 : Value} (rp2 : RV gI.m wI x2 up2) {r : Int × Int} (h : f40 x0 x1 x2 = some r) : Fn Try.prog 40 #[up0, up1, up2] gI wI (fun m w v => ∃ y0 y1, v = .tuple #[y0, y1] ∧ y0 = .int .i64 (r.1) ∧ y1 = .int .i64 (r.2)) := by
 unfold f40 at h
 refine fn_of_E Try.func40 rfl (Nat.le_of_ble_eq_true rfl) fun g0 hm hfr => ?_
 have rp0 : RV g0.m wI x0 up0 := hm ▸ rp0
 have rp1 : RV g0.m wI x1 up1 := hm ▸ rp1
 have rp2 : RV g0.m wI x2 up2 := hm ▸ rp2
 show E _ 23 none _ _ _ _ _
 refine E_seq (E_region (EL_do .plain rfl (D_box (g := g0) rfl rp0 fun g1 w1 p1 hs q1 => ?_)))
 have hfr := hfr.ext hs
 have rp1 := rp1.ext hs
 have rp2 := rp2.ext hs
 refine EL_at (.int .i64 (0)) rfl rfl ?_
 refine EL_at (.int .i64 (0)) rfl rfl ?_
 refine EL_nil (thn_n (E_seq (E_region (EL_do .plain rfl (D_load (g := g1) Try.isAgg24 Try.sizeOf24 rfl q1 fun v2 r2 => ?_)))))
 refine EL_mw up1 rfl rfl ?_
 obtain ⟨y4, i7, h⟩ := bsome h
 refine EL_do .plain rfl (D_call (g := g1) (vs := [v2, up1]) en50 (.cons rfl (.cons rfl .nil)) (wk50 r2 rp1 i7) fun g3 w3_ v3 hs hr => ?_)
 have hfr := hfr.ext hs
 have rp2 := rp2.ext hs
 obtain ⟨u3, r8, rfl, l5, rfl⟩ := hr
 refine EL_mw (.tuple #[u3, .int .i64 (y4.2)]) rfl rfl ?_
 refine EL_p u3 (P_extract rfl rfl) rfl ?_
 refine EL_p (.int .i64 (y4.2)) (P_extract rfl rfl) rfl ?_
 refine EL_do .plain rfl (D_allocOc (g := g3) 2008 (⟨⟨[], 0⟩, []⟩ : LoomLoomMill) Try.zeroValue96 (fun m w => ⟨_, (rep_two (rep_two rep_nil rep_int) rep_nil), rfl⟩) fun g5 w5 p5 hs b5 cb => ?_)
 have hfr := hfr.stp hs
 have rp2 := rp2.stp hs
 have l5 := l5.stp hs
 have v8 : OSF 2008 60800 0 g5 w5 3 96 ([] : List Int) p5 := cb.osf (by rfl)
 have x8 : OSF 2008 60802 2 g5 w5 82 96 ([] : List LoomOrder) p5 := cb.osf (by rfl)
 clear cb
 refine EL_do .plain rfl (D_storeOc (g := g5) (v := u3) Try.sizeOf96 rfl b5 rfl l5 fun g6 w6 hs b6 cb => ?_)
 clear cb
 have hfr := hfr.stp hs
 have rp2 := rp2.stp hs
 refine EL_at (.int .i64 (y4.2)) rfl rfl ?_
 refine EL_nil (thn_n (E_joinC h (fun (s : Unit) e w => ∃ (g : Gh) , Fr gI wI g w ∧ e 2 = up2 ∧ RV g.m w (x2 : List LoomRun) up2 ∧ e 8 = p5 ∧ OB 2008 g w 96 (y4.1 : LoomLoomMill) p5) (fun X8 k8 m7 h => ?_) ?_))
 ·refine E_seq (E_region (EL_mw (.int .i64 (y4.2)) rfl rfl ?_))
  refine EL_in (.bool ((y4.2 != (0 : Int)))) rfl rfl rfl rfl ?_
  refine EL_nil (thn_n ?_)
  rcases csome h with ⟨t5, h⟩ | ⟨t5, h⟩
  ·refine E_ct t5 rfl ?_
   refine E_seq (E_region (EL_mw (.int .i64 (y4.2)) rfl rfl ?_))
   refine EL_at (.int .i64 (0)) rfl rfl ?_
   refine EL_at (.int .i64 (y4.2)) rfl rfl ?_
   refine EL_nil (thn_n (E_ret (thn_r ?_)))
   obtain rfl := sinj h
   exact end2 rfl rfl (show _ = .int .i64 (0) from rfl) (show _ = .int .i64 (y4.2) from rfl) ⟨_, hfr, _, _, rfl, rfl, rfl⟩
  ·refine E_cf t5 rfl ?_
   exact E_skip (thn_n (m7 () _ _ ⟨g6, hfr, rfl, rp2, rfl, b6⟩ h))
 ·rintro _ a9 k9 ⟨y6, hfr, x5, i6, j6, x6⟩ h
  refine E_seq (E_region (EL_do .plain rfl (D_loadO (g := y6) Try.isAgg96 Try.sizeOf96 j6 x6 fun g8 l8 => ?_)))
  refine EL_mv x5 rfl ?_
  obtain ⟨o0, d7, h⟩ := bsome h
  refine EL_do .plain rfl (D_call (g := y6) (vs := [g8, up2]) en78 (.cons rfl (.cons rfl .nil)) (wk78 l8 i6 d7) fun l9 d9 n9 hs hr => ?_)
  have hfr := hfr.ext hs
  obtain ⟨m8, n8, rfl, rfl, rfl⟩ := hr
  refine EL_p (.int .i64 (o0.1)) (P_extract rfl rfl) rfl ?_
  refine EL_p (.int .i64 (o0.2)) (P_extract rfl rfl) rfl ?_
  refine EL_at (.int .i64 (o0.1)) rfl rfl ?_
  refine EL_at (.int .i64 (o0.2)) rfl rfl ?_
  refine EL_nil (thn_n (E_ret ?_))
  obtain rfl := sinj h
  exact end2 rfl rfl (show _ = .int .i64 (o0.1) from rfl) (show _ = .int .i64 (o0.2) from rfl) ⟨_, hfr, _, _, rfl, rfl, rfl⟩
theorem W15 {iO : Nat} {gI : Gh} {wI : World} {x0 : LoomMill} {up0 : Value} (rp0 : RV gI.m wI x0 up0) {r : LoomMill} (h : f15 x0 = some r) : FnG Try.prog 15 #[up0] gI wI (fun g w v => OWx ow_LoomMill iO g w r v) := by
 unfold f15 at h
 refine fnG_of_E Try.func15 rfl (Nat.le_of_ble_eq_true rfl) fun g0 hm hfr => ?_
 have rp0 : RV g0.m wI x0 up0 := hm ▸ rp0
 show E _ 9 none _ _ _ _ _
 refine E_seq (E_region (EL_do .plain rfl (D_boxV (g := g0) ow_LoomMill 2001 rfl rp0 fun g1 w1 bk1 hs b1 => ?_)))
 have hfr := hfr.stp hs
 refine EL_do .plain rfl (D_allocOc (g := g1) 2002 (⟨[], 0⟩ : LoomMill) Try.zeroValue24 (fun m w => ⟨_, (rep_two rep_nil rep_int), rfl⟩) fun g2 w2 p2 hs b2 cb => ?_)
 have hfr := hfr.stp hs
 have b1 := b1.stp hs rfl
 have i6 : OSF 2002 60200 0 g2 w2 3 24 ([] : List Int) p2 := cb.osf (by rfl)
 clear cb
 refine EL_nil (thn_n (E_seq (E_region (EL_do .plain rfl (D_buildSlice (g := g2) 3003 (xs := ([] : List Int)) (vs := []) Try.underlying22 Try.sizeOf3 Try.zeroValue3 rfl rfl .nil RVs.nil rfl rfl fun g3 w3 v3 hs o3 r3 hxt hfl => ?_)))))
 have hfr := hfr.stp hs
 have b1 := b1.stp hs rfl
 have b2 := b2.stp hs rfl
 refine EL_p ((.pointer (some ⟨bk1, (0 + 0), none⟩))) (P_fieldAddrH at_24_0 rfl) rfl ?_
 refine EL_do .plain rfl (D_loadSh (g := g3) (Cxt.fld (Cxt.root ow_LoomMill bk1) fl_LoomMill_0 (x0) ((ow_LoomMill).s0)) rfl rfl Try.isAgg22 Try.sizeOf22 rfl b1 fun v6 r6 => ?_)
 obtain ⟨y8, t5, h⟩ := bsome h
 have oa7 := OA.ofOS o3
 refine EL_do .plain rfl (D_appendA (g := g3) plain_int (i := 3003) Try.underlying22 info_3 rfl rfl oa7 rfl r6 t5 fun g7 w7 v7 hs b7 => ?_)
 have hfr := hfr.stp hs
 have b1 := b1.stp hs rfl
 have b2 := b2.stp hs rfl
 refine EL_p ((.pointer (some ⟨bk1, (0 + 0), none⟩))) (P_fieldAddrH at_24_0 rfl) rfl ?_
 obtain ⟨sk11, ow11, ok11⟩ := OA.toW b7
 refine EL_do .plain rfl (D_storeW (g := g7) (Cxt.fld (Cxt.root ow_LoomMill bk1) fl_LoomMill_0 (x0) ((ow_LoomMill).s0)) rfl rfl Try.sizeOf22 rfl b1 rfl ow11 rfl fun gj12 o0 x5 hsa hsb b12 => ?_)
 have hfr := hfr.stp hsa
 have b2 := b2.stp hsa rfl
 have hfr := hfr.stp hsb
 have b2 := b2.stp hsb rfl
 clear hsa hsb
 replace b12 : OV ow_LoomMill 2001 o0 x5 24 (({ x0 with Widths := y8 } : LoomMill) : LoomMill) bk1 (sk11, Prod.snd (ow_LoomMill).s0) := b12
 refine EL_nil (thn_n (E_seq (E_region (EL_do .plain rfl (D_loadW (g := o0) Try.isAgg24 Try.sizeOf24 rfl b12 rfl fun j6 u3 => ?_)))))
 refine EL_do .plain rfl (D_storeOW (g := o0) Try.sizeOf24 rfl b2 rfl u3 rfl fun gj15 x6 w15 bk15 hsa hsb hpp b15 => ?_)
 have hfr := hfr.stp hsa
 have hfr := hfr.stp hsb
 clear hsa hsb
 subst hpp
 refine EL_nil (thn_n (E_ret ?_))
 obtain rfl := sinj h
 obtain ⟨y6, l5, ow16⟩ := OV.read (t := 24) Try.isAgg24 Try.sizeOf24 b15 rfl
 obtain ⟨gh, hxh, _, homh⟩ := OW.hand (i := iO) hfr ow16 ⟨ok11, trivial⟩
 exact endm_c rfl rfl (show _ = (Value.pointer (some ⟨bk15, 0, none⟩)) from rfl) l5 ⟨gh, hxh, homh⟩
theorem v48_0 {iO : Nat} {gI : Gh} {wI : World} {x0 : Int} {x1 : Int}  {r : (List LoomOrder)} (h : f48 x0 x1 = some r) : FnG Try.prog 48 #[.int .i64 (x0), .int .i64 (x1)] gI wI (fun g w v => OM iO g w 82 (r) v) := by
 unfold f48 at h
 refine fnG_of_E Try.func48 rfl (Nat.le_of_ble_eq_true rfl) fun g0 hm hfr => ?_
 show E _ 11 none _ _ _ _ _
 refine E_seq (E_region (EL_at (.slice none 0 0) rfl rfl ?_))
 refine EL_nil (thn_n (E_seq (E_region ?_)))
 have r1 : RV g0.m wI (⟨(5 : Int), (1 : Int), (10 : Int), 0, (20 : Int)⟩ : LoomOrder) (.agg (setCh [[.int .i64 0], [.int .i64 0], [.int .i64 0], [.int .i64 0], [.int .i64 0]] [(0, .int .i64 (5)), (1, .int .i64 (1)), (2, .int .i64 (10)), (4, .int .i64 (20))]).flatten.toArray) := RV_build rfl (rep_pair (rfl) (rep_pair (rfl) (rep_pair (rfl) (rep_pair (rep_int) (rep_last (rfl))))))
 generalize hv1 : (Value.agg (setCh [[.int .i64 0], [.int .i64 0], [.int .i64 0], [.int .i64 0], [.int .i64 0]] [(0, .int .i64 (5)), (1, .int .i64 (1)), (2, .int .i64 (10)), (4, .int .i64 (20))]).flatten.toArray) = v1 at r1
 refine EL_p v1 (hv1 ▸ P_build (vs := [(0, .int .i64 (5)), (1, .int .i64 (1)), (2, .int .i64 (10)), (4, .int .i64 (20))]) [[.int .i64 0], [.int .i64 0], [.int .i64 0], [.int .i64 0], [.int .i64 0]] lay_82 rfl rfl (.cons rfl (.cons rfl (.cons rfl (.cons rfl .nil)))) ⟨⟨_, rfl, rfl⟩, ⟨⟨_, rfl, rfl⟩, ⟨⟨_, rfl, rfl⟩, ⟨⟨_, rfl, rfl⟩, trivial⟩⟩⟩⟩) rfl ?_
 have r2 : RV g0.m wI (⟨(15 : Int), (2 : Int), (12 : Int), 0, (20 : Int)⟩ : LoomOrder) (.agg (setCh [[.int .i64 0], [.int .i64 0], [.int .i64 0], [.int .i64 0], [.int .i64 0]] [(0, .int .i64 (15)), (1, .int .i64 (2)), (2, .int .i64 (12)), (4, .int .i64 (20))]).flatten.toArray) := RV_build rfl (rep_pair (rfl) (rep_pair (rfl) (rep_pair (rfl) (rep_pair (rep_int) (rep_last (rfl))))))
 generalize hv2 : (Value.agg (setCh [[.int .i64 0], [.int .i64 0], [.int .i64 0], [.int .i64 0], [.int .i64 0]] [(0, .int .i64 (15)), (1, .int .i64 (2)), (2, .int .i64 (12)), (4, .int .i64 (20))]).flatten.toArray) = v2 at r2
 refine EL_p v2 (hv2 ▸ P_build (vs := [(0, .int .i64 (15)), (1, .int .i64 (2)), (2, .int .i64 (12)), (4, .int .i64 (20))]) [[.int .i64 0], [.int .i64 0], [.int .i64 0], [.int .i64 0], [.int .i64 0]] lay_82 rfl rfl (.cons rfl (.cons rfl (.cons rfl (.cons rfl .nil)))) ⟨⟨_, rfl, rfl⟩, ⟨⟨_, rfl, rfl⟩, ⟨⟨_, rfl, rfl⟩, ⟨⟨_, rfl, rfl⟩, trivial⟩⟩⟩⟩) rfl ?_
 refine EL_mw (.int .i64 (x0)) rfl rfl ?_
 refine EL_mw (.int .i64 (x1)) rfl rfl ?_
 have r3 : RV g0.m wI (⟨(5 : Int), x0, x1, 0, (20 : Int)⟩ : LoomOrder) (.agg (setCh [[.int .i64 0], [.int .i64 0], [.int .i64 0], [.int .i64 0], [.int .i64 0]] [(0, .int .i64 (5)), (1, .int .i64 (x0)), (2, .int .i64 (x1)), (4, .int .i64 (20))]).flatten.toArray) := RV_build rfl (rep_pair (rfl) (rep_pair (rfl) (rep_pair (rfl) (rep_pair (rep_int) (rep_last (rfl))))))
 generalize hv3 : (Value.agg (setCh [[.int .i64 0], [.int .i64 0], [.int .i64 0], [.int .i64 0], [.int .i64 0]] [(0, .int .i64 (5)), (1, .int .i64 (x0)), (2, .int .i64 (x1)), (4, .int .i64 (20))]).flatten.toArray) = v3 at r3
 refine EL_p v3 (hv3 ▸ P_build (vs := [(0, .int .i64 (5)), (1, .int .i64 (x0)), (2, .int .i64 (x1)), (4, .int .i64 (20))]) [[.int .i64 0], [.int .i64 0], [.int .i64 0], [.int .i64 0], [.int .i64 0]] lay_82 rfl rfl (.cons rfl (.cons rfl (.cons rfl (.cons rfl .nil)))) ⟨⟨_, rfl, rfl⟩, ⟨⟨_, rfl, rfl⟩, ⟨⟨_, rfl, rfl⟩, ⟨⟨_, rfl, rfl⟩, trivial⟩⟩⟩⟩) rfl ?_
 refine EL_do .plain rfl (D_buildSlice (g := g0) 3010 (xs := ([(⟨(5 : Int), (1 : Int), (10 : Int), 0, (20 : Int)⟩ : LoomOrder), (⟨(15 : Int), (2 : Int), (12 : Int), 0, (20 : Int)⟩ : LoomOrder), (⟨(5 : Int), x0, x1, 0, (20 : Int)⟩ : LoomOrder)] : List LoomOrder)) (vs := [v1, v2, v3]) Try.underlying25 Try.sizeOf82 Try.zeroValue82 rfl rfl (.cons rfl (.cons rfl (.cons rfl .nil))) (RVs.cons r1 (RVs.cons r2 (RVs.cons r3 RVs.nil))) rfl rfl fun g4 w4 v4 hs o4 r4 hxt hfl => ?_)
 have hfr := hfr.stp hs
 refine EL_at v4 rfl rfl ?_
 refine EL_nil (thn_n (E_ret ?_))
 obtain rfl := sinj h
 obtain ⟨gh, hxh, homh⟩ := OM.hand (i := iO) plain_LoomOrder hfr o4 r4
 exact end1 rfl rfl (show _ = v4 from rfl) ⟨gh, hxh, homh⟩
def f34 (x0 : LoomMill) (x1 : List LoomOrder) (x2 : List LoomRun) (x3 : LoomStop) : Option ((List LoomRun) × (List Int) × Int) :=
 (f65 x0 x1 x2 x3).bind fun y7 =>
 jn (σ := (List Int)) (fun m8 =>
  (f67 x2).bind fun zL =>
  Option.bind (α := (List LoomRun)) (
   (f68 x2 ((x3).Loom)).bind fun a9 =>
   lp (σ := (List LoomRun) × Int × Int) (fun pH (u9, iA, i6) =>
    bif (decide (i6 < ((a9).length : Int))) then
     Option.bind (α := (List LoomRun) × Int) (
      (idx a9 i6).bind fun o0 =>
      (idx u9 o0).bind fun oB =>
      Option.bind (α := (List LoomRun)) (
       (epok u9 iA).bind fun tF =>
       bif tF then
        (idx u9 iA).bind fun qH =>
        (f69 ((y7.1).mill) qH ((oB).Order)).bind fun vD =>
        some ((List.set u9 (Int.toNat o0) ({ oB with From := (max64 (oB).From vD) })))
       else
        some (u9)
       ) fun rA =>
      Option.bind (α := (List LoomRun)) (
       (idx rA o0).bind fun sH =>
       (f66 (y7.1) sH).bind fun nE =>
       bif nE then
        (idx rA o0).bind fun tH =>
        some ((List.set rA (Int.toNat o0) ({ tH with From := (w64 (((x3).Days).High + (1 : Int))) })))
       else
        some (rA)
       ) fun xD =>
      some (xD, o0)
      ) fun (aD, mC) =>
     pH (aD, mC, (w64 (i6 + (1 : Int))))
    else
     some (u9)
    ) big (zL, (-1), (0 : Int))
   ) fun tB =>
  jn (σ := (List LoomRun) × (List Int)) (fun (y6, dF) =>
   Option.bind (α := (List Int)) (
    lp (σ := (List Int) × Int) (fun uH (bD, m7) =>
     bif (decide (m7 < ((y6).length : Int))) then
      Option.bind (α := (List Int)) (
       (idx y6 m7).bind fun lB =>
       (f73 ((y7.1).mill) lB).bind fun yD =>
       (idx x1 (lB).Order).bind fun oE =>
       bif (decide (yD > (oE).Late)) then
        (apnd 8 bD (([(lB).Order] : List Int))).bind fun xH =>
        some (xH)
       else
        some (bD)
       ) fun vB =>
      uH (vB, (w64 (m7 + (1 : Int))))
     else
      some (bD)
     ) big (dF, (0 : Int))
    ) fun cD =>
   some (y6, cD, (0 : Int))
   ) fun yH =>
  (f72 tB ((fun a0 => f70 a0))).bind fun zH =>
  bif zH then
   some (([] : List LoomRun), [], (8 : Int))
  else
   yH (tB, m8)
  ) fun aM =>
 bif (y7.2 != (0 : Int)) then
  some (([] : List LoomRun), [], y7.2)
 else
  aM ([])
theorem en34 : Enters Try.prog 34 := enters_of Try.func34 (by kernel_rfl) rfl
theorem wk34 {gI : Gh} {wI : World} {x0 : LoomMill} {x1 : List LoomOrder} {x2 : List LoomRun} {x3 : LoomStop} {up0 : Value} (rp0 : RV gI.m wI x0 up0) {up1 : Value} (rp1 : RV gI.m wI x1 up1) {up2 : Value} (rp2 : RV gI.m wI x2 up2) {up3 : Value} (rp3 : RV gI.m wI x3 up3) {r : (List LoomRun) × (List Int) × Int} (h : f34 x0 x1 x2 x3 = some r) : Fn Try.prog 34 #[up0, up1, up2, up3] gI wI (fun m w v => ∃ y0 y1 y2, v = .tuple #[y0, y1, y2] ∧ RV m w (r.1) y0 ∧ RV m w (r.2.1) y1 ∧ y2 = .int .i64 (r.2.2)) := by
 unfold f34 at h
 refine fn_of_E Try.func34 rfl (Nat.le_of_ble_eq_true rfl) fun g0 hm hfr => ?_
 have rp0 : RV g0.m wI x0 up0 := hm ▸ rp0
 have rp1 : RV g0.m wI x1 up1 := hm ▸ rp1
 have rp2 : RV g0.m wI x2 up2 := hm ▸ rp2
 have rp3 : RV g0.m wI x3 up3 := hm ▸ rp3
 show E _ 106 none _ _ _ _ _
 refine E_seq (E_region (EL_do .plain rfl (D_box (g := g0) rfl rp0 fun g1 w1 p1 hs q1 => ?_)))
 have hfr := hfr.ext hs
 have rp1 := rp1.ext hs
 have rp2 := rp2.ext hs
 have rp3 := rp3.ext hs
 refine EL_do .plain rfl (D_box (g := g1) rfl rp3 fun g2 w2 p2 hs q2 => ?_)
 have hfr := hfr.ext hs
 have rp1 := rp1.ext hs
 have rp2 := rp2.ext hs
 have q1 := q1.ext hs
 refine EL_at (.slice none 0 0) rfl rfl ?_
 have b3 : OA 4008 g2 w2 76 ([] : List LoomRun) (.slice none 0 0) := OA.nil
 refine EL_at (.slice none 0 0) rfl rfl ?_
 refine EL_at (.int .i64 (0)) rfl rfl ?_
 refine EL_nil (thn_n (E_seq (E_region (EL_do .plain rfl (D_load (g := g2) Try.isAgg24 Try.sizeOf24 rfl q1 fun v4 r4 => ?_)))))
 refine EL_mw up1 rfl rfl ?_
 refine EL_mw up2 rfl rfl ?_
 refine EL_do .plain rfl (D_load (g := g2) Try.isAgg54 Try.sizeOf54 rfl q2 fun v5 r5 => ?_)
 obtain ⟨y7, vN, h⟩ := bsome h
 refine EL_do .plain rfl (D_call (g := g2) (vs := [v4, up1, up2, v5]) en65 (.cons rfl (.cons rfl (.cons rfl (.cons rfl .nil)))) (wk65 r4 rp1 rp2 r5 vN) fun g6 w6_ v6 hs hr => ?_)
 have hfr := hfr.ext hs
 have rp1 := rp1.ext hs
 have rp2 := rp2.ext hs
 have q2 := q2.ext hs
 obtain ⟨uF, mO, rfl, vF, rfl⟩ := hr
 refine EL_mw (.tuple #[uF, .int .i64 (y7.2)]) rfl rfl ?_
 refine EL_p uF (P_extract rfl rfl) rfl ?_
 refine EL_p (.int .i64 (y7.2)) (P_extract rfl rfl) rfl ?_
 refine EL_do .plain rfl (D_allocOc (g := g6) 2011 (⟨⟨⟨[], 0⟩, []⟩, ⟨0, ⟨0, 0⟩⟩⟩ : LoomStill) Try.zeroValue113 (fun m w => ⟨_, (rep_two (rep_two (rep_two rep_nil rep_int) rep_nil) (rep_two rep_int (rep_two rep_int rep_int))), rfl⟩) fun g8 w8 p8 hs b8 cb => ?_)
 have hfr := hfr.stp hs
 have rp1 := rp1.stp hs
 have rp2 := rp2.stp hs
 have q2 := q2.stp hs
 have vF := vF.stp hs
 have nO : OSF 2011 61100 0 g8 w8 3 113 ([] : List Int) p8 := cb.osf (by rfl)
 have oO : OSF 2011 61102 2 g8 w8 82 113 ([] : List LoomOrder) p8 := cb.osf (by rfl)
 clear cb
 refine EL_do .plain rfl (D_storeOc (g := g8) (v := uF) Try.sizeOf113 rfl b8 rfl vF fun g9 w9 hs b9 cb => ?_)
 clear cb
 have hfr := hfr.stp hs
 have rp1 := rp1.stp hs
 have rp2 := rp2.stp hs
 have q2 := q2.stp hs
 refine EL_at (.int .i64 (y7.2)) rfl rfl ?_
 refine EL_nil (thn_n (E_joinC h (fun (s : (List Int)) e w => ∃ (g : Gh) (v9 : Value), Fr gI wI g w ∧ e 1 = up1 ∧ RV g.m w (x1 : List LoomOrder) up1 ∧ e 2 = up2 ∧ RV g.m w (x2 : List LoomRun) up2 ∧ e 7 = p2 ∧ PT g.m w (x3 : LoomStop) p2 ∧ e 9 = v9 ∧ RV g.m w (s : List Int) v9 ∧ OS 1009 g w 3 (s : List Int) v9 ∧ e 11 = p8 ∧ OB 2011 g w 113 (y7.1 : LoomStill) p8) (fun X13 aM cM h => ?_) ?_))
 ·refine E_seq (E_region (EL_mw (.int .i64 (y7.2)) rfl rfl ?_))
  refine EL_in (.bool ((y7.2 != (0 : Int)))) rfl rfl rfl rfl ?_
  refine EL_nil (thn_n ?_)
  rcases csome h with ⟨xF, h⟩ | ⟨xF, h⟩
  ·refine E_ct xF rfl ?_
   refine E_seq (E_region (EL_mw (.int .i64 (y7.2)) rfl rfl ?_))
   refine EL_at (.slice none 0 0) rfl rfl ?_
   have b15 : OA 4008 g9 w9 76 ([] : List LoomRun) (.slice none 0 0) := OA.nil
   refine EL_at (.slice none 0 0) rfl rfl ?_
   refine EL_at (.int .i64 (y7.2)) rfl rfl ?_
   refine EL_nil (thn_n (E_ret (thn_r ?_)))
   obtain ⟨gp16, hs, rp16⟩ := OM.pub (b15.toM)
   have hfr := hfr.stp hs
   obtain rfl := sinj h
   exact end3 rfl rfl (show _ = .slice none 0 0 from rfl) (show _ = .slice none 0 0 from rfl) (show _ = .int .i64 (y7.2) from rfl) ⟨_, hfr, _, _, _, rfl, rp16, RV_nil, rfl⟩
  ·refine E_cf xF rfl ?_
   exact E_skip (thn_n (cM ([]) _ _ ⟨g9, (.slice none 0 0), hfr, rfl, rp1, rfl, rp2, rfl, q2, rfl, RV_nil, OS.nil, rfl, b9⟩ h))
 ·rintro m8 pO gQ ⟨xN, x6, hfr, vK, eD, cG, uD, eG, mB, xK, gD, iD, aI, yB⟩ h
  refine E_seq (E_region (EL_mv cG rfl ?_))
  obtain ⟨zL, dM, h⟩ := bsome h
  refine EL_do .plain rfl (D_callG (g := xN) (vs := [up2]) en67 (.cons rfl .nil) (v67_0 (iO := 9031) uD dM) fun bM qO u3 hs hr => ?_)
  have hfr := hfr.ext hs
  have eD := eD.ext hs
  have uD := uD.ext hs
  have mB := mB.ext hs
  have gD := gD.ext hs
  have iD := iD.ext hs
  have yB := yB.ext hs
  have hm18 := hr
  refine EL_at u3 rfl rfl ?_
  refine EL_nil (thn_n (E_seq (E_region (EL_p (epV u3 (-1) 3) (P_assign (rfl.trans epV_nil)) rfl ?_))))
  refine EL_nil (thn_n ?_)
  obtain ⟨tB, hx, h⟩ := bsome h
  refine E_join (fun e w => ∃ (g : Gh) , Fr gI wI g w ∧ e 1 = up1 ∧ RV g.m w (x1 : List LoomOrder) up1 ∧ e 8 = u3 ∧ OM 9031 g w 76 (tB : List LoomRun) u3 ∧ e 9 = x6 ∧ RV g.m w (m8 : List Int) x6 ∧ OS 1009 g w 3 (m8 : List Int) x6 ∧ e 11 = p8 ∧ OB 2011 g w 113 (y7.1 : LoomStill) p8) (fun Q' hQ => ?_) (fun zN rO hR => ?_)
  ·replace h := hx
   clear hx
   refine E_seq (E_region (EL_mv cG rfl ?_))
   refine EL_p (fPtr p2 0) (P_fieldAddr at_54_0 eG (PT.ptr mB)) rfl ?_
   have eM := PT_field (part_LoomStop_0).1 mB
   refine EL_do .plain rfl (D_load (g := bM) Try.isAgg3 Try.sizeOf3 rfl eM fun sO iM => ?_)
   obtain rfl := RV_int.1 iM
   obtain ⟨a9, yK, h⟩ := bsome h
   refine EL_do .plain rfl (D_call (g := bM) (vs := [up2, .int .i64 ((x3).Loom)]) en68 (.cons rfl (.cons rfl .nil)) (wk68 uD yK) fun jM aO nB hs hr => ?_)
   have hfr := hfr.ext hs
   have eD := eD.ext hs
   have mB := mB.ext hs
   have gD := gD.ext hs
   have iD := iD.ext hs
   have yB := yB.ext hs
   have hm18 := hm18.ext hs
   have bI := hr
   refine EL_p (.int .i64 ((a9).length : Int)) (P_len Try.underlying22 rfl bI) rfl ?_
   refine EL_mw (.int .i64 (0)) rfl rfl ?_
   refine EL_nil (thn_n (E_block ?_))
   refine E_lp h (fun (s : (List LoomRun) × Int × Int) e w => ∃ (g : Gh) , Fr gI wI g w ∧ e 1 = up1 ∧ RV g.m w (x1 : List LoomOrder) up1 ∧ e 7 = p2 ∧ PT g.m w (x3 : LoomStop) p2 ∧ e 8 = u3 ∧ OM 9031 g w 76 (s.1 : List LoomRun) u3 ∧ e 9 = x6 ∧ RV g.m w (m8 : List Int) x6 ∧ OS 1009 g w 3 (m8 : List Int) x6 ∧ e 11 = p8 ∧ OB 2011 g w 113 (y7.1 : LoomStill) p8 ∧ e 12 = epV u3 (s.2.1) 3 ∧ e 35 = nB ∧ RV g.m w (a9 : List Int) nB ∧ e 36 = .int .i64 (((a9).length : Int)) ∧ e 37 = .int .i64 (s.2.2)) ⟨jM, hfr, vK, eD, eG, mB, rfl, hm18, xK, gD, iD, aI, yB, rfl, rfl, bI, rfl, rfl⟩ (fun X401 pH zK => ?_)
   rintro ⟨u9, iA, i6⟩ bO tO ⟨rE, hfr, zD, y9, eF, yA, jD, l5, aE, z9, bA, qC, n8, jE, lD, r8, mD, rC⟩ h
   refine E_seq (E_region (EL_in (.bool ((decide (i6 < ((a9).length : Int))))) rC mD rfl rfl ?_))
   refine EL_nil (thn_n (E_seq ?_))
   rcases csome h with ⟨sE, h⟩ | ⟨sE, h⟩
   ·refine E_ct sE rfl ?_
    refine E_skip (thn_n ?_)
    obtain ⟨⟨aD, mC⟩, hx, h⟩ := bsome h
    refine E_join (fun e w => ∃ (g : Gh) , Fr gI wI g w ∧ e 1 = up1 ∧ RV g.m w (x1 : List LoomOrder) up1 ∧ e 7 = p2 ∧ PT g.m w (x3 : LoomStop) p2 ∧ e 8 = u3 ∧ OM 9031 g w 76 (aD : List LoomRun) u3 ∧ e 9 = x6 ∧ RV g.m w (m8 : List Int) x6 ∧ OS 1009 g w 3 (m8 : List Int) x6 ∧ e 11 = p8 ∧ OB 2011 g w 113 (y7.1 : LoomStill) p8 ∧ e 12 = epV u3 mC 3 ∧ e 35 = nB ∧ RV g.m w (a9 : List Int) nB ∧ e 36 = .int .i64 (((a9).length : Int)) ∧ e 37 = .int .i64 (i6)) (fun Q' hQ => ?_) (fun cO uO hR => ?_)
    ·replace h := hx
     clear hx
     refine E_block ?_
     refine E_seq (E_region ?_)
     obtain ⟨o0, gG, h⟩ := bsome h
     refine EL_p (ePtr nB i6 1) (P_indexAddr (α := Int) Try.underlying22 Try.sizeOf3 lD r8 rC gG) rfl ?_
     have kM := PT_idx r8 gG
     refine EL_do .plain rfl (D_load (g := rE) Try.isAgg3 Try.sizeOf3 rfl kM fun vO mM => ?_)
     obtain rfl := RV_int.1 mM
     refine EL_at (.int .i64 (o0)) rfl rfl ?_
     refine EL_nil (thn_n (E_seq (E_region (EL_mv jD rfl ?_))))
     refine EL_mw (.int .i64 (o0)) rfl rfl ?_
     obtain ⟨oB, x8, h⟩ := bsome h
     refine EL_p (ePtr u3 o0 3) (P_indexAddrM (α := LoomRun) Try.underlying31 Try.sizeOf76 rfl l5 rfl x8) rfl ?_
     refine EL_at (ePtr u3 o0 3) rfl rfl ?_
     refine EL_nil (thn_n ?_)
     obtain ⟨rA, hx, h⟩ := bsome h
     refine E_join (fun e w => ∃ (g : Gh) , Fr gI wI g w ∧ e 1 = up1 ∧ RV g.m w (x1 : List LoomOrder) up1 ∧ e 7 = p2 ∧ PT g.m w (x3 : LoomStop) p2 ∧ e 8 = u3 ∧ OM 9031 g w 76 (rA : List LoomRun) u3 ∧ e 9 = x6 ∧ RV g.m w (m8 : List Int) x6 ∧ OS 1009 g w 3 (m8 : List Int) x6 ∧ e 11 = p8 ∧ OB 2011 g w 113 (y7.1 : LoomStill) p8 ∧ e 15 = ePtr u3 o0 3 ∧ e 35 = nB ∧ RV g.m w (a9 : List Int) nB ∧ e 36 = .int .i64 (((a9).length : Int)) ∧ e 37 = .int .i64 (i6)) (fun Q' hQ => ?_) (fun dO xO hR => ?_)
     ·replace h := hx
      clear hx
      refine E_seq (E_region (EL_mv jE rfl ?_))
      obtain ⟨tF, aL, h⟩ := bsome h
      refine EL_p (.bool (tF)) (P_epne Try.underlying116 l5 rfl rfl aL) rfl ?_
      refine EL_nil (thn_n ?_)
      rcases csome h with ⟨tE, h⟩ | ⟨tE, h⟩
      ·refine E_ct tE rfl ?_
       obtain ⟨pb653, po653, pe653⟩ := OM.ptrE (k := 3) l5 x8
       obtain ⟨pb655, po655, pe655⟩ := OM.ptrE (k := 3) l5 x8
       refine L_loadMF (x := .tmp 49) part_LoomRun_2.1 Try.isAgg3 Try.sizeOf3 l5 x8 fun yO nM bL => ?_
       obtain rfl := RV_int.1 nM
       refine L_loadO (x := .tmp 51) part_LoomStill_0.1 Try.isAgg96 Try.sizeOf96 n8 fun dI oM dL => ?_
       obtain ⟨qH, uE, h⟩ := bsome h
       obtain ⟨pb660, po660, pe660⟩ := OM.ptrE (k := 3) l5 uE
       refine L_loadM (x := .tmp 54) Try.isAgg76 Try.sizeOf76 l5 uE fun iI pM eL => ?_
       obtain ⟨pb662, po662, pe662⟩ := OM.ptrE (k := 3) l5 x8
       obtain ⟨pb664, po664, pe664⟩ := OM.ptrE (k := 3) l5 x8
       refine L_loadMF (x := .tmp 58) part_LoomRun_0.1 Try.isAgg3 Try.sizeOf3 l5 x8 fun zO qM gL => ?_
       obtain rfl := RV_int.1 qM
       obtain ⟨vD, iL, h⟩ := bsome h
       obtain ⟨pb668, po668, pe668⟩ := OM.ptrE (k := 3) l5 x8
       obtain ⟨pb670, po670, pe670⟩ := OM.ptrE (k := 3) l5 x8
       refine E_drawL (g := rE) (n := 18) [(14, (fun v g w => v = .int .i64 (vD)))] [0, 1, 2, 3, 4, 5, 6, 7, 8, 9, 10, 11, 12, 13, 14, 15, 16, 17] rfl mixed (by kernel_rfl) (⟨fun _ => up_eq _, trivial⟩) ?_
       refine L_p (ePtr u3 o0 3) rfl rfl (P_move rfl) ?_
       refine L_p (ePtr u3 o0 3) rfl rfl (P_move rfl) ?_
       refine L_p (ePtr u3 o0 3) rfl rfl (P_nilCk rfl pe653) ?_
       refine L_p (fPtr (ePtr u3 o0 3) 2) rfl rfl (P_fieldAddr at_76_2 rfl ⟨_, _, pe655⟩) ?_
       refine L_ld (c := .int .i64 ((oB).From)) rfl rfl .plain (fun _ _ h => ⟨h.ch, fun b hb _ => h.below.block b hb⟩) bL rfl ?_
       refine L_p (fPtr p8 0) rfl rfl (P_fieldAddr at_113_0 qC (OB.ptr n8)) ?_
       refine L_ld (c := dI) rfl rfl .plain (fun _ _ h => ⟨h.ch, fun b hb _ => h.below.block b hb⟩) dL rfl ?_
       refine L_p (epV u3 iA 3) rfl rfl (P_move jE) ?_
       refine L_p (ePtr u3 iA 3) rfl rfl (P_nilCk (rfl.trans (epV_pos uE)) pe660) ?_
       refine L_ld (c := iI) rfl rfl .plain (fun _ _ h => ⟨h.ch, fun b hb _ => h.below.block b hb⟩) eL rfl ?_
       refine L_p (ePtr u3 o0 3) rfl rfl (P_move rfl) ?_
       refine L_p (ePtr u3 o0 3) rfl rfl (P_nilCk rfl pe662) ?_
       refine L_p (fPtr (ePtr u3 o0 3) 0) rfl rfl (P_fieldAddr at_76_0 rfl ⟨_, _, pe664⟩) ?_
       refine L_ld (c := .int .i64 ((oB).Order)) rfl rfl .plain (fun _ _ h => ⟨h.ch, fun b hb _ => h.below.block b hb⟩) gL rfl ?_
       refine L_do (φ := fun v g w => v = .int .i64 (vD)) rfl rfl .plain (fun g w hd => D_call (g := g) (vs := [dI, iI, .int .i64 ((oB).Order)]) en69 (.cons rfl (.cons rfl (.cons rfl .nil))) (wk69 (oM.ext hd.1) (pM.ext hd.1) iL) fun g' w' v hs hr => ⟨g', hs, hr⟩) (fun aP hv => ?_)
       obtain ⟨_, _, _, rfl⟩ := hv
       refine L_p (.int .i64 (max64 (oB).From vD)) rfl rfl (P_max rfl rfl) ?_
       refine L_p (ePtr u3 o0 3) rfl rfl (P_nilCk rfl pe668) ?_
       refine L_p (fPtr (ePtr u3 o0 3) 2) rfl rfl (P_fieldAddr at_76_2 rfl ⟨_, _, pe670⟩) ?_
       refine L_nl fun rM bP hs => ?_
       have hfr := hfr.ext hs
       have y9 := y9.ext hs
       have yA := yA.ext hs
       have l5 := l5.ext hs
       have z9 := z9.ext hs
       have bA := bA.ext hs
       have n8 := n8.ext hs
       have r8 := r8.ext hs
       clear hs
       refine EL_do .plain rfl (D_storeMF (g := rM) part_LoomRun_2 Try.sizeOf3 rfl l5 x8 rfl (RV_int.2 rfl) fun sM cP hs b709 => ?_)
       have hfr := hfr.stp hs
       have y9 := y9.stp hs
       have yA := yA.stp hs
       have z9 := z9.stp hs
       have bA := bA.stp hs rfl
       have n8 := n8.stp hs rfl
       have r8 := r8.stp hs
       refine EL_nil ?_
       obtain rfl := sinj h
       exact hQ _ _ ⟨sM, hfr, zD, y9, eF, yA, jD, b709, aE, z9, bA, qC, n8, rfl, lD, r8, mD, rC⟩
      ·refine E_cf tE rfl ?_
       refine E_skip ?_
       obtain rfl := sinj h
       exact hQ _ _ ⟨rE, hfr, zD, y9, eF, yA, jD, l5, aE, z9, bA, qC, n8, rfl, lD, r8, mD, rC⟩
     ·clear hx
      obtain ⟨tM, hfr, iF, aB, bE, k9, nF, l9, oF, dB, iB, nD, d9, uC, kE, n9, lE, mE⟩ := hR
      obtain ⟨xD, hx, h⟩ := bsome h
      refine E_join (fun e w => ∃ (g : Gh) , Fr gI wI g w ∧ e 1 = up1 ∧ RV g.m w (x1 : List LoomOrder) up1 ∧ e 7 = p2 ∧ PT g.m w (x3 : LoomStop) p2 ∧ e 8 = u3 ∧ OM 9031 g w 76 (xD : List LoomRun) u3 ∧ e 9 = x6 ∧ RV g.m w (m8 : List Int) x6 ∧ OS 1009 g w 3 (m8 : List Int) x6 ∧ e 11 = p8 ∧ OB 2011 g w 113 (y7.1 : LoomStill) p8 ∧ e 15 = ePtr u3 o0 3 ∧ e 35 = nB ∧ RV g.m w (a9 : List Int) nB ∧ e 36 = .int .i64 (((a9).length : Int)) ∧ e 37 = .int .i64 (i6)) (fun Q' hQ => ?_) (fun eO dP hR => ?_)
      ·replace h := hx
       clear hx
       refine E_seq (L_loadO0 (x := .tmp 11) Try.isAgg113 Try.sizeOf113 d9 fun jI uM jL => ?_)
       obtain ⟨sH, hG, h⟩ := bsome h
       obtain ⟨pb743, po743, pe743⟩ := OM.ptrE (k := 3) l9 hG
       refine L_loadM (x := .tmp 66) Try.isAgg76 Try.sizeOf76 l9 hG fun kI vM lL => ?_
       obtain ⟨nE, mL, h⟩ := bsome h
       refine E_drawL (g := tM) (n := 5) [(4, (fun v g w => v = .bool (nE)))] [0, 1, 2, 3, 4] rfl mixed (by kernel_rfl) (⟨fun _ => up_eq _, trivial⟩) ?_
       refine L_ld (c := jI) rfl rfl .plain (fun _ _ h => ⟨h.ch, fun b hb _ => h.below.block b hb⟩) jL nD ?_
       refine L_p (ePtr u3 o0 3) rfl rfl (P_move uC) ?_
       refine L_p (ePtr u3 o0 3) rfl rfl (P_nilCk rfl pe743) ?_
       refine L_ld (c := kI) rfl rfl .plain (fun _ _ h => ⟨h.ch, fun b hb _ => h.below.block b hb⟩) lL rfl ?_
       refine L_do (φ := fun v g w => v = .bool (nE)) rfl rfl .plain (fun g w hd => D_call (g := g) (vs := [jI, kI]) en66 (.cons rfl (.cons rfl .nil)) (wk66 (uM.ext hd.1) (vM.ext hd.1) mL) fun g' w' v hs hr => ⟨g', hs, hr⟩) (fun eP hv => ?_)
       obtain ⟨_, _, _, rfl⟩ := hv
       refine L_nl fun yF gP hs => ?_
       have hfr := hfr.ext hs
       have aB := aB.ext hs
       have k9 := k9.ext hs
       have l9 := l9.ext hs
       have dB := dB.ext hs
       have iB := iB.ext hs
       have d9 := d9.ext hs
       have n9 := n9.ext hs
       clear hs
       refine EL_nil (thn_n ?_)
       rcases csome h with ⟨vE, h⟩ | ⟨vE, h⟩
       ·refine E_ct vE rfl ?_
        refine E_region (EL_mv uC rfl ?_)
        refine EL_p (fPtr p2 1) (P_fieldAddr at_54_1 bE (PT.ptr k9)) rfl ?_
        have lI := PT_field (part_LoomStop_1).1 k9
        refine EL_p (fPtr (fPtr p2 1) 1) (P_fieldAddr at_48_1 rfl (PT.ptr lI)) rfl ?_
        have xM := PT_field (part_Span_1).1 lI
        refine EL_do .plain rfl (D_load (g := yF) Try.isAgg3 Try.sizeOf3 rfl xM fun iP yM => ?_)
        obtain rfl := RV_int.1 yM
        refine EL_in (.int .i64 ((w64 (((x3).Days).High + (1 : Int))))) rfl rfl rfl rfl ?_
        obtain ⟨tH, xE, h⟩ := bsome h
        obtain ⟨pb767, po767, pe767⟩ := OM.ptrE (k := 3) l9 xE
        refine EL_p (ePtr u3 o0 3) (P_nilCk rfl pe767) rfl ?_
        obtain ⟨pb769, po769, pe769⟩ := OM.ptrE (k := 3) l9 xE
        refine EL_p (fPtr (ePtr u3 o0 3) 2) (P_fieldAddr at_76_2 rfl ⟨_, _, pe769⟩) rfl ?_
        refine EL_do .plain rfl (D_storeMF (g := yF) part_LoomRun_2 Try.sizeOf3 rfl l9 xE rfl (RV_int.2 rfl) fun zM jP hs b770 => ?_)
        have hfr := hfr.stp hs
        have aB := aB.stp hs
        have k9 := k9.stp hs
        have dB := dB.stp hs
        have iB := iB.stp hs rfl
        have d9 := d9.stp hs rfl
        have n9 := n9.stp hs
        refine EL_nil ?_
        obtain rfl := sinj h
        exact hQ _ _ ⟨zM, hfr, iF, aB, bE, k9, nF, b770, oF, dB, iB, nD, d9, uC, kE, n9, lE, mE⟩
       ·refine E_cf vE rfl ?_
        refine E_skip ?_
        obtain rfl := sinj h
        exact hQ _ _ ⟨yF, hfr, iF, aB, bE, k9, nF, l9, oF, dB, iB, nD, d9, uC, kE, n9, lE, mE⟩
      ·clear hx
       obtain ⟨bN, hfr, mI, nI, pI, qI, sI, tI, uI, vI, xI, kG, lG, mG, nG, oG, sG, tG⟩ := hR
       refine E_region (EL_mv mG rfl ?_)
       refine EL_p (epV u3 o0 3) (P_assign (rfl.trans (epV_pos x8).symm)) rfl ?_
       refine EL_nil (blk_n ?_)
       obtain ⟨rfl, rfl⟩ := pairs2 h
       exact hQ _ _ ⟨bN, hfr, mI, nI, pI, qI, sI, tI, uI, vI, xI, kG, lG, rfl, nG, oG, sG, tG⟩
    ·clear hx
     obtain ⟨cN, hfr, yI, zI, aJ, bJ, cJ, dJ, eJ, gJ, iJ, uG, vG, xG, yG, zG, aH, cH⟩ := hR
     refine E_region (EL_in (.int .i64 ((w64 (i6 + (1 : Int))))) cH rfl rfl rfl ?_)
     refine EL_mw (.int .i64 ((w64 (i6 + (1 : Int))))) rfl rfl ?_
     exact EL_nil (thn_n (zK (aD, mC, (w64 (i6 + (1 : Int)))) _ _ ⟨cN, hfr, yI, zI, aJ, bJ, cJ, dJ, eJ, gJ, iJ, uG, vG, xG, yG, zG, aH, rfl⟩ h))
   ·refine E_cf sE rfl ?_
    refine E_exit ?_
    refine thn_e ?_
    refine thn_e ?_
    refine blk_hit ?_
    obtain rfl := sinj h
    exact hQ _ _ ⟨rE, hfr, zD, y9, jD, l5, aE, z9, bA, qC, n8⟩
  ·clear hx
   obtain ⟨kP, hfr, jJ, zB, pF, kJ, lJ, cC, eC, dH, jB⟩ := hR
   refine E_seq (E_region (EL_at (.func (.func 70) #[] #[]) rfl rfl ?_))
   refine EL_nil (thn_n (E_joinC h (fun (s : (List LoomRun) × (List Int)) e w => ∃ (g : Gh) (v8 v9 : Value), Fr gI wI g w ∧ e 1 = up1 ∧ RV g.m w (x1 : List LoomOrder) up1 ∧ e 8 = v8 ∧ RV g.m w (s.1 : List LoomRun) v8 ∧ e 9 = v9 ∧ RV g.m w (s.2 : List Int) v9 ∧ OS 1009 g w 3 (s.2 : List Int) v9 ∧ e 11 = p8 ∧ OB 2011 g w 113 (y7.1 : LoomStill) p8) (fun X780 yH nL h => ?_) ?_))
   ·refine E_seq (E_region (EL_mv pF rfl ?_))
    refine EL_mw (.func (.func 70) #[] #[]) rfl rfl ?_
    obtain ⟨gp781, hs, rp781⟩ := OM.pub kJ
    have hfr := hfr.stp hs
    have zB := zB.stp hs
    have cC := cC.stp hs
    have eC := eC.stp hs rfl
    have jB := jB.stp hs rfl
    obtain ⟨zH, oL, h⟩ := bsome h
    refine EL_do .plain rfl (D_call (g := gp781) (vs := [u3, .func (.func 70) #[] #[]]) en72 (.cons rfl (.cons rfl .nil)) (wk72 rp781 ⟨70, #[], #[], rfl, en70, fun g' w' hch a0 b0 r hu0 hr => by exact Fn.mono (wk70 hu0  hr) fun _ _ _ h => RV_bool.2 h⟩ oL) fun mJ pL lP hs hr => ?_)
    have hfr := hfr.ext hs
    have zB := zB.ext hs
    have rp781 := rp781.ext hs
    have cC := cC.ext hs
    have eC := eC.ext hs
    have jB := jB.ext hs
    subst hr
    refine EL_nil (thn_n ?_)
    rcases csome h with ⟨yE, h⟩ | ⟨yE, h⟩
    ·refine E_ct yE rfl ?_
     refine E_seq (E_region (EL_at (.slice none 0 0) rfl rfl ?_))
     have b785 : OA 4008 mJ pL 76 ([] : List LoomRun) (.slice none 0 0) := OA.nil
     refine EL_at (.slice none 0 0) rfl rfl ?_
     refine EL_at (.int .i64 (8)) rfl rfl ?_
     refine EL_nil (thn_n (E_ret (thn_r ?_)))
     obtain ⟨gp786, hs, rp786⟩ := OM.pub (b785.toM)
     have hfr := hfr.stp hs
     obtain rfl := sinj h
     exact end3 rfl rfl (show _ = .slice none 0 0 from rfl) (show _ = .slice none 0 0 from rfl) (show _ = .int .i64 (8) from rfl) ⟨_, hfr, _, _, _, rfl, rp786, RV_nil, rfl⟩
    ·refine E_cf yE rfl ?_
     exact E_skip (thn_n (nL (tB, m8) _ _ ⟨mJ, (u3), (x6), hfr, jJ, zB, pF, rp781, lJ, cC, eC, dH, jB⟩ h))
   ·rintro ⟨y6, dF⟩ gO mP ⟨dN, d7, nJ, hfr, oJ, pJ, qF, cE, qJ, rJ, sJ, gH, iH⟩ h
    obtain ⟨cD, hx, h⟩ := bsome h
    refine E_join (fun e w => ∃ (g : Gh) (v9 : Value), Fr gI wI g w ∧ e 8 = d7 ∧ RV g.m w (y6 : List LoomRun) d7 ∧ e 9 = v9 ∧ RV g.m w (cD : List Int) v9 ∧ OS 1009 g w 3 (cD : List Int) v9) (fun Q' hQ => ?_) (fun jO nP hR => ?_)
    ·replace h := hx
     clear hx
     refine E_seq (E_region (EL_mv qF rfl ?_))
     refine EL_p (.int .i64 ((y6).length : Int)) (P_len Try.underlying31 rfl cE) rfl ?_
     refine EL_mw (.int .i64 (0)) rfl rfl ?_
     refine EL_nil (thn_n (E_block ?_))
     refine E_lp h (fun (s : (List Int) × Int) e w => ∃ (g : Gh) (v9 : Value), Fr gI wI g w ∧ e 1 = up1 ∧ RV g.m w (x1 : List LoomOrder) up1 ∧ e 8 = d7 ∧ RV g.m w (y6 : List LoomRun) d7 ∧ e 9 = v9 ∧ RV g.m w (s.1 : List Int) v9 ∧ OS 1009 g w 3 (s.1 : List Int) v9 ∧ e 11 = p8 ∧ OB 2011 g w 113 (y7.1 : LoomStill) p8 ∧ e 81 = d7 ∧ RV g.m w (y6 : List LoomRun) d7 ∧ e 82 = .int .i64 (((y6).length : Int)) ∧ e 83 = .int .i64 (s.2)) ⟨dN, (nJ), hfr, oJ, pJ, qF, cE, qJ, rJ, sJ, gH, iH, rfl, cE, rfl, rfl⟩ (fun X882 uH qL => ?_)
     rintro ⟨bD, m7⟩ kO oP ⟨zF, rF, hfr, dE, j6, eE, i7, iE, k8, l8, oD, t5, sD, x5, tD, vC⟩ h
     refine E_seq (E_region (EL_in (.bool ((decide (m7 < ((y6).length : Int))))) vC tD rfl rfl ?_))
     refine EL_nil (thn_n (E_seq ?_))
     rcases csome h with ⟨zE, h⟩ | ⟨zE, h⟩
     ·refine E_ct zE rfl ?_
      refine E_skip (thn_n ?_)
      obtain ⟨vB, hx, h⟩ := bsome h
      refine E_join (fun e w => ∃ (g : Gh) (v9 : Value), Fr gI wI g w ∧ e 1 = up1 ∧ RV g.m w (x1 : List LoomOrder) up1 ∧ e 8 = d7 ∧ RV g.m w (y6 : List LoomRun) d7 ∧ e 9 = v9 ∧ RV g.m w (vB : List Int) v9 ∧ OS 1009 g w 3 (vB : List Int) v9 ∧ e 11 = p8 ∧ OB 2011 g w 113 (y7.1 : LoomStill) p8 ∧ e 81 = d7 ∧ RV g.m w (y6 : List LoomRun) d7 ∧ e 82 = .int .i64 (((y6).length : Int)) ∧ e 83 = .int .i64 (m7)) (fun Q' hQ => ?_) (fun lO pP hR => ?_)
      ·replace h := hx
       clear hx
       refine E_block ?_
       refine E_seq (E_region ?_)
       obtain ⟨lB, iG, h⟩ := bsome h
       refine EL_p (ePtr d7 m7 3) (P_indexAddr (α := LoomRun) Try.underlying31 Try.sizeOf76 sD x5 vC iG) rfl ?_
       have eN := PT_idx x5 iG
       refine EL_do .plain rfl (D_load (g := zF) Try.isAgg76 Try.sizeOf76 rfl eN fun gN aG => ?_)
       refine EL_do .plain rfl (D_allocOc (g := zF) 2018 (⟨0, 0, 0⟩ : LoomRun) Try.zeroValue76 (fun m w => ⟨_, (rep_two rep_int (rep_two rep_int rep_int)), rfl⟩) fun iN sP vJ hs b933 cb => ?_)
       have hfr := hfr.stp hs
       have j6 := j6.stp hs
       have i7 := i7.stp hs
       have k8 := k8.stp hs
       have l8 := l8.stp hs rfl
       have t5 := t5.stp hs rfl
       have x5 := x5.stp hs
       have aG := aG.stp hs
       clear cb
       refine EL_do .plain rfl (D_storeOc (g := iN) (v := gN) Try.sizeOf76 rfl b933 rfl aG fun jN tP hs b934 cb => ?_)
       clear cb
       have hfr := hfr.stp hs
       have j6 := j6.stp hs
       have i7 := i7.stp hs
       have k8 := k8.stp hs
       have l8 := l8.stp hs rfl
       have t5 := t5.stp hs rfl
       have x5 := x5.stp hs
       refine EL_nil (thn_n (E_seq (L_loadO (x := .tmp 87) part_LoomStill_0.1 Try.isAgg96 Try.sizeOf96 t5 fun xJ kN rL => ?_)))
       refine L_loadO0 (x := .tmp 18) Try.isAgg76 Try.sizeOf76 b934 fun yJ lN tL => ?_
       obtain ⟨yD, uL, h⟩ := bsome h
       refine L_loadO (x := .tmp 92) part_LoomRun_0.1 Try.isAgg3 Try.sizeOf3 b934 fun uP mN vL => ?_
       obtain rfl := RV_int.1 mN
       obtain ⟨oE, jG, h⟩ := bsome h
       have zJ := PT_idx j6 jG
       have nN := PT_field (part_LoomOrder_4).1 zJ
       refine L_load (x := .tmp 95) Try.isAgg3 Try.sizeOf3 nN fun vP oN xL => ?_
       obtain rfl := RV_int.1 oN
       refine E_drawL (g := jN) (n := 11) [(3, (fun v g w => v = .int .i64 (yD)))] [0, 1, 2, 3, 4, 5, 6, 7, 8, 9, 10] rfl mixed (by kernel_rfl) (⟨fun _ => up_eq _, trivial⟩) ?_
       refine L_p (fPtr p8 0) rfl rfl (P_fieldAddr at_113_0 oD (OB.ptr t5)) ?_
       refine L_ld (c := xJ) rfl rfl .plain (fun _ _ h => ⟨h.ch, fun b hb _ => h.below.block b hb⟩) rL rfl ?_
       refine L_ld (c := yJ) rfl rfl .plain (fun _ _ h => ⟨h.ch, fun b hb _ => h.below.block b hb⟩) tL rfl ?_
       refine L_do (φ := fun v g w => v = .int .i64 (yD)) rfl rfl .plain (fun g w hd => D_call (g := g) (vs := [xJ, yJ]) en73 (.cons rfl (.cons rfl .nil)) (wk73 (kN.ext hd.1) (lN.ext hd.1) uL) fun g' w' v hs hr => ⟨g', hs, hr⟩) (fun xP hv => ?_)
       obtain ⟨_, _, _, rfl⟩ := hv
       refine L_p up1 rfl rfl (P_move dE) ?_
       refine L_p (fPtr vJ 0) rfl rfl (P_fieldAddr at_76_0 rfl (OB.ptr b934)) ?_
       refine L_ld (c := .int .i64 ((lB).Order)) rfl rfl .plain (fun _ _ h => ⟨h.ch, fun b hb _ => h.below.block b hb⟩) vL rfl ?_
       refine L_p (ePtr up1 (lB).Order 5) rfl rfl (P_indexAddr (α := LoomOrder) Try.underlying25 Try.sizeOf82 rfl j6 rfl jG) ?_
       refine L_p (fPtr (ePtr up1 (lB).Order 5) 4) rfl rfl (P_fieldAddr at_82_4 rfl (PT.ptr zJ)) ?_
       refine L_ld (c := .int .i64 ((oE).Late)) rfl rfl .plain (fun _ _ h => h.ch) xL rfl ?_
       refine L_p (.bool ((decide (yD > (oE).Late)))) rfl rfl (P_int rfl rfl rfl) ?_
       refine L_nl fun bG yP hs => ?_
       have hfr := hfr.ext hs
       have j6 := j6.ext hs
       have i7 := i7.ext hs
       have k8 := k8.ext hs
       have l8 := l8.ext hs
       have t5 := t5.ext hs
       have x5 := x5.ext hs
       have b934 := b934.ext hs
       clear hs
       refine EL_nil (thn_n ?_)
       rcases csome h with ⟨cF, h⟩ | ⟨cF, h⟩
       ·refine E_ct cF rfl ?_
        refine E_region (EL_mv iE rfl ?_)
        refine EL_p (fPtr vJ 0) (P_fieldAddr at_76_0 rfl (OB.ptr b934)) rfl ?_
        refine EL_do .plain rfl (D_loadF (g := bG) part_LoomRun_0.1 Try.isAgg3 Try.sizeOf3 rfl b934 fun zP pN => ?_)
        obtain rfl := RV_int.1 pN
        refine EL_do .plain rfl (D_buildSlice (g := bG) 3101 (xs := ([(lB).Order] : List Int)) (vs := [.int .i64 ((lB).Order)]) Try.underlying22 Try.sizeOf3 Try.zeroValue3 rfl rfl (.cons rfl .nil) (RVs.cons (RV_int.2 rfl) RVs.nil) rfl rfl fun qN bQ cQ hs o972 rN hxt hfl => ?_)
        have hfr := hfr.stp hs
        have j6 := j6.stp hs
        have i7 := i7.stp hs
        have k8 := k8.stp hs
        have l8 := l8.stp hs rfl
        have t5 := t5.stp hs rfl
        have x5 := x5.stp hs
        obtain ⟨xH, yL, h⟩ := bsome h
        refine EL_do .plain rfl (D_append (g := qN) (i := 1009) Try.underlying22 info_3 rfl rfl l8 k8 rfl rN yL fun sN dQ aK hs o973 tN _ => ?_)
        have hfr := hfr.stp hs
        have j6 := j6.stp hs
        have i7 := i7.stp hs
        have t5 := t5.stp hs rfl
        have x5 := x5.stp hs
        refine EL_at aK rfl rfl ?_
        refine EL_nil (blk_n ?_)
        obtain rfl := sinj h
        exact hQ _ _ ⟨sN, (aK), hfr, dE, j6, eE, i7, rfl, tN, o973, oD, t5, sD, x5, tD, vC⟩
       ·refine E_cf cF rfl ?_
        refine E_skip (blk_n ?_)
        obtain rfl := sinj h
        exact hQ _ _ ⟨bG, (rF), hfr, dE, j6, eE, i7, iE, k8, l8, oD, t5, sD, x5, tD, vC⟩
      ·clear hx
       obtain ⟨uN, bK, hfr, cK, dK, lK, mK, nK, oK, pK, jH, kH, lH, mH, nH, oH⟩ := hR
       refine E_region (EL_in (.int .i64 ((w64 (m7 + (1 : Int))))) oH rfl rfl rfl ?_)
       refine EL_mw (.int .i64 ((w64 (m7 + (1 : Int))))) rfl rfl ?_
       exact EL_nil (thn_n (qL (vB, (w64 (m7 + (1 : Int)))) _ _ ⟨uN, (bK), hfr, cK, dK, lK, mK, nK, oK, pK, jH, kH, lH, mH, nH, rfl⟩ h))
     ·refine E_cf zE rfl ?_
      refine E_exit ?_
      refine thn_e ?_
      refine thn_e ?_
      refine blk_hit ?_
      obtain rfl := sinj h
      exact hQ _ _ ⟨zF, (rF), hfr, eE, i7, iE, k8, l8⟩
    ·clear hx
     obtain ⟨eQ, sF, hfr, qK, sK, tK, uK, yN⟩ := hR
     refine E_seq (E_region (EL_mv qK rfl ?_))
     refine EL_mv tK rfl ?_
     refine EL_at d7 rfl rfl ?_
     refine EL_at sF rfl rfl ?_
     refine EL_at (.int .i64 (0)) rfl rfl ?_
     refine EL_nil (thn_n (E_ret ?_))
     obtain rfl := sinj h
     exact end3 rfl rfl (show _ = d7 from rfl) (show _ = sF from rfl) (show _ = .int .i64 (0) from rfl) ⟨_, hfr, _, _, _, rfl, sK, uK, rfl⟩
theorem v16_0 {iO : Nat} {gI : Gh} {wI : World} {x0 : List LoomOrder} {up0 : Value} (rp0 : RV gI.m wI x0 up0) {r : (List LoomOrder)} (h : f16 x0 = some r) : FnG Try.prog 16 #[up0] gI wI (fun g w v => OM iO g w 82 (r) v) := by
 unfold f16 at h
 refine fnG_of_E Try.func16 rfl (Nat.le_of_ble_eq_true rfl) fun g0 hm hfr => ?_
 have rp0 : RV g0.m wI x0 up0 := hm ▸ rp0
 show E _ 6 none _ _ _ _ _
 refine E_seq (E_region (EL_at (.slice none 0 0) rfl rfl ?_))
 refine EL_nil (thn_n (E_seq (E_region (EL_do .plain rfl (D_buildSlice (g := g0) 3003 (xs := ([] : List LoomOrder)) (vs := []) Try.underlying25 Try.sizeOf82 Try.zeroValue82 rfl rfl .nil RVs.nil rfl rfl fun g1 w1 v1 hs o1 r1 hxt hfl => ?_)))))
 have hfr := hfr.stp hs
 have rp0 := rp0.stp hs
 refine EL_mw up0 rfl rfl ?_
 obtain ⟨y3, hy3, h⟩ := bsome h
 refine EL_do .plain rfl (D_append (g := g1) (i := 3003) Try.underlying25 info_82 rfl rfl o1 r1 rfl rp0 hy3 fun g2 w2 v2 hs o2 r2 _ => ?_)
 have hfr := hfr.stp hs
 refine EL_at v2 rfl rfl ?_
 refine EL_nil (thn_n (E_ret ?_))
 obtain rfl := sinj h
 obtain ⟨gh, hxh, homh⟩ := OM.hand (i := iO) plain_LoomOrder hfr o2 r2
 exact end1 rfl rfl (show _ = v2 from rfl) ⟨gh, hxh, homh⟩
def f14  : Option (Bool) :=
 (f46 ((0 : Int)) ((0 : Int)) ((0 : Int))).bind fun y2 =>
 (f46 ((1 : Int)) ((1 : Int)) ((0 : Int))).bind fun y4 =>
 (f46 ((2 : Int)) ((0 : Int)) ((10 : Int))).bind fun y6 =>
 (f47).bind fun y9 =>
 (f48 ((1 : Int)) ((8 : Int))).bind fun y11 =>
 (f17 y9 y11).bind fun dB =>
 (f47).bind fun qH =>
 (f48 ((3 : Int)) ((9 : Int))).bind fun sH =>
 (f17 qH sH).bind fun jB =>
 (f47).bind fun tH =>
 (f48 ((3 : Int)) ((9 : Int))).bind fun y23 =>
 (f23 tH y23).bind fun iA =>
 (f47).bind fun uH =>
 (f48 ((3 : Int)) ((9 : Int))).bind fun xH =>
 (f24 uH xH).bind fun rA =>
 (f48 ((1 : Int)) ((8 : Int))).bind fun qF =>
 (idx qF (0 : Int)).bind fun yH =>
 (f47).bind fun zH =>
 (f30 zH ((List.set qF (Int.toNat ((0 : Int))) ({ yH with Woven := (25 : Int) })))).bind fun i7 =>
 (f47).bind fun aI =>
 (f48 ((1 : Int)) ((8 : Int))).bind fun bI =>
 (cut bI (1 : Int) (2 : Int)).bind fun dI =>
 (f25 aI dI).bind fun yA =>
 (f47).bind fun iI =>
 (f48 ((1 : Int)) ((8 : Int))).bind fun y56 =>
 (f32 (([y2, y4, y6] : List LoomRun))).bind fun jI =>
 (f49 ((5 : Int)) ((6 : Int))).bind fun kI =>
 (f33 iI y56 jI kI).bind fun aB =>
 (f47).bind fun lI =>
 (f48 ((1 : Int)) ((8 : Int))).bind fun mI =>
 (f32 (([y2, y4, y6] : List LoomRun))).bind fun nI =>
 (f49 ((5 : Int)) ((6 : Int))).bind fun y71 =>
 (f34 lI mI nI y71).bind fun l8 =>
 (f47).bind fun pI =>
 (f48 ((3 : Int)) ((8 : Int))).bind fun qI =>
 (f32 (([y2, y4, y6] : List LoomRun))).bind fun y79 =>
 (f40 pI qI y79).bind fun y81 =>
 jn (σ := Unit) (fun _ =>
  Option.bind (α := Bool) (
   (f22 (dB.1) (([y2, y4, y6] : List LoomRun))).bind fun y158 =>
   bif y158 then
    (f28 (iA.1) (([(0 : Int), (1 : Int), (2 : Int)] : List Int))).bind fun cD =>
    bif cD then
     (f28 (rA.1) (([(0 : Int)] : List Int))).bind fun eD =>
     bif eD then
      bif (decide (i7.1 = (⟨0, (20 : Int)⟩ : Span))) then
       bif (i7.2.1 == (45 : Int)) then
        (f28 (yA.1) (([(1 : Int)] : List Int))).bind fun gD =>
        bif gD then
         (f28 (aB.1) (([(0 : Int)] : List Int))).bind fun iD =>
         bif iD then
          (f46 ((0 : Int)) ((0 : Int)) ((7 : Int))).bind fun y181 =>
          (f46 ((1 : Int)) ((1 : Int)) ((0 : Int))).bind fun cE =>
          (f46 ((2 : Int)) ((0 : Int)) ((17 : Int))).bind fun dE =>
          (f22 (l8.1) (([y181, cE, dE] : List LoomRun))).bind fun jD =>
          bif jD then
           (f28 (l8.2.1) (([(2 : Int)] : List Int))).bind fun lD =>
           bif lD then
            some ((y81.1 == (2 : Int)))
           else
            none
          else
           none
         else
          none
        else
         none
       else
        none
      else
       none
     else
      none
    else
     none
   else
    none
   ) fun lB =>
  some (lB)
  ) fun rF =>
 Option.bind (α := Bool) (
  bif (dB.2 != (0 : Int)) then
   none
  else
   bif (jB.2 != (9 : Int)) then
    none
   else
    bif (iA.2 != (0 : Int)) then
     none
    else
     bif (rA.2 != (0 : Int)) then
      none
     else
      bif (i7.2.2 != (0 : Int)) then
       none
      else
       bif (yA.2 != (0 : Int)) then
        none
       else
        bif (aB.2 != (0 : Int)) then
         none
        else
         bif (l8.2.2 != (0 : Int)) then
          none
         else
          some ((y81.2 != (6 : Int)))
  ) fun u9 =>
 bif u9 then
  some (false)
 else
  rF ()
theorem en14 : Enters Try.prog 14 := enters_of Try.func14 (by kernel_rfl) rfl
theorem wk14 {gI : Gh} {wI : World}   {r : Bool} (h : f14  = some r) : Fn Try.prog 14 #[] gI wI (fun _ _ v => v = .bool (r)) := by
 unfold f14 at h
 refine fn_of_E Try.func14 rfl (Nat.le_of_ble_eq_true rfl) fun g0 hm hfr => ?_
 show E _ 179 none _ _ _ _ _
 refine E_seq (E_region (EL_at (.bool false) rfl rfl ?_))
 refine EL_nil (thn_n (E_seq (E_region ?_)))
 obtain ⟨y2, hy2, h⟩ := bsome h
 refine EL_do .plain rfl (D_call (g := g0) (vs := [.int .i64 (0), .int .i64 (0), .int .i64 (0)]) en46 (.cons rfl (.cons rfl (.cons rfl .nil))) (wk46  hy2) fun g1 w1_ v1 hs hr => ?_)
 have hfr := hfr.ext hs
 have r1 := hr
 obtain ⟨y4, dM, h⟩ := bsome h
 refine EL_do .plain rfl (D_call (g := g1) (vs := [.int .i64 (1), .int .i64 (1), .int .i64 (0)]) en46 (.cons rfl (.cons rfl (.cons rfl .nil))) (wk46  dM) fun g3 w3_ v3 hs hr => ?_)
 have hfr := hfr.ext hs
 have r1 := r1.ext hs
 have r3 := hr
 obtain ⟨y6, eM, h⟩ := bsome h
 refine EL_do .plain rfl (D_call (g := g3) (vs := [.int .i64 (2), .int .i64 (0), .int .i64 (10)]) en46 (.cons rfl (.cons rfl (.cons rfl .nil))) (wk46  eM) fun g5 w5_ v5 hs hr => ?_)
 have hfr := hfr.ext hs
 have r1 := r1.ext hs
 have r3 := r3.ext hs
 have r5 := hr
 refine EL_do .plain rfl (D_buildSlice (g := g5) 3026 (xs := ([y2, y4, y6] : List LoomRun)) (vs := [v1, v3, v5]) Try.underlying31 Try.sizeOf76 Try.zeroValue76 rfl rfl (.cons rfl (.cons rfl (.cons rfl .nil))) (RVs.cons r1 (RVs.cons r3 (RVs.cons r5 RVs.nil))) rfl rfl fun g7 w7 v7 hs o7 r7 hxt hfl => ?_)
 have hfr := hfr.stp hs
 refine EL_at v7 rfl rfl ?_
 refine EL_nil (thn_n (E_seq (E_region ?_)))
 obtain ⟨y9, iM, h⟩ := bsome h
 refine EL_do .plain rfl (D_call (g := g7) (vs := []) en47 .nil (wk47  iM) fun g8 w8_ v8 hs hr => ?_)
 have hfr := hfr.ext hs
 have r7 := r7.ext hs
 have o7 := o7.ext hs
 have r8 := hr
 obtain ⟨y11, uI, h⟩ := bsome h
 refine EL_do .plain rfl (D_call (g := g8) (vs := [.int .i64 (1), .int .i64 (8)]) en48 (.cons rfl (.cons rfl .nil)) (wk48  uI) fun jM jQ kM hs hr => ?_)
 have hfr := hfr.ext hs
 have r7 := r7.ext hs
 have o7 := o7.ext hs
 have r8 := r8.ext hs
 have mM := hr
 obtain ⟨dB, vI, h⟩ := bsome h
 refine EL_do .plain rfl (D_call (g := jM) (vs := [v8, kM]) en17 (.cons rfl (.cons rfl .nil)) (wk17 r8 mM vI) fun nM kQ pS hs hr => ?_)
 have hfr := hfr.ext hs
 have r7 := r7.ext hs
 have o7 := o7.ext hs
 obtain ⟨z9, dP, rfl, o0, rfl⟩ := hr
 refine EL_mw (.tuple #[z9, .int .i64 (dB.2)]) rfl rfl ?_
 refine EL_p z9 (P_extract rfl rfl) rfl ?_
 refine EL_p (.int .i64 (dB.2)) (P_extract rfl rfl) rfl ?_
 refine EL_at z9 rfl rfl ?_
 refine EL_at (.int .i64 (dB.2)) rfl rfl ?_
 refine EL_nil (thn_n (E_seq (E_region ?_)))
 obtain ⟨qH, xI, h⟩ := bsome h
 refine EL_do .plain rfl (D_call (g := nM) (vs := []) en47 .nil (wk47  xI) fun oM lQ pM hs hr => ?_)
 have hfr := hfr.ext hs
 have r7 := r7.ext hs
 have o7 := o7.ext hs
 have o0 := o0.ext hs
 have sF := hr
 obtain ⟨sH, yI, h⟩ := bsome h
 refine EL_do .plain rfl (D_call (g := oM) (vs := [.int .i64 (3), .int .i64 (9)]) en48 (.cons rfl (.cons rfl .nil)) (wk48  yI) fun qM mQ rM hs hr => ?_)
 have hfr := hfr.ext hs
 have r7 := r7.ext hs
 have o7 := o7.ext hs
 have o0 := o0.ext hs
 have sF := sF.ext hs
 have sM := hr
 obtain ⟨jB, zI, h⟩ := bsome h
 refine EL_do .plain rfl (D_call (g := qM) (vs := [pM, rM]) en17 (.cons rfl (.cons rfl .nil)) (wk17 sF sM zI) fun tM nQ qS hs hr => ?_)
 have hfr := hfr.ext hs
 have r7 := r7.ext hs
 have o7 := o7.ext hs
 have o0 := o0.ext hs
 obtain ⟨uD, eP, rfl, gP, rfl⟩ := hr
 refine EL_mw (.tuple #[uD, .int .i64 (jB.2)]) rfl rfl ?_
 refine EL_p uD (P_extract rfl rfl) rfl ?_
 refine EL_p (.int .i64 (jB.2)) (P_extract rfl rfl) rfl ?_
 refine EL_at uD rfl rfl ?_
 refine EL_at (.int .i64 (jB.2)) rfl rfl ?_
 refine EL_nil (thn_n (E_seq (E_region ?_)))
 obtain ⟨tH, aJ, h⟩ := bsome h
 refine EL_do .plain rfl (D_call (g := tM) (vs := []) en47 .nil (wk47  aJ) fun uM oQ vM hs hr => ?_)
 have hfr := hfr.ext hs
 have r7 := r7.ext hs
 have o7 := o7.ext hs
 have o0 := o0.ext hs
 have tF := hr
 obtain ⟨y23, bJ, h⟩ := bsome h
 refine EL_do .plain rfl (D_call (g := uM) (vs := [.int .i64 (3), .int .i64 (9)]) en48 (.cons rfl (.cons rfl .nil)) (wk48  bJ) fun xM pQ yM hs hr => ?_)
 have hfr := hfr.ext hs
 have r7 := r7.ext hs
 have o7 := o7.ext hs
 have o0 := o0.ext hs
 have tF := tF.ext hs
 have zM := hr
 obtain ⟨iA, cJ, h⟩ := bsome h
 refine EL_do .plain rfl (D_call (g := xM) (vs := [vM, yM]) en23 (.cons rfl (.cons rfl .nil)) (wk23 tF zM cJ) fun bN qQ rS hs hr => ?_)
 have hfr := hfr.ext hs
 have r7 := r7.ext hs
 have o7 := o7.ext hs
 have o0 := o0.ext hs
 obtain ⟨m8, iP, rfl, u3, rfl⟩ := hr
 refine EL_mw (.tuple #[m8, .int .i64 (iA.2)]) rfl rfl ?_
 refine EL_p m8 (P_extract rfl rfl) rfl ?_
 refine EL_p (.int .i64 (iA.2)) (P_extract rfl rfl) rfl ?_
 refine EL_at m8 rfl rfl ?_
 refine EL_at (.int .i64 (iA.2)) rfl rfl ?_
 refine EL_nil (thn_n (E_seq (E_region ?_)))
 obtain ⟨uH, dJ, h⟩ := bsome h
 refine EL_do .plain rfl (D_call (g := bN) (vs := []) en47 .nil (wk47  dJ) fun cN rQ dN hs hr => ?_)
 have hfr := hfr.ext hs
 have r7 := r7.ext hs
 have o7 := o7.ext hs
 have o0 := o0.ext hs
 have u3 := u3.ext hs
 have uF := hr
 obtain ⟨xH, eJ, h⟩ := bsome h
 refine EL_do .plain rfl (D_call (g := cN) (vs := [.int .i64 (3), .int .i64 (9)]) en48 (.cons rfl (.cons rfl .nil)) (wk48  eJ) fun eN sQ gN hs hr => ?_)
 have hfr := hfr.ext hs
 have r7 := r7.ext hs
 have o7 := o7.ext hs
 have o0 := o0.ext hs
 have u3 := u3.ext hs
 have uF := uF.ext hs
 have iN := hr
 obtain ⟨rA, gJ, h⟩ := bsome h
 refine EL_do .plain rfl (D_call (g := eN) (vs := [dN, gN]) en24 (.cons rfl (.cons rfl .nil)) (wk24 uF iN gJ) fun jN tQ sS hs hr => ?_)
 have hfr := hfr.ext hs
 have r7 := r7.ext hs
 have o7 := o7.ext hs
 have o0 := o0.ext hs
 have u3 := u3.ext hs
 obtain ⟨n8, jP, rfl, l5, rfl⟩ := hr
 refine EL_mw (.tuple #[n8, .int .i64 (rA.2)]) rfl rfl ?_
 refine EL_p n8 (P_extract rfl rfl) rfl ?_
 refine EL_p (.int .i64 (rA.2)) (P_extract rfl rfl) rfl ?_
 refine EL_at n8 rfl rfl ?_
 refine EL_at (.int .i64 (rA.2)) rfl rfl ?_
 refine EL_nil (thn_n (E_seq (E_region ?_)))
 obtain ⟨qF, iJ, h⟩ := bsome h
 refine EL_do .plain rfl (D_callG (g := jN) (vs := [.int .i64 (1), .int .i64 (8)]) en48 (.cons rfl (.cons rfl .nil)) (v48_0 (iO := 9051)  iJ) fun kN uQ tD hs hr => ?_)
 have hfr := hfr.ext hs
 have r7 := r7.ext hs
 have o7 := o7.ext hs
 have o0 := o0.ext hs
 have u3 := u3.ext hs
 have l5 := l5.ext hs
 have hm32 := hr
 refine EL_at tD rfl rfl ?_
 refine EL_nil (thn_n (E_seq (E_region (EL_mw tD rfl rfl ?_))))
 obtain ⟨yH, eE, h⟩ := bsome h
 refine EL_p (ePtr tD (0 : Int) 5) (P_indexAddrM (α := LoomOrder) Try.underlying25 Try.sizeOf82 rfl hm32 rfl eE) rfl ?_
 obtain ⟨pb36, po36, pe36⟩ := OM.ptrE (k := 5) hm32 eE
 refine EL_p (fPtr (ePtr tD (0 : Int) 5) 2) (P_fieldAddr at_82_2 rfl ⟨_, _, pe36⟩) rfl ?_
 refine EL_do .plain rfl (D_storeMF (g := kN) part_LoomOrder_2 Try.sizeOf3 rfl hm32 eE rfl (RV_int.2 rfl) fun lN tS hs b37 => ?_)
 have hfr := hfr.stp hs
 have r7 := r7.stp hs
 have o7 := o7.stp hs rfl
 have o0 := o0.stp hs
 have u3 := u3.stp hs
 have l5 := l5.stp hs
 refine EL_nil (thn_n (E_seq (E_region ?_)))
 obtain ⟨zH, jJ, h⟩ := bsome h
 refine EL_do .plain rfl (D_call (g := lN) (vs := []) en47 .nil (wk47  jJ) fun uS vQ mN hs hr => ?_)
 have hfr := hfr.ext hs
 have r7 := r7.ext hs
 have o7 := o7.ext hs
 have o0 := o0.ext hs
 have u3 := u3.ext hs
 have l5 := l5.ext hs
 have b37 := b37.ext hs
 have vF := hr
 refine EL_mw tD rfl rfl ?_
 obtain ⟨gp40, hs, rp40⟩ := OM.pub b37
 have hfr := hfr.stp hs
 have r7 := r7.stp hs
 have o7 := o7.stp hs rfl
 have o0 := o0.stp hs
 have u3 := u3.stp hs
 have l5 := l5.stp hs
 have vF := vF.stp hs
 obtain ⟨i7, kJ, h⟩ := bsome h
 refine EL_do .plain rfl (D_call (g := gp40) (vs := [mN, tD]) en30 (.cons rfl (.cons rfl .nil)) (wk30 vF rp40 kJ) fun nN xQ vS hs hr => ?_)
 have hfr := hfr.ext hs
 have r7 := r7.ext hs
 have o7 := o7.ext hs
 have o0 := o0.ext hs
 have u3 := u3.ext hs
 have l5 := l5.ext hs
 obtain ⟨vD, kP, lP, rfl, xD, rfl, rfl⟩ := hr
 refine EL_mw (.tuple #[vD, .int .i64 (i7.2.1), .int .i64 (i7.2.2)]) rfl rfl ?_
 refine EL_p vD (P_extract rfl rfl) rfl ?_
 refine EL_p (.int .i64 (i7.2.1)) (P_extract rfl rfl) rfl ?_
 refine EL_p (.int .i64 (i7.2.2)) (P_extract rfl rfl) rfl ?_
 refine EL_do .plain rfl (D_allocOc (g := nN) 2011 (⟨0, 0⟩ : Span) Try.zeroValue48 (fun m w => ⟨_, (rep_two rep_int rep_int), rfl⟩) fun oN xS kE hs b43 cb => ?_)
 have hfr := hfr.stp hs
 have r7 := r7.stp hs
 have o7 := o7.stp hs rfl
 have o0 := o0.stp hs
 have u3 := u3.stp hs
 have l5 := l5.stp hs
 have xD := xD.stp hs
 clear cb
 refine EL_do .plain rfl (D_storeOc (g := oN) (v := vD) Try.sizeOf48 rfl b43 rfl xD fun pN yS hs b44 cb => ?_)
 clear cb
 have hfr := hfr.stp hs
 have r7 := r7.stp hs
 have o7 := o7.stp hs rfl
 have o0 := o0.stp hs
 have u3 := u3.stp hs
 have l5 := l5.stp hs
 refine EL_at (.int .i64 (i7.2.1)) rfl rfl ?_
 refine EL_at (.int .i64 (i7.2.2)) rfl rfl ?_
 refine EL_nil (thn_n (E_seq (E_region ?_)))
 obtain ⟨aI, lJ, h⟩ := bsome h
 refine EL_do .plain rfl (D_call (g := pN) (vs := []) en47 .nil (wk47  lJ) fun qN yQ rN hs hr => ?_)
 have hfr := hfr.ext hs
 have r7 := r7.ext hs
 have o7 := o7.ext hs
 have o0 := o0.ext hs
 have u3 := u3.ext hs
 have l5 := l5.ext hs
 have b44 := b44.ext hs
 have xF := hr
 obtain ⟨bI, mJ, h⟩ := bsome h
 refine EL_do .plain rfl (D_call (g := qN) (vs := [.int .i64 (1), .int .i64 (8)]) en48 (.cons rfl (.cons rfl .nil)) (wk48  mJ) fun sN zQ sI hs hr => ?_)
 have hfr := hfr.ext hs
 have r7 := r7.ext hs
 have o7 := o7.ext hs
 have o0 := o0.ext hs
 have u3 := u3.ext hs
 have l5 := l5.ext hs
 have b44 := b44.ext hs
 have xF := xF.ext hs
 have tI := hr
 obtain ⟨dI, yF, h⟩ := bsome h
 have tN := RV_cut tI yF
 refine EL_p ((cutV sI (Int.toNat (1 : Int)) (Int.toNat (2 : Int)) 5)) (P_slice Try.underlying25 Try.sizeOf82 rfl tI rfl rfl yF) rfl ?_
 obtain ⟨yA, nJ, h⟩ := bsome h
 refine EL_do .plain rfl (D_call (g := sN) (vs := [rN, (cutV sI (Int.toNat (1 : Int)) (Int.toNat (2 : Int)) 5)]) en25 (.cons rfl (.cons rfl .nil)) (wk25 xF tN nJ) fun uN aR zS hs hr => ?_)
 have hfr := hfr.ext hs
 have r7 := r7.ext hs
 have o7 := o7.ext hs
 have o0 := o0.ext hs
 have u3 := u3.ext hs
 have l5 := l5.ext hs
 have b44 := b44.ext hs
 obtain ⟨x8, mP, rfl, i6, rfl⟩ := hr
 refine EL_mw (.tuple #[x8, .int .i64 (yA.2)]) rfl rfl ?_
 refine EL_p x8 (P_extract rfl rfl) rfl ?_
 refine EL_p (.int .i64 (yA.2)) (P_extract rfl rfl) rfl ?_
 refine EL_at x8 rfl rfl ?_
 refine EL_at (.int .i64 (yA.2)) rfl rfl ?_
 refine EL_nil (thn_n (E_seq (E_region ?_)))
 obtain ⟨iI, oJ, h⟩ := bsome h
 refine EL_do .plain rfl (D_call (g := uN) (vs := []) en47 .nil (wk47  oJ) fun vN bR xN hs hr => ?_)
 have hfr := hfr.ext hs
 have r7 := r7.ext hs
 have o7 := o7.ext hs
 have o0 := o0.ext hs
 have u3 := u3.ext hs
 have l5 := l5.ext hs
 have b44 := b44.ext hs
 have i6 := i6.ext hs
 have mD := hr
 obtain ⟨y56, pJ, h⟩ := bsome h
 refine EL_do .plain rfl (D_call (g := vN) (vs := [.int .i64 (1), .int .i64 (8)]) en48 (.cons rfl (.cons rfl .nil)) (wk48  pJ) fun yN cR zN hs hr => ?_)
 have hfr := hfr.ext hs
 have r7 := r7.ext hs
 have o7 := o7.ext hs
 have o0 := o0.ext hs
 have u3 := u3.ext hs
 have l5 := l5.ext hs
 have b44 := b44.ext hs
 have i6 := i6.ext hs
 have mD := mD.ext hs
 have zD := hr
 refine EL_mw v7 rfl rfl ?_
 obtain ⟨jI, qJ, h⟩ := bsome h
 refine EL_do .plain rfl (D_call (g := yN) (vs := [v7]) en32 (.cons rfl .nil) (wk32 r7 qJ) fun aO dR bO hs hr => ?_)
 have hfr := hfr.ext hs
 have r7 := r7.ext hs
 have o7 := o7.ext hs
 have o0 := o0.ext hs
 have u3 := u3.ext hs
 have l5 := l5.ext hs
 have b44 := b44.ext hs
 have i6 := i6.ext hs
 have mD := mD.ext hs
 have zD := zD.ext hs
 have zF := hr
 obtain ⟨kI, rJ, h⟩ := bsome h
 refine EL_do .plain rfl (D_call (g := aO) (vs := [.int .i64 (5), .int .i64 (6)]) en49 (.cons rfl (.cons rfl .nil)) (wk49  rJ) fun cO eR dO hs hr => ?_)
 have hfr := hfr.ext hs
 have r7 := r7.ext hs
 have o7 := o7.ext hs
 have o0 := o0.ext hs
 have u3 := u3.ext hs
 have l5 := l5.ext hs
 have b44 := b44.ext hs
 have i6 := i6.ext hs
 have mD := mD.ext hs
 have zD := zD.ext hs
 have zF := zF.ext hs
 have eO := hr
 obtain ⟨aB, sJ, h⟩ := bsome h
 refine EL_do .plain rfl (D_call (g := cO) (vs := [xN, zN, bO, dO]) en33 (.cons rfl (.cons rfl (.cons rfl (.cons rfl .nil)))) (wk33 mD zD zF eO sJ) fun gO gR eT hs hr => ?_)
 have hfr := hfr.ext hs
 have r7 := r7.ext hs
 have o7 := o7.ext hs
 have o0 := o0.ext hs
 have u3 := u3.ext hs
 have l5 := l5.ext hs
 have b44 := b44.ext hs
 have i6 := i6.ext hs
 obtain ⟨a9, nP, rfl, x6, rfl⟩ := hr
 refine EL_mw (.tuple #[a9, .int .i64 (aB.2)]) rfl rfl ?_
 refine EL_p a9 (P_extract rfl rfl) rfl ?_
 refine EL_p (.int .i64 (aB.2)) (P_extract rfl rfl) rfl ?_
 refine EL_at a9 rfl rfl ?_
 refine EL_at (.int .i64 (aB.2)) rfl rfl ?_
 refine EL_nil (thn_n (E_seq (E_region ?_)))
 obtain ⟨lI, vJ, h⟩ := bsome h
 refine EL_do .plain rfl (D_call (g := gO) (vs := []) en47 .nil (wk47  vJ) fun jO iR kO hs hr => ?_)
 have hfr := hfr.ext hs
 have r7 := r7.ext hs
 have o7 := o7.ext hs
 have o0 := o0.ext hs
 have u3 := u3.ext hs
 have l5 := l5.ext hs
 have b44 := b44.ext hs
 have i6 := i6.ext hs
 have x6 := x6.ext hs
 have nD := hr
 obtain ⟨mI, xJ, h⟩ := bsome h
 refine EL_do .plain rfl (D_call (g := jO) (vs := [.int .i64 (1), .int .i64 (8)]) en48 (.cons rfl (.cons rfl .nil)) (wk48  xJ) fun lO jR mO hs hr => ?_)
 have hfr := hfr.ext hs
 have r7 := r7.ext hs
 have o7 := o7.ext hs
 have o0 := o0.ext hs
 have u3 := u3.ext hs
 have l5 := l5.ext hs
 have b44 := b44.ext hs
 have i6 := i6.ext hs
 have x6 := x6.ext hs
 have nD := nD.ext hs
 have aE := hr
 refine EL_mw v7 rfl rfl ?_
 obtain ⟨nI, yJ, h⟩ := bsome h
 refine EL_do .plain rfl (D_call (g := lO) (vs := [v7]) en32 (.cons rfl .nil) (wk32 r7 yJ) fun nO lR oO hs hr => ?_)
 have hfr := hfr.ext hs
 have r7 := r7.ext hs
 have o7 := o7.ext hs
 have o0 := o0.ext hs
 have u3 := u3.ext hs
 have l5 := l5.ext hs
 have b44 := b44.ext hs
 have i6 := i6.ext hs
 have x6 := x6.ext hs
 have nD := nD.ext hs
 have aE := aE.ext hs
 have aG := hr
 obtain ⟨y71, zJ, h⟩ := bsome h
 refine EL_do .plain rfl (D_call (g := nO) (vs := [.int .i64 (5), .int .i64 (6)]) en49 (.cons rfl (.cons rfl .nil)) (wk49  zJ) fun pO mR qO hs hr => ?_)
 have hfr := hfr.ext hs
 have r7 := r7.ext hs
 have o7 := o7.ext hs
 have o0 := o0.ext hs
 have u3 := u3.ext hs
 have l5 := l5.ext hs
 have b44 := b44.ext hs
 have i6 := i6.ext hs
 have x6 := x6.ext hs
 have nD := nD.ext hs
 have aE := aE.ext hs
 have aG := aG.ext hs
 have rO := hr
 obtain ⟨l8, aK, h⟩ := bsome h
 refine EL_do .plain rfl (D_call (g := pO) (vs := [kO, mO, oO, qO]) en34 (.cons rfl (.cons rfl (.cons rfl (.cons rfl .nil)))) (wk34 nD aE aG rO aK) fun sO nR lT hs hr => ?_)
 have hfr := hfr.ext hs
 have r7 := r7.ext hs
 have o7 := o7.ext hs
 have o0 := o0.ext hs
 have u3 := u3.ext hs
 have l5 := l5.ext hs
 have b44 := b44.ext hs
 have i6 := i6.ext hs
 have x6 := x6.ext hs
 obtain ⟨d9, k9, oP, rfl, l9, n9, rfl⟩ := hr
 refine EL_mw (.tuple #[d9, k9, .int .i64 (l8.2.2)]) rfl rfl ?_
 refine EL_p d9 (P_extract rfl rfl) rfl ?_
 refine EL_p k9 (P_extract rfl rfl) rfl ?_
 refine EL_p (.int .i64 (l8.2.2)) (P_extract rfl rfl) rfl ?_
 refine EL_at d9 rfl rfl ?_
 refine EL_at k9 rfl rfl ?_
 refine EL_at (.int .i64 (l8.2.2)) rfl rfl ?_
 refine EL_nil (thn_n (E_seq (E_region ?_)))
 obtain ⟨pI, bK, h⟩ := bsome h
 refine EL_do .plain rfl (D_call (g := sO) (vs := []) en47 .nil (wk47  bK) fun tO oR uO hs hr => ?_)
 have hfr := hfr.ext hs
 have r7 := r7.ext hs
 have o7 := o7.ext hs
 have o0 := o0.ext hs
 have u3 := u3.ext hs
 have l5 := l5.ext hs
 have b44 := b44.ext hs
 have i6 := i6.ext hs
 have x6 := x6.ext hs
 have l9 := l9.ext hs
 have n9 := n9.ext hs
 have bE := hr
 obtain ⟨qI, cK, h⟩ := bsome h
 refine EL_do .plain rfl (D_call (g := tO) (vs := [.int .i64 (3), .int .i64 (8)]) en48 (.cons rfl (.cons rfl .nil)) (wk48  cK) fun vO pR xO hs hr => ?_)
 have hfr := hfr.ext hs
 have r7 := r7.ext hs
 have o7 := o7.ext hs
 have o0 := o0.ext hs
 have u3 := u3.ext hs
 have l5 := l5.ext hs
 have b44 := b44.ext hs
 have i6 := i6.ext hs
 have x6 := x6.ext hs
 have l9 := l9.ext hs
 have n9 := n9.ext hs
 have bE := bE.ext hs
 have bG := hr
 refine EL_mw v7 rfl rfl ?_
 obtain ⟨y79, dK, h⟩ := bsome h
 refine EL_do .plain rfl (D_call (g := vO) (vs := [v7]) en32 (.cons rfl .nil) (wk32 r7 dK) fun yO qR zO hs hr => ?_)
 have hfr := hfr.ext hs
 have r7 := r7.ext hs
 have o7 := o7.ext hs
 have o0 := o0.ext hs
 have u3 := u3.ext hs
 have l5 := l5.ext hs
 have b44 := b44.ext hs
 have i6 := i6.ext hs
 have x6 := x6.ext hs
 have l9 := l9.ext hs
 have n9 := n9.ext hs
 have bE := bE.ext hs
 have bG := bG.ext hs
 have aP := hr
 obtain ⟨y81, lK, h⟩ := bsome h
 refine EL_do .plain rfl (D_call (g := yO) (vs := [uO, xO, zO]) en40 (.cons rfl (.cons rfl (.cons rfl .nil))) (wk40 bE bG aP lK) fun bP rR mT hs hr => ?_)
 have hfr := hfr.ext hs
 have r7 := r7.ext hs
 have o7 := o7.ext hs
 have o0 := o0.ext hs
 have u3 := u3.ext hs
 have l5 := l5.ext hs
 have b44 := b44.ext hs
 have i6 := i6.ext hs
 have x6 := x6.ext hs
 have l9 := l9.ext hs
 have n9 := n9.ext hs
 obtain ⟨pP, sP, rfl, rfl, rfl⟩ := hr
 refine EL_mw (.tuple #[.int .i64 (y81.1), .int .i64 (y81.2)]) rfl rfl ?_
 refine EL_p (.int .i64 (y81.1)) (P_extract rfl rfl) rfl ?_
 refine EL_p (.int .i64 (y81.2)) (P_extract rfl rfl) rfl ?_
 refine EL_at (.int .i64 (y81.1)) rfl rfl ?_
 refine EL_at (.int .i64 (y81.2)) rfl rfl ?_
 refine EL_nil (thn_n (E_joinC h (fun (s : Unit) e w => ∃ (g : Gh) , Fr gI wI g w ∧ e 1 = v7 ∧ RV g.m w (([y2, y4, y6] : List LoomRun) : List LoomRun) v7 ∧ OS 3026 g w 76 (([y2, y4, y6] : List LoomRun) : List LoomRun) v7 ∧ e 2 = z9 ∧ RV g.m w (dB.1 : List LoomRun) z9 ∧ e 6 = m8 ∧ RV g.m w (iA.1 : List Int) m8 ∧ e 8 = n8 ∧ RV g.m w (rA.1 : List Int) n8 ∧ e 11 = kE ∧ OB 2011 g w 48 (i7.1 : Span) kE ∧ e 12 = .int .i64 (i7.2.1) ∧ e 14 = x8 ∧ RV g.m w (yA.1 : List Int) x8 ∧ e 16 = a9 ∧ RV g.m w (aB.1 : List Int) a9 ∧ e 18 = d9 ∧ RV g.m w (l8.1 : List LoomRun) d9 ∧ e 19 = k9 ∧ RV g.m w (l8.2.1 : List Int) k9 ∧ e 21 = .int .i64 (y81.1)) (fun X100 rF zG h => ?_) ?_))
 ·obtain ⟨u9, hx, h⟩ := bsome h
  refine E_join (fun e w => ∃ (g : Gh) , Fr gI wI g w ∧ e 1 = v7 ∧ RV g.m w (([y2, y4, y6] : List LoomRun) : List LoomRun) v7 ∧ OS 3026 g w 76 (([y2, y4, y6] : List LoomRun) : List LoomRun) v7 ∧ e 2 = z9 ∧ RV g.m w (dB.1 : List LoomRun) z9 ∧ e 6 = m8 ∧ RV g.m w (iA.1 : List Int) m8 ∧ e 8 = n8 ∧ RV g.m w (rA.1 : List Int) n8 ∧ e 11 = kE ∧ OB 2011 g w 48 (i7.1 : Span) kE ∧ e 12 = .int .i64 (i7.2.1) ∧ e 14 = x8 ∧ RV g.m w (yA.1 : List Int) x8 ∧ e 16 = a9 ∧ RV g.m w (aB.1 : List Int) a9 ∧ e 18 = d9 ∧ RV g.m w (l8.1 : List LoomRun) d9 ∧ e 19 = k9 ∧ RV g.m w (l8.2.1 : List Int) k9 ∧ e 21 = .int .i64 (y81.1) ∧ e 129 = .bool (u9)) (fun Q' hQ => ?_) (fun tP tR hR => ?_)
  ·replace h := hx
   clear hx
   refine E_region (EL_mw (.int .i64 (dB.2)) rfl rfl ?_)
   refine EL_in (.bool ((dB.2 != (0 : Int)))) rfl rfl rfl rfl ?_
   refine EL_mw (.bool ((dB.2 != (0 : Int)))) rfl rfl ?_
   rcases csome h with ⟨zB, h⟩ | ⟨zB, h⟩
   ·cases h
   ·refine EL_y (.int .i64 (jB.2)) (P_move rfl) rfl rfl zB rfl ?_
    refine EL_y (.bool ((jB.2 != (9 : Int)))) (P_int rfl rfl rfl) rfl rfl zB rfl ?_
    refine EL_p (.bool ((jB.2 != (9 : Int)))) (P_pick (b := (dB.2 != (0 : Int))) rfl (pick_f zB rfl)) rfl ?_
    refine EL_mw (.bool ((jB.2 != (9 : Int)))) rfl rfl ?_
    rcases csome h with ⟨cC, h⟩ | ⟨cC, h⟩
    ·cases h
    ·refine EL_y (.int .i64 (iA.2)) (P_move rfl) rfl rfl cC rfl ?_
     refine EL_y (.bool ((iA.2 != (0 : Int)))) (P_int rfl rfl rfl) rfl rfl cC rfl ?_
     refine EL_p (.bool ((iA.2 != (0 : Int)))) (P_pick (b := (jB.2 != (9 : Int))) rfl (pick_f cC rfl)) rfl ?_
     refine EL_mw (.bool ((iA.2 != (0 : Int)))) rfl rfl ?_
     rcases csome h with ⟨eC, h⟩ | ⟨eC, h⟩
     ·cases h
     ·refine EL_y (.int .i64 (rA.2)) (P_move rfl) rfl rfl eC rfl ?_
      refine EL_y (.bool ((rA.2 != (0 : Int)))) (P_int rfl rfl rfl) rfl rfl eC rfl ?_
      refine EL_p (.bool ((rA.2 != (0 : Int)))) (P_pick (b := (iA.2 != (0 : Int))) rfl (pick_f eC rfl)) rfl ?_
      refine EL_mw (.bool ((rA.2 != (0 : Int)))) rfl rfl ?_
      rcases csome h with ⟨mC, h⟩ | ⟨mC, h⟩
      ·cases h
      ·refine EL_y (.int .i64 (i7.2.2)) (P_move rfl) rfl rfl mC rfl ?_
       refine EL_y (.bool ((i7.2.2 != (0 : Int)))) (P_int rfl rfl rfl) rfl rfl mC rfl ?_
       refine EL_p (.bool ((i7.2.2 != (0 : Int)))) (P_pick (b := (rA.2 != (0 : Int))) rfl (pick_f mC rfl)) rfl ?_
       refine EL_mw (.bool ((i7.2.2 != (0 : Int)))) rfl rfl ?_
       rcases csome h with ⟨qC, h⟩ | ⟨qC, h⟩
       ·cases h
       ·refine EL_y (.int .i64 (yA.2)) (P_move rfl) rfl rfl qC rfl ?_
        refine EL_y (.bool ((yA.2 != (0 : Int)))) (P_int rfl rfl rfl) rfl rfl qC rfl ?_
        refine EL_p (.bool ((yA.2 != (0 : Int)))) (P_pick (b := (i7.2.2 != (0 : Int))) rfl (pick_f qC rfl)) rfl ?_
        refine EL_mw (.bool ((yA.2 != (0 : Int)))) rfl rfl ?_
        rcases csome h with ⟨rC, h⟩ | ⟨rC, h⟩
        ·cases h
        ·refine EL_y (.int .i64 (aB.2)) (P_move rfl) rfl rfl rC rfl ?_
         refine EL_y (.bool ((aB.2 != (0 : Int)))) (P_int rfl rfl rfl) rfl rfl rC rfl ?_
         refine EL_p (.bool ((aB.2 != (0 : Int)))) (P_pick (b := (yA.2 != (0 : Int))) rfl (pick_f rC rfl)) rfl ?_
         refine EL_mw (.bool ((aB.2 != (0 : Int)))) rfl rfl ?_
         rcases csome h with ⟨uC, h⟩ | ⟨uC, h⟩
         ·cases h
         ·refine EL_y (.int .i64 (l8.2.2)) (P_move rfl) rfl rfl uC rfl ?_
          refine EL_y (.bool ((l8.2.2 != (0 : Int)))) (P_int rfl rfl rfl) rfl rfl uC rfl ?_
          refine EL_p (.bool ((l8.2.2 != (0 : Int)))) (P_pick (b := (aB.2 != (0 : Int))) rfl (pick_f uC rfl)) rfl ?_
          refine EL_mw (.bool ((l8.2.2 != (0 : Int)))) rfl rfl ?_
          rcases csome h with ⟨vC, h⟩ | ⟨vC, h⟩
          ·cases h
          ·refine EL_y (.int .i64 (y81.2)) (P_move rfl) rfl rfl vC rfl ?_
           refine EL_y (.bool ((y81.2 != (6 : Int)))) (P_int rfl rfl rfl) rfl rfl vC rfl ?_
           refine EL_p (.bool ((y81.2 != (6 : Int)))) (P_pick (b := (l8.2.2 != (0 : Int))) rfl (pick_f vC rfl)) rfl ?_
           refine EL_nil ?_
           obtain rfl := sinj h
           exact hQ _ _ ⟨bP, hfr, rfl, r7, o7, rfl, o0, rfl, u3, rfl, l5, rfl, b44, rfl, rfl, i6, rfl, x6, rfl, l9, rfl, n9, rfl, rfl⟩
  ·clear hx
   obtain ⟨mK, hfr, cG, eG, gG, hG, iG, jG, kG, lG, mG, lE, mE, nE, oE, rE, sE, tE, uE, vE, xE, yE, zE, oD⟩ := hR
   rcases csome h with ⟨yD, h⟩ | ⟨yD, h⟩
   ·refine E_cond_true (Eq.trans (show ev _ _ = .bool (u9) from oD) (congrArg Value.bool yD)) ?_
    refine E_seq (E_region (EL_at (.bool false) rfl rfl ?_))
    refine EL_nil (thn_n (E_ret (thn_r ?_)))
    obtain rfl := sinj h
    exact end1 rfl rfl (show _ = .bool false from rfl) ⟨_, hfr, rfl⟩
   ·refine E_cond_false (Eq.trans (show ev _ _ = .bool (u9) from oD) (congrArg Value.bool yD)) ?_
    exact E_skip (thn_n (zG () _ _ ⟨mK, hfr, cG, eG, gG, hG, iG, jG, kG, lG, mG, lE, mE, nE, oE, rE, sE, tE, uE, vE, xE, yE, zE⟩ h))
 ·rintro _ uP uR ⟨nK, hfr, nG, oG, cP, sG, tG, uG, iB, vG, k8, cF, m7, dF, eF, d7, iF, j6, nF, x5, oF, t5, pF⟩ h
  obtain ⟨lB, hx, h⟩ := bsome h
  refine E_join (fun e w => ∃ (g : Gh) , Fr gI wI g w ∧ e 0 = .bool (lB)) (fun Q' hQ => ?_) (fun vP vR hR => ?_)
  ·replace h := hx
   clear hx
   refine E_region (EL_mv sG rfl ?_)
   refine EL_mv nG rfl ?_
   obtain ⟨y158, aH, h⟩ := bsome h
   refine EL_do .plain rfl (D_call (g := nK) (vs := [z9, v7]) en22 (.cons rfl (.cons rfl .nil)) (wk22 tG oG aH) fun oK xP xR hs hr => ?_)
   have hfr := hfr.ext hs
   have iB := iB.ext hs
   have k8 := k8.ext hs
   have m7 := m7.ext hs
   have d7 := d7.ext hs
   have j6 := j6.ext hs
   have x5 := x5.ext hs
   have t5 := t5.ext hs
   subst hr
   refine EL_mw (.bool (y158)) rfl rfl ?_
   rcases csome h with ⟨mB, h⟩ | ⟨mB, h⟩
   ·refine EL_y m8 (P_move uG) rfl rfl mB rfl ?_
    refine EL_do (.yes2 rfl rfl mB) rfl (D_buildSlice (g := oK) 3135 (xs := ([(0 : Int), (1 : Int), (2 : Int)] : List Int)) (vs := [.int .i64 (0), .int .i64 (1), .int .i64 (2)]) Try.underlying22 Try.sizeOf3 Try.zeroValue3 rfl rfl (.cons rfl (.cons rfl (.cons rfl .nil))) (RVs.cons (RV_int.2 rfl) (RVs.cons (RV_int.2 rfl) (RVs.cons (RV_int.2 rfl) RVs.nil))) rfl rfl fun pK yR qK hs o160 sK hxt hfl => ?_)
    have hfr := hfr.stp hs
    have iB := iB.stp hs
    have k8 := k8.stp hs
    have m7 := m7.stp hs rfl
    have d7 := d7.stp hs
    have j6 := j6.stp hs
    have x5 := x5.stp hs
    have t5 := t5.stp hs
    obtain ⟨cD, cH, h⟩ := bsome h
    refine EL_do (.yes2 rfl rfl mB) rfl (D_call (g := pK) (vs := [m8, qK]) en28 (.cons rfl (.cons rfl .nil)) (wk28 iB sK cH) fun tK yP zR hs hr => ?_)
    have hfr := hfr.ext hs
    have k8 := k8.ext hs
    have m7 := m7.ext hs
    have d7 := d7.ext hs
    have j6 := j6.ext hs
    have x5 := x5.ext hs
    have t5 := t5.ext hs
    subst hr
    refine EL_p (.bool (cD)) (P_pick (b := y158) rfl (pick_t mB rfl)) rfl ?_
    refine EL_mw (.bool (cD)) rfl rfl ?_
    rcases csome h with ⟨nB, h⟩ | ⟨nB, h⟩
    ·refine EL_y n8 (P_move vG) rfl rfl nB rfl ?_
     refine EL_do (.yes2 rfl rfl nB) rfl (D_buildSlice (g := tK) 3140 (xs := ([(0 : Int)] : List Int)) (vs := [.int .i64 (0)]) Try.underlying22 Try.sizeOf3 Try.zeroValue3 rfl rfl (.cons rfl .nil) (RVs.cons (RV_int.2 rfl) RVs.nil) rfl rfl fun uK aS vK hs o164 xK hxt hfl => ?_)
     have hfr := hfr.stp hs
     have k8 := k8.stp hs
     have m7 := m7.stp hs rfl
     have d7 := d7.stp hs
     have j6 := j6.stp hs
     have x5 := x5.stp hs
     have t5 := t5.stp hs
     obtain ⟨eD, dH, h⟩ := bsome h
     refine EL_do (.yes2 rfl rfl nB) rfl (D_call (g := uK) (vs := [n8, vK]) en28 (.cons rfl (.cons rfl .nil)) (wk28 k8 xK dH) fun iE gH bS hs hr => ?_)
     have hfr := hfr.ext hs
     have m7 := m7.ext hs
     have d7 := d7.ext hs
     have j6 := j6.ext hs
     have x5 := x5.ext hs
     have t5 := t5.ext hs
     subst hr
     refine EL_p (.bool (eD)) (P_pick (b := cD) rfl (pick_t nB rfl)) rfl ?_
     refine EL_mw (.bool (eD)) rfl rfl ?_
     rcases csome h with ⟨oB, h⟩ | ⟨oB, h⟩
     ·refine EL_do (.yes2 rfl rfl oB) rfl (D_loadO (g := iE) Try.isAgg48 Try.sizeOf48 cF m7 fun cS yK => ?_)
      have xG : RV iE.m gH (⟨0, (20 : Int)⟩ : Span) (.agg (setCh [[.int .i64 0], [.int .i64 0]] [(1, .int .i64 (20))]).flatten.toArray) := RV_build rfl (rep_pair (rep_int) (rep_last (rfl)))
      generalize iH : (Value.agg (setCh [[.int .i64 0], [.int .i64 0]] [(1, .int .i64 (20))]).flatten.toArray) = zK at xG
      refine EL_y zK (iH ▸ P_build (vs := [(1, .int .i64 (20))]) [[.int .i64 0], [.int .i64 0]] lay_48 rfl rfl (.cons rfl .nil) ⟨⟨_, rfl, rfl⟩, trivial⟩) rfl rfl oB rfl ?_
      refine EL_y (.bool ((decide (i7.1 = (⟨0, (20 : Int)⟩ : Span))))) (P_seq seq_48 rfl eg_48 rfl rfl yK xG) rfl rfl oB rfl ?_
      refine EL_p (.bool ((decide (i7.1 = (⟨0, (20 : Int)⟩ : Span))))) (P_pick (b := eD) rfl (pick_t oB rfl)) rfl ?_
      refine EL_mw (.bool ((decide (i7.1 = (⟨0, (20 : Int)⟩ : Span))))) rfl rfl ?_
      rcases csome h with ⟨aD, h⟩ | ⟨aD, h⟩
      ·refine EL_y (.int .i64 (i7.2.1)) (P_move dF) rfl rfl aD rfl ?_
       refine EL_y (.bool ((i7.2.1 == (45 : Int)))) (P_int rfl rfl rfl) rfl rfl aD rfl ?_
       refine EL_p (.bool ((i7.2.1 == (45 : Int)))) (P_pick (b := (decide (i7.1 = (⟨0, (20 : Int)⟩ : Span)))) rfl (pick_t aD rfl)) rfl ?_
       refine EL_mw (.bool ((i7.2.1 == (45 : Int)))) rfl rfl ?_
       rcases csome h with ⟨tB, h⟩ | ⟨tB, h⟩
       ·refine EL_y x8 (P_move eF) rfl rfl tB rfl ?_
        refine EL_do (.yes2 rfl rfl tB) rfl (D_buildSlice (g := iE) 3154 (xs := ([(1 : Int)] : List Int)) (vs := [.int .i64 (1)]) Try.underlying22 Try.sizeOf3 Try.zeroValue3 rfl rfl (.cons rfl .nil) (RVs.cons (RV_int.2 rfl) RVs.nil) rfl rfl fun aL dS bL hs o172 dL hxt hfl => ?_)
        have hfr := hfr.stp hs
        have d7 := d7.stp hs
        have j6 := j6.stp hs
        have x5 := x5.stp hs
        have t5 := t5.stp hs
        obtain ⟨gD, jH, h⟩ := bsome h
        refine EL_do (.yes2 rfl rfl tB) rfl (D_call (g := aL) (vs := [x8, bL]) en28 (.cons rfl (.cons rfl .nil)) (wk28 d7 dL jH) fun eL zP eS hs hr => ?_)
        have hfr := hfr.ext hs
        have j6 := j6.ext hs
        have x5 := x5.ext hs
        have t5 := t5.ext hs
        subst hr
        refine EL_p (.bool (gD)) (P_pick (b := (i7.2.1 == (45 : Int))) rfl (pick_t tB rfl)) rfl ?_
        refine EL_mw (.bool (gD)) rfl rfl ?_
        rcases csome h with ⟨vB, h⟩ | ⟨vB, h⟩
        ·refine EL_y a9 (P_move iF) rfl rfl vB rfl ?_
         refine EL_do (.yes2 rfl rfl vB) rfl (D_buildSlice (g := eL) 3159 (xs := ([(0 : Int)] : List Int)) (vs := [.int .i64 (0)]) Try.underlying22 Try.sizeOf3 Try.zeroValue3 rfl rfl (.cons rfl .nil) (RVs.cons (RV_int.2 rfl) RVs.nil) rfl rfl fun gL gS iL hs o176 jL hxt hfl => ?_)
         have hfr := hfr.stp hs
         have j6 := j6.stp hs
         have x5 := x5.stp hs
         have t5 := t5.stp hs
         obtain ⟨iD, kH, h⟩ := bsome h
         refine EL_do (.yes2 rfl rfl vB) rfl (D_call (g := gL) (vs := [a9, iL]) en28 (.cons rfl (.cons rfl .nil)) (wk28 j6 jL kH) fun lL bQ iS hs hr => ?_)
         have hfr := hfr.ext hs
         have x5 := x5.ext hs
         have t5 := t5.ext hs
         subst hr
         refine EL_p (.bool (iD)) (P_pick (b := gD) rfl (pick_t vB rfl)) rfl ?_
         refine EL_mw (.bool (iD)) rfl rfl ?_
         rcases csome h with ⟨bA, h⟩ | ⟨bA, h⟩
         ·refine EL_y d9 (P_move nF) rfl rfl bA rfl ?_
          obtain ⟨y181, lH, h⟩ := bsome h
          refine EL_do (.yes2 rfl rfl bA) rfl (D_call (g := lL) (vs := [.int .i64 (0), .int .i64 (0), .int .i64 (7)]) en46 (.cons rfl (.cons rfl (.cons rfl .nil))) (wk46  lH) fun mL cQ nL hs hr => ?_)
          have hfr := hfr.ext hs
          have x5 := x5.ext hs
          have t5 := t5.ext hs
          have sD := hr
          obtain ⟨cE, mH, h⟩ := bsome h
          refine EL_do (.yes2 rfl rfl bA) rfl (D_call (g := mL) (vs := [.int .i64 (1), .int .i64 (1), .int .i64 (0)]) en46 (.cons rfl (.cons rfl (.cons rfl .nil))) (wk46  mH) fun oL dQ pL hs hr => ?_)
          have hfr := hfr.ext hs
          have x5 := x5.ext hs
          have t5 := t5.ext hs
          have sD := sD.ext hs
          have jE := hr
          obtain ⟨dE, nH, h⟩ := bsome h
          refine EL_do (.yes2 rfl rfl bA) rfl (D_call (g := oL) (vs := [.int .i64 (2), .int .i64 (0), .int .i64 (17)]) en46 (.cons rfl (.cons rfl (.cons rfl .nil))) (wk46  nH) fun qL eQ rL hs hr => ?_)
          have hfr := hfr.ext hs
          have x5 := x5.ext hs
          have t5 := t5.ext hs
          have sD := sD.ext hs
          have jE := jE.ext hs
          have tL := hr
          refine EL_do (.yes2 rfl rfl bA) rfl (D_buildSlice (g := qL) 3167 (xs := ([y181, cE, dE] : List LoomRun)) (vs := [nL, pL, rL]) Try.underlying31 Try.sizeOf76 Try.zeroValue76 rfl rfl (.cons rfl (.cons rfl (.cons rfl .nil))) (RVs.cons sD (RVs.cons jE (RVs.cons tL RVs.nil))) rfl rfl fun uL jS vL hs o186 xL hxt hfl => ?_)
          have hfr := hfr.stp hs
          have x5 := x5.stp hs
          have t5 := t5.stp hs
          obtain ⟨jD, oH, h⟩ := bsome h
          refine EL_do (.yes2 rfl rfl bA) rfl (D_call (g := uL) (vs := [d9, vL]) en22 (.cons rfl (.cons rfl .nil)) (wk22 x5 xL oH) fun yL gQ lS hs hr => ?_)
          have hfr := hfr.ext hs
          have t5 := t5.ext hs
          subst hr
          refine EL_p (.bool (jD)) (P_pick (b := iD) rfl (pick_t bA rfl)) rfl ?_
          refine EL_mw (.bool (jD)) rfl rfl ?_
          rcases csome h with ⟨yB, h⟩ | ⟨yB, h⟩
          ·refine EL_y k9 (P_move oF) rfl rfl yB rfl ?_
           refine EL_do (.yes2 rfl rfl yB) rfl (D_buildSlice (g := yL) 3172 (xs := ([(2 : Int)] : List Int)) (vs := [.int .i64 (2)]) Try.underlying22 Try.sizeOf3 Try.zeroValue3 rfl rfl (.cons rfl .nil) (RVs.cons (RV_int.2 rfl) RVs.nil) rfl rfl fun zL mS aM hs o190 bM hxt hfl => ?_)
           have hfr := hfr.stp hs
           have t5 := t5.stp hs
           obtain ⟨lD, pH, h⟩ := bsome h
           refine EL_do (.yes2 rfl rfl yB) rfl (D_call (g := zL) (vs := [k9, aM]) en28 (.cons rfl (.cons rfl .nil)) (wk28 t5 bM pH) fun cM iQ nS hs hr => ?_)
           have hfr := hfr.ext hs
           subst hr
           refine EL_p (.bool (lD)) (P_pick (b := jD) rfl (pick_t yB rfl)) rfl ?_
           refine EL_mw (.bool (lD)) rfl rfl ?_
           rcases csome h with ⟨bD, h⟩ | ⟨bD, h⟩
           ·refine EL_y (.int .i64 (y81.1)) (P_move pF) rfl rfl bD rfl ?_
            refine EL_y (.bool ((y81.1 == (2 : Int)))) (P_int rfl rfl rfl) rfl rfl bD rfl ?_
            refine EL_p (.bool ((y81.1 == (2 : Int)))) (P_pick (b := lD) rfl (pick_t bD rfl)) rfl ?_
            refine EL_at (.bool ((y81.1 == (2 : Int)))) rfl rfl ?_
            refine EL_nil ?_
            obtain rfl := sinj h
            exact hQ _ _ ⟨cM, hfr, rfl⟩
           ·cases h
          ·cases h
         ·cases h
        ·cases h
       ·cases h
      ·cases h
     ·cases h
    ·cases h
   ·cases h
  ·clear hx
   obtain ⟨oS, hfr, yG⟩ := hR
   refine E_ret ?_
   obtain rfl := sinj h
   exact end1 rfl rfl (show _ = .bool (lB) from yG) ⟨_, hfr, rfl⟩
end Go.Proofs.Ytnfjhdagbknlbaa
