import Derived.Test.YtnfjhdagbknlbaaCode4
set_option maxRecDepth 8000
set_option maxHeartbeats 4000000
namespace Go.Proofs.Ytnfjhdagbknlbaa
open Go.RowKit
def f30 (x0 : LoomMill) (x1 : List LoomOrder) : Option (Span × Int × Int) :=
 (f50 x0 x1).bind fun y5 =>
 jn (σ := Span × Int) (fun (l8, m8) =>
  Option.bind (α := Span × Int × Int) (
   lp (σ := Span × Int × Int × Int) (fun jC (j6, v6, x6, o0) =>
    bif (decide (o0 < (300 : Int))) then
     Option.bind (α := Span × Int × Int) (
      lp (σ := Span × Int × Int × Int) (fun k94 (m4_95, s5_95, s8_95, s10_95) =>
       jn (σ := Unit) (fun _ =>
        Option.bind (α := Span × Int × Int) (
         (f64 (y5.1) o0 s10_95).bind fun y110 =>
         bif (decide ((w64 (y110 - (w64 ((w64 (s10_95 - o0)) * (((x0).Widths).length : Int))))) > s8_95)) then
          some ((⟨o0, s10_95⟩ : Span), y110, (w64 (y110 - (w64 ((w64 (s10_95 - o0)) * (((x0).Widths).length : Int))))))
         else
          some (m4_95, s5_95, s8_95)
         ) fun (m4_116, s5_116, s8_116) =>
        k94 (m4_116, s5_116, s8_116, (w64 (s10_95 + (1 : Int))))
        ) fun k97 =>
       bif (decide (s10_95 ≤ (300 : Int))) then
        k97 ()
       else
        some (m4_95, s5_95, s8_95)
       ) big (j6, v6, x6, (w64 (o0 + (1 : Int))))
      ) fun (i3, j3, o3) =>
     jC (i3, j3, o3, (w64 (o0 + (1 : Int))))
    else
     some (j6, v6, x6)
    ) big (l8, m8, (0 : Int), (0 : Int))
   ) fun (z2, u3, z3) =>
  jn (σ := Span × Int) (fun (j7, z4) =>
   some (j7, z4, (0 : Int))
   ) fun t9 =>
  bif (z3 == (0 : Int)) then
   some (z2, (0 : Int), (7 : Int))
  else
   t9 (z2, u3)
  ) fun kC =>
 bif (y5.2 != (0 : Int)) then
  some ((⟨0, 0⟩ : Span), (0 : Int), y5.2)
 else
  kC ((⟨0, 0⟩ : Span), (0 : Int))
theorem en30 : Enters Try.prog 30 := enters_of Try.func30 (by kernel_rfl) rfl
theorem wk30 {gI : Gh} {wI : World} {x0 : LoomMill} {x1 : List LoomOrder} {up0 : Value} (rp0 : RV gI.m wI x0 up0) {up1 : Value} (rp1 : RV gI.m wI x1 up1) {r : Span × Int × Int} (h : f30 x0 x1 = some r) : Fn Try.prog 30 #[up0, up1] gI wI (fun m w v => ∃ y0 y1 y2, v = .tuple #[y0, y1, y2] ∧ RV m w (r.1) y0 ∧ y1 = .int .i64 (r.2.1) ∧ y2 = .int .i64 (r.2.2)) := by
 unfold f30 at h
 refine fn_of_E Try.func30 rfl (Nat.le_of_ble_eq_true rfl) fun g0 hm hfr => ?_
 have rp0 : RV g0.m wI x0 up0 := hm ▸ rp0
 have rp1 : RV g0.m wI x1 up1 := hm ▸ rp1
 show E _ 59 none _ _ _ _ _
 refine Zf (Za (Ze .plain rfl (D_box (g := g0) rfl rp0 fun g1 w1 p1 hs q1 => ?_)))
 have hfr := hfr.ext hs
 have rp1 := rp1.ext hs
 refine Ze .plain rfl (D_allocOc (g := g1) 2004 (⟨0, 0⟩ : Span) Try.zeroValue48 (fun m w => ⟨_, (rep_two rep_int rep_int), rfl⟩) fun g2 w2 p2 hs b2 cb => ?_)
 have hfr := hfr.stp hs
 have rp1 := rp1.stp hs
 have q1 := q1.stp hs
 clear cb
 refine Zg (.int .i64 (0)) rfl rfl ?_
 refine Zg (.int .i64 (0)) rfl rfl ?_
 refine Zb (Zd (Zf (Za (Ze .plain rfl (D_load (g := g2) Try.isAgg24 Try.sizeOf24 rfl q1 fun v3 r3 => ?_)))))
 refine Zn up1 rfl rfl ?_
 obtain ⟨y5, hy5, h⟩ := bsome h
 refine Ze .plain rfl (Zp (g := g2) (vs := [v3, up1]) en50 (.cons rfl (.cons rfl .nil)) (wk50 r3 rp1 hy5) fun g4 w4_ v4 hs hr => ?_)
 have hfr := hfr.ext hs
 have q1 := q1.ext hs
 have b2 := b2.ext hs
 obtain ⟨v7, yD, rfl, c8, rfl⟩ := hr
 refine Zn (.tuple #[v7, .int .i64 (y5.2)]) rfl rfl ?_
 refine EL_p v7 (Zi rfl rfl) rfl ?_
 refine EL_p (.int .i64 (y5.2)) (Zi rfl rfl) rfl ?_
 refine Ze .plain rfl (D_allocOc (g := g4) 2007 (⟨⟨[], 0⟩, []⟩ : LoomLoomMill) Try.zeroValue96 (fun m w => ⟨_, (rep_two (rep_two rep_nil rep_int) rep_nil), rfl⟩) fun g6 w6 p6 hs b6 cb => ?_)
 have hfr := hfr.stp hs
 have q1 := q1.stp hs
 have b2 := b2.stp hs rfl
 have c8 := c8.stp hs
 have zD : OSF 2007 60700 0 g6 w6 3 96 ([] : List Int) p6 := cb.osf (by rfl)
 have aE : OSF 2007 60702 2 g6 w6 82 96 ([] : List LoomOrder) p6 := cb.osf (by rfl)
 clear cb
 refine Ze .plain rfl (D_storeOc (g := g6) (v := v7) Try.sizeOf96 rfl b6 rfl c8 fun g7 w7 hs b7 cb => ?_)
 clear cb
 have hfr := hfr.stp hs
 have q1 := q1.stp hs
 have b2 := b2.stp hs rfl
 refine Zg (.int .i64 (y5.2)) rfl rfl ?_
 refine Zb (Zd (Zq h (fun (s : Span × Int) e w => ∃ (g : Gh) , Fr gI wI g w ∧ e 2 = p1 ∧ PT g.m w (x0 : LoomMill) p1 ∧ e 4 = p2 ∧ OB 2004 g w 48 (s.1 : Span) p2 ∧ e 5 = .int .i64 (s.2) ∧ e 7 = p6 ∧ OB 2007 g w 96 (y5.1 : LoomLoomMill) p6) (fun X12 kC rC h => ?_) ?_))
 ·refine Zf (Za (Zn (.int .i64 (y5.2)) rfl rfl ?_))
  refine EL_in (.bool ((y5.2 != (0 : Int)))) rfl rfl rfl rfl ?_
  refine Zb (Zd ?_)
  rcases Zt h with ⟨e8, h⟩ | ⟨e8, h⟩
  ·refine E_ct e8 rfl ?_
   refine Zf (Za (Ze .plain rfl (D_loadO (g := g7) Try.isAgg48 Try.sizeOf48 rfl b2 fun nD oD => ?_)))
   refine Zn (.int .i64 (y5.2)) rfl rfl ?_
   refine Ze .plain rfl (D_storeOc (g := g7) (v := nD) Try.sizeOf48 rfl b2 rfl oD fun uE w15 hs b15 cb => ?_)
   clear cb
   have hfr := hfr.stp hs
   refine Zg (.int .i64 (0)) rfl rfl ?_
   refine Zg (.int .i64 (y5.2)) rfl rfl ?_
   refine Zb (Zd (E_ret (thn_r ?_)))
   obtain rfl := sinj h
   obtain ⟨ad16, cv16, hp16, tC, cr16⟩ := ob_read Try.isAgg48 Try.sizeOf48 b15
   exact endm_ctt rfl rfl ((show _ = p2 from rfl).trans hp16) tC (show _ = .int .i64 (0) from rfl) (show _ = .int .i64 (y5.2) from rfl) ⟨_, hfr, _, _, _, rfl, cr16, rfl, rfl⟩
  ·refine E_cf e8 rfl ?_
   exact Zu (Zd (rC ((⟨0, 0⟩ : Span), (0 : Int)) _ _ ⟨g7, hfr, rfl, q1, rfl, b2, rfl, rfl, b7⟩ h))
 ·rintro ⟨l8, m8⟩ bE vE ⟨sD, hfr, dB, eB, iB, jB, kB, lB, mB⟩ h
  refine Zf (Za (Zg (.int .i64 (0)) rfl rfl ?_))
  refine Zb (Zd ?_)
  obtain ⟨⟨z2, u3, z3⟩, hx, h⟩ := bsome h
  refine E_join (fun e w => ∃ (g : Gh) , Fr gI wI g w ∧ e 4 = p2 ∧ OB 2004 g w 48 (z2 : Span) p2 ∧ e 5 = .int .i64 (u3) ∧ e 8 = .int .i64 (z3)) (fun Q' hQ => ?_) (fun tD cE hR => ?_)
  ·replace h := hx
   clear hx
   refine Zf (Za (Zn (.int .i64 (0)) rfl rfl ?_))
   refine Zb (Zd (Zr ?_))
   refine E_lp h (fun (s : Span × Int × Int × Int) e w => ∃ (g : Gh) , Fr gI wI g w ∧ e 2 = p1 ∧ PT g.m w (x0 : LoomMill) p1 ∧ e 4 = p2 ∧ OB 2004 g w 48 (s.1 : Span) p2 ∧ e 5 = .int .i64 (s.2.1) ∧ e 7 = p6 ∧ OB 2007 g w 96 (y5.1 : LoomLoomMill) p6 ∧ e 8 = .int .i64 (s.2.2.1) ∧ e 23 = .int .i64 (s.2.2.2)) ⟨sD, hfr, dB, eB, iB, jB, kB, lB, mB, rfl, rfl⟩ (fun X68 jC uC => ?_)
   rintro ⟨j6, v6, x6, o0⟩ dE xE ⟨lC, hfr, nB, oB, n8, o8, q8, tB, vB, r8, t5⟩ h
   refine Zf (Za (EL_in (.bool ((decide (o0 < (300 : Int))))) t5 rfl rfl rfl ?_))
   refine Zb (Zd (Zf ?_))
   rcases Zt h with ⟨g8, h⟩ | ⟨g8, h⟩
   ·refine E_ct g8 rfl ?_
    refine Zu (Zd ?_)
    obtain ⟨⟨i3, j3, o3⟩, hx, h⟩ := bsome h
    refine E_join (fun e w => ∃ (g : Gh) , Fr gI wI g w ∧ e 2 = p1 ∧ PT g.m w (x0 : LoomMill) p1 ∧ e 4 = p2 ∧ OB 2004 g w 48 (i3 : Span) p2 ∧ e 5 = .int .i64 (j3) ∧ e 7 = p6 ∧ OB 2007 g w 96 (y5.1 : LoomLoomMill) p6 ∧ e 8 = .int .i64 (o3) ∧ e 23 = .int .i64 (o0)) (fun Q' hQ => ?_) (fun uD eE hR => ?_)
    ·replace h := hx
     clear hx
     refine Zr ?_
     refine Zf (Za (Zo t5 rfl ?_))
     refine Zg (.int .i64 (o0)) rfl rfl ?_
     refine Zb (Zd (Zf (Za (Zn (.int .i64 (o0)) rfl rfl ?_))))
     refine EL_in (.int .i64 ((w64 (o0 + (1 : Int))))) rfl rfl rfl rfl ?_
     refine Zg (.int .i64 ((w64 (o0 + (1 : Int))))) rfl rfl ?_
     refine Zb (Zd (Zr ?_))
     refine E_lp h (fun (s : Span × Int × Int × Int) e w => ∃ (g : Gh) , Fr gI wI g w ∧ e 2 = p1 ∧ PT g.m w (x0 : LoomMill) p1 ∧ e 4 = p2 ∧ OB 2004 g w 48 (s.1 : Span) p2 ∧ e 5 = .int .i64 (s.2.1) ∧ e 7 = p6 ∧ OB 2007 g w 96 (y5.1 : LoomLoomMill) p6 ∧ e 8 = .int .i64 (s.2.2.1) ∧ e 9 = .int .i64 (o0) ∧ e 10 = .int .i64 (s.2.2.2) ∧ e 23 = .int .i64 (o0)) ⟨lC, hfr, nB, oB, n8, o8, q8, tB, vB, r8, rfl, rfl, t5⟩ (fun X94 k94 vC => ?_)
     rintro ⟨m4_95, s5_95, s8_95, s10_95⟩ gE yE ⟨mC, hfr, t8, v8, x8, y8, a9, d9, e9, i9, xB, m7, n7⟩ h
     refine Zq h (fun (s : Unit) e w => ∃ (g : Gh) , Fr gI wI g w ∧ e 2 = p1 ∧ PT g.m w (x0 : LoomMill) p1 ∧ e 4 = p2 ∧ OB 2004 g w 48 (m4_95 : Span) p2 ∧ e 5 = .int .i64 (s5_95) ∧ e 7 = p6 ∧ OB 2007 g w 96 (y5.1 : LoomLoomMill) p6 ∧ e 8 = .int .i64 (s8_95) ∧ e 9 = .int .i64 (o0) ∧ e 10 = .int .i64 (s10_95) ∧ e 23 = .int .i64 (o0)) (fun X97 k97 xC h => ?_) ?_
     ·refine Zf (Za (Zo m7 rfl ?_))
      refine EL_in (.bool ((decide (s10_95 ≤ (300 : Int))))) rfl rfl rfl rfl ?_
      refine Zb (Zd ?_)
      rcases Zt h with ⟨i8, h⟩ | ⟨i8, h⟩
      ·refine E_ct i8 rfl ?_
       exact Zu (Zd (xC () _ _ ⟨mC, hfr, t8, v8, x8, y8, a9, d9, e9, i9, xB, m7, n7⟩ h))
      ·refine E_cf i8 rfl ?_
       refine E_exit ?_
       refine thn_e ?_
       refine thn_e ?_
       refine blk_hit ?_
       refine blk_n ?_
       obtain ⟨rfl, rfl, rfl⟩ := pairs3 h
       exact hQ _ _ ⟨mC, hfr, t8, v8, x8, y8, a9, d9, e9, i9, n7⟩
     ·rintro _ iE zE ⟨qC, hfr, y6, u0, a7, q5, yB, c7, j1, k9, i5, d3, o7⟩ h
      obtain ⟨⟨m4_116, s5_116, s8_116⟩, hx, h⟩ := bsome h
      refine E_join (fun e w => ∃ (g : Gh) , Fr gI wI g w ∧ e 2 = p1 ∧ PT g.m w (x0 : LoomMill) p1 ∧ e 4 = p2 ∧ OB 2004 g w 48 (m4_116 : Span) p2 ∧ e 5 = .int .i64 (s5_116) ∧ e 7 = p6 ∧ OB 2007 g w 96 (y5.1 : LoomLoomMill) p6 ∧ e 8 = .int .i64 (s8_116) ∧ e 9 = .int .i64 (o0) ∧ e 10 = .int .i64 (s10_95) ∧ e 23 = .int .i64 (o0)) (fun Q' hQ => ?_) (fun vD jE hR => ?_)
      ·replace h := hx
       clear hx
       refine Zr ?_
       refine Zf (Za (Ze .plain rfl (D_loadO (g := qC) Try.isAgg96 Try.sizeOf96 c7 j1 fun yC aD => ?_)))
       refine Zo i5 rfl ?_
       refine Zo d3 rfl ?_
       obtain ⟨y110, zB, h⟩ := bsome h
       refine Ze .plain rfl (Zp (g := qC) (vs := [yC, .int .i64 (o0), .int .i64 (s10_95)]) en64 (.cons rfl (.cons rfl (.cons rfl .nil))) (wk64 aD zB) fun d7 aC kE hs hr => ?_)
       have hfr := hfr.ext hs
       have u0 := u0.ext hs
       have q5 := q5.ext hs
       have j1 := j1.ext hs
       subst hr
       refine Zg (.int .i64 (y110)) rfl rfl ?_
       refine Zb (Zd (Zf (Za (Zn (.int .i64 (y110)) rfl rfl ?_))))
       refine Zo d3 rfl ?_
       refine Zo i5 rfl ?_
       refine EL_in (.int .i64 ((w64 (s10_95 - o0)))) rfl rfl rfl rfl ?_
       refine EL_p (fPtr p1 0) (Zc at_24_0 y6 (PT.ptr u0)) rfl ?_
       have bD := Zm (part_LoomMill_0).1 u0
       refine Ze .plain rfl (D_load (g := d7) Try.isAgg22 Try.sizeOf22 rfl bD fun lE cD => ?_)
       refine EL_p (.int .i64 (((x0).Widths).length : Int)) (P_len Try.underlying22 rfl cD) rfl ?_
       refine EL_p (.int .i64 ((w64 ((w64 (s10_95 - o0)) * (((x0).Widths).length : Int))))) (P_int rfl rfl rfl) rfl ?_
       refine EL_p (.int .i64 ((w64 (y110 - (w64 ((w64 (s10_95 - o0)) * (((x0).Widths).length : Int))))))) (P_int rfl rfl rfl) rfl ?_
       refine EL_p (.int .i64 ((w64 (y110 - (w64 ((w64 (s10_95 - o0)) * (((x0).Widths).length : Int))))))) (P_assign rfl) rfl ?_
       refine Zb (Zd (Zf (Za (EL_p (.int .i64 ((w64 (y110 - (w64 ((w64 (s10_95 - o0)) * (((x0).Widths).length : Int))))))) (Zk rfl) rfl ?_))))
       refine Zo k9 rfl ?_
       refine EL_p (.bool ((decide ((w64 (y110 - (w64 ((w64 (s10_95 - o0)) * (((x0).Widths).length : Int))))) > s8_95)))) (P_int rfl rfl rfl) rfl ?_
       refine Zb (Zd ?_)
       rcases Zt h with ⟨e7, h⟩ | ⟨e7, h⟩
       ·refine E_ct e7 rfl ?_
        refine Za (Zo i5 rfl ?_)
        refine Zo d3 rfl ?_
        have u9 : RV d7.m aC (⟨o0, s10_95⟩ : Span) (.agg (setCh [[.int .i64 0], [.int .i64 0]] [(0, .int .i64 (o0)), (1, .int .i64 (s10_95))]).flatten.toArray) := RV_build rfl (rep_pair (rfl) (rep_last (rfl)))
        generalize cC : (Value.agg (setCh [[.int .i64 0], [.int .i64 0]] [(0, .int .i64 (o0)), (1, .int .i64 (s10_95))]).flatten.toArray) = y9 at u9
        refine EL_p y9 (cC ▸ P_build (vs := [(0, .int .i64 (o0)), (1, .int .i64 (s10_95))]) [[.int .i64 0], [.int .i64 0]] lay_48 rfl rfl (.cons rfl (.cons rfl .nil)) ⟨⟨_, rfl, rfl⟩, ⟨⟨_, rfl, rfl⟩, trivial⟩⟩) rfl ?_
        refine Zn (.int .i64 (y110)) rfl rfl ?_
        refine EL_p (.int .i64 ((w64 (y110 - (w64 ((w64 (s10_95 - o0)) * (((x0).Widths).length : Int))))))) (Zk rfl) rfl ?_
        refine Ze .plain rfl (D_storeOc (g := d7) (v := y9) Try.sizeOf48 a7 q5 rfl u9 fun eD mE hs b115 cb => ?_)
        clear cb
        have hfr := hfr.stp hs
        have u0 := u0.stp hs
        have j1 := j1.stp hs rfl
        refine Zg (.int .i64 (y110)) rfl rfl ?_
        refine EL_p (.int .i64 ((w64 (y110 - (w64 ((w64 (s10_95 - o0)) * (((x0).Widths).length : Int))))))) (P_assign rfl) rfl ?_
        refine Zb (blk_n ?_)
        obtain ⟨rfl, rfl, rfl⟩ := pairs3 h
        exact hQ _ _ ⟨eD, hfr, y6, u0, a7, b115, rfl, c7, j1, rfl, i5, d3, o7⟩
       ·refine E_cf e7 rfl ?_
        refine Zu (blk_n ?_)
        obtain ⟨rfl, rfl, rfl⟩ := pairs3 h
        exact hQ _ _ ⟨d7, hfr, y6, u0, a7, q5, yB, c7, j1, k9, i5, d3, o7⟩
      ·clear hx
       obtain ⟨gD, hfr, z9, bA, gA, iA, jA, kA, lA, mA, nA, l9, n9⟩ := hR
       refine Za (Zo l9 rfl ?_)
       refine EL_in (.int .i64 ((w64 (s10_95 + (1 : Int))))) rfl rfl rfl rfl ?_
       refine Zg (.int .i64 ((w64 (s10_95 + (1 : Int))))) rfl rfl ?_
       exact Zb (Zd (vC (m4_116, s5_116, s8_116, (w64 (s10_95 + (1 : Int)))) _ _ ⟨gD, hfr, z9, bA, gA, iA, jA, kA, lA, mA, nA, rfl, n9⟩ h))
    ·clear hx
     obtain ⟨iD, hfr, oA, pA, qA, rA, sA, uA, xA, yA, o9⟩ := hR
     refine Za (EL_in (.int .i64 ((w64 (o0 + (1 : Int))))) o9 rfl rfl rfl ?_)
     refine Zn (.int .i64 ((w64 (o0 + (1 : Int))))) rfl rfl ?_
     exact Zb (Zd (uC (i3, j3, o3, (w64 (o0 + (1 : Int)))) _ _ ⟨iD, hfr, oA, pA, qA, rA, sA, uA, xA, yA, rfl⟩ h))
   ·refine E_cf g8 rfl ?_
    refine E_exit ?_
    refine thn_e ?_
    refine thn_e ?_
    refine blk_hit ?_
    obtain ⟨rfl, rfl, rfl⟩ := pairs3 h
    exact hQ _ _ ⟨lC, hfr, n8, o8, q8, r8⟩
  ·clear hx
   obtain ⟨k8, hfr, l5, x5, zA, aB⟩ := hR
   refine Zq h (fun (s : Span × Int) e w => ∃ (g : Gh) , Fr gI wI g w ∧ e 4 = p2 ∧ OB 2004 g w 48 (s.1 : Span) p2 ∧ e 5 = .int .i64 (s.2)) (fun X123 t9 dC h => ?_) ?_
   ·refine Zf (Za (Zo aB rfl ?_))
    refine EL_in (.bool ((z3 == (0 : Int)))) rfl rfl rfl rfl ?_
    refine Zb (Zd ?_)
    rcases Zt h with ⟨i7, h⟩ | ⟨i7, h⟩
    ·refine E_ct i7 rfl ?_
     refine Zf (Za (Ze .plain rfl (D_loadO (g := k8) Try.isAgg48 Try.sizeOf48 l5 x5 fun jD kD => ?_)))
     refine Ze .plain rfl (D_storeOc (g := k8) (v := jD) Try.sizeOf48 l5 x5 rfl kD fun nE oE hs b126 cb => ?_)
     clear cb
     have hfr := hfr.stp hs
     refine Zg (.int .i64 (0)) rfl rfl ?_
     refine Zg (.int .i64 (7)) rfl rfl ?_
     refine Zb (Zd (E_ret (thn_r ?_)))
     obtain rfl := sinj h
     obtain ⟨ad127, cv127, hp127, eC, cr127⟩ := ob_read Try.isAgg48 Try.sizeOf48 b126
     exact endm_ctt rfl rfl ((show _ = p2 from l5).trans hp127) eC (show _ = .int .i64 (0) from rfl) (show _ = .int .i64 (7) from rfl) ⟨_, hfr, _, _, _, rfl, cr127, rfl, rfl⟩
    ·refine E_cf i7 rfl ?_
     exact Zu (Zd (dC (z2, u3) _ _ ⟨k8, hfr, l5, x5, zA⟩ h))
   ·rintro ⟨j7, z4⟩ xD rE ⟨bB, hfr, i6, u7, cB⟩ h
    refine Zf (Za (Ze .plain rfl (D_loadO (g := bB) Try.isAgg48 Try.sizeOf48 i6 u7 fun lD mD => ?_)))
    refine Zo cB rfl ?_
    refine Ze .plain rfl (D_storeOc (g := bB) (v := lD) Try.sizeOf48 i6 u7 rfl mD fun sE tE hs b130 cb => ?_)
    clear cb
    have hfr := hfr.stp hs
    refine Zg (.int .i64 (z4)) rfl rfl ?_
    refine Zg (.int .i64 (0)) rfl rfl ?_
    refine Zb (Zd (E_ret ?_))
    obtain rfl := sinj h
    obtain ⟨ad131, cv131, hp131, iC, cr131⟩ := ob_read Try.isAgg48 Try.sizeOf48 b130
    exact endm_ctt rfl rfl ((show _ = p2 from i6).trans hp131) iC (show _ = .int .i64 (z4) from rfl) (show _ = .int .i64 (0) from rfl) ⟨_, hfr, _, _, _, rfl, cr131, rfl, rfl⟩
def f33 (x0 : LoomMill) (x1 : List LoomOrder) (x2 : List LoomRun) (x3 : LoomStop) : Option ((List Int) × Int) :=
 (f65 x0 x1 x2 x3).bind fun y6 =>
 jn (σ := (List Int)) (fun t8 =>
  Option.bind (α := (List Int)) (
   lp (σ := (List Int) × Int) (fun aB (l5, o0) =>
    bif (decide (o0 < ((x2).length : Int))) then
     Option.bind (α := (List Int)) (
      (idx x2 o0).bind fun y110 =>
      Option.bind (α := Bool) (
       bif ((y110).Loom == (x3).Loom) then
        (f66 (y6.1) y110).bind fun y132 =>
        some (y132)
       else
        some (false)
       ) fun z3 =>
      bif z3 then
       (apnd 8 l5 (([(y110).Order] : List Int))).bind fun o9 =>
       some (o9)
      else
       some (l5)
      ) fun i5 =>
     aB (i5, (w64 (o0 + (1 : Int))))
    else
     some (l5)
    ) big (t8, (0 : Int))
   ) fun q5 =>
  some (q5, (0 : Int))
  ) fun bB =>
 bif (y6.2 != (0 : Int)) then
  some ([], y6.2)
 else
  bB ([])
theorem en33 : Enters Try.prog 33 := enters_of Try.func33 (by kernel_rfl) rfl
theorem wk33 {gI : Gh} {wI : World} {x0 : LoomMill} {x1 : List LoomOrder} {x2 : List LoomRun} {x3 : LoomStop} {up0 : Value} (rp0 : RV gI.m wI x0 up0) {up1 : Value} (rp1 : RV gI.m wI x1 up1) {up2 : Value} (rp2 : RV gI.m wI x2 up2) {up3 : Value} (rp3 : RV gI.m wI x3 up3) {r : (List Int) × Int} (h : f33 x0 x1 x2 x3 = some r) : Fn Try.prog 33 #[up0, up1, up2, up3] gI wI (fun m w v => ∃ y0 y1, v = .tuple #[y0, y1] ∧ RV m w (r.1) y0 ∧ y1 = .int .i64 (r.2)) := by
 unfold f33 at h
 refine fn_of_E Try.func33 rfl (Nat.le_of_ble_eq_true rfl) fun g0 hm hfr => ?_
 have rp0 : RV g0.m wI x0 up0 := hm ▸ rp0
 have rp1 : RV g0.m wI x1 up1 := hm ▸ rp1
 have rp2 : RV g0.m wI x2 up2 := hm ▸ rp2
 have rp3 : RV g0.m wI x3 up3 := hm ▸ rp3
 show E _ 47 none _ _ _ _ _
 refine Zf (Za (Ze .plain rfl (D_box (g := g0) rfl rp0 fun g1 w1 p1 hs q1 => ?_)))
 have hfr := hfr.ext hs
 have rp1 := rp1.ext hs
 have rp2 := rp2.ext hs
 have rp3 := rp3.ext hs
 refine Ze .plain rfl (D_box (g := g1) rfl rp3 fun g2 w2 p2 hs q2 => ?_)
 have hfr := hfr.ext hs
 have rp1 := rp1.ext hs
 have rp2 := rp2.ext hs
 have q1 := q1.ext hs
 refine Zg (.slice none 0 0) rfl rfl ?_
 refine Zg (.int .i64 (0)) rfl rfl ?_
 refine Zb (Zd (Zf (Za (Ze .plain rfl (D_load (g := g2) Try.isAgg24 Try.sizeOf24 rfl q1 fun v3 r3 => ?_)))))
 refine Zn up1 rfl rfl ?_
 refine Zn up2 rfl rfl ?_
 refine Ze .plain rfl (D_load (g := g2) Try.isAgg54 Try.sizeOf54 rfl q2 fun v4 r4 => ?_)
 obtain ⟨y6, iC, h⟩ := bsome h
 refine Ze .plain rfl (Zp (g := g2) (vs := [v3, up1, up2, v4]) en65 (.cons rfl (.cons rfl (.cons rfl (.cons rfl .nil)))) (wk65 r3 rp1 rp2 r4 iC) fun g5 w5_ v5 hs hr => ?_)
 have hfr := hfr.ext hs
 have rp2 := rp2.ext hs
 have q2 := q2.ext hs
 obtain ⟨l8, tC, rfl, m8, rfl⟩ := hr
 refine Zn (.tuple #[l8, .int .i64 (y6.2)]) rfl rfl ?_
 refine EL_p l8 (Zi rfl rfl) rfl ?_
 refine EL_p (.int .i64 (y6.2)) (Zi rfl rfl) rfl ?_
 refine Ze .plain rfl (D_allocOc (g := g5) 2010 (⟨⟨⟨[], 0⟩, []⟩, ⟨0, ⟨0, 0⟩⟩⟩ : LoomStill) Try.zeroValue113 (fun m w => ⟨_, (rep_two (rep_two (rep_two rep_nil rep_int) rep_nil) (rep_two rep_int (rep_two rep_int rep_int))), rfl⟩) fun g7 w7 p7 hs b7 cb => ?_)
 have hfr := hfr.stp hs
 have rp2 := rp2.stp hs
 have q2 := q2.stp hs
 have m8 := m8.stp hs
 have uC : OSF 2010 61000 0 g7 w7 3 113 ([] : List Int) p7 := cb.osf (by rfl)
 have vC : OSF 2010 61002 2 g7 w7 82 113 ([] : List LoomOrder) p7 := cb.osf (by rfl)
 clear cb
 refine Ze .plain rfl (D_storeOc (g := g7) (v := l8) Try.sizeOf113 rfl b7 rfl m8 fun g8 w8 hs b8 cb => ?_)
 clear cb
 have hfr := hfr.stp hs
 have rp2 := rp2.stp hs
 have q2 := q2.stp hs
 refine Zg (.int .i64 (y6.2)) rfl rfl ?_
 refine Zb (Zd (Zq h (fun (s : (List Int)) e w => ∃ (g : Gh) (v8 : Value), Fr gI wI g w ∧ e 2 = up2 ∧ RV g.m w (x2 : List LoomRun) up2 ∧ e 7 = p2 ∧ PT g.m w (x3 : LoomStop) p2 ∧ e 8 = v8 ∧ RV g.m w (s : List Int) v8 ∧ OS 1008 g w 3 (s : List Int) v8 ∧ e 10 = p7 ∧ OB 2010 g w 113 (y6.1 : LoomStill) p7) (fun X10 bB cB h => ?_) ?_))
 ·refine Zf (Za (Zn (.int .i64 (y6.2)) rfl rfl ?_))
  refine EL_in (.bool ((y6.2 != (0 : Int)))) rfl rfl rfl rfl ?_
  refine Zb (Zd ?_)
  rcases Zt h with ⟨n8, h⟩ | ⟨n8, h⟩
  ·refine E_ct n8 rfl ?_
   refine Zf (Za (Zn (.int .i64 (y6.2)) rfl rfl ?_))
   refine Zg (.slice none 0 0) rfl rfl ?_
   refine Zg (.int .i64 (y6.2)) rfl rfl ?_
   refine Zb (Zd (E_ret (thn_r ?_)))
   obtain rfl := sinj h
   exact end2 rfl rfl (show _ = .slice none 0 0 from rfl) (show _ = .int .i64 (y6.2) from rfl) ⟨_, hfr, _, _, rfl, RV_nil, rfl⟩
  ·refine E_cf n8 rfl ?_
   exact Zu (Zd (cB ([]) _ _ ⟨g8, (.slice none 0 0), hfr, rfl, rp2, rfl, q2, rfl, RV_nil, OS.nil, rfl, b8⟩ h))
 ·rintro t8 xC tD ⟨jC, oA, hfr, pA, x8, qA, rA, sA, uA, xA, t9, u9⟩ h
  obtain ⟨q5, hx, h⟩ := bsome h
  refine E_join (fun e w => ∃ (g : Gh) (v8 : Value), Fr gI wI g w ∧ e 8 = v8 ∧ RV g.m w (q5 : List Int) v8 ∧ OS 1008 g w 3 (q5 : List Int) v8) (fun Q' hQ => ?_) (fun lC yC hR => ?_)
  ·replace h := hx
   clear hx
   refine Zf (Za (Zo pA rfl ?_))
   refine EL_p (.int .i64 ((x2).length : Int)) (P_len Try.underlying31 rfl x8) rfl ?_
   refine Zn (.int .i64 (0)) rfl rfl ?_
   refine Zb (Zd (Zr ?_))
   refine E_lp h (fun (s : (List Int) × Int) e w => ∃ (g : Gh) (v8 : Value), Fr gI wI g w ∧ e 7 = p2 ∧ PT g.m w (x3 : LoomStop) p2 ∧ e 8 = v8 ∧ RV g.m w (s.1 : List Int) v8 ∧ OS 1008 g w 3 (s.1 : List Int) v8 ∧ e 10 = p7 ∧ OB 2010 g w 113 (y6.1 : LoomStill) p7 ∧ e 24 = up2 ∧ RV g.m w (x2 : List LoomRun) up2 ∧ e 25 = .int .i64 (((x2).length : Int)) ∧ e 26 = .int .i64 (s.2)) ⟨jC, (oA), hfr, qA, rA, sA, uA, xA, t9, u9, rfl, x8, rfl, rfl⟩ (fun X77 aB dB => ?_)
   rintro ⟨l5, o0⟩ aD uD ⟨y9, t5, hfr, o7, z2, u7, d3, i3, x6, j1, a7, u0, c7, x5⟩ h
   refine Zf (Za (EL_in (.bool ((decide (o0 < ((x2).length : Int))))) x5 c7 rfl rfl ?_))
   refine Zb (Zd (Zf ?_))
   rcases Zt h with ⟨o8, h⟩ | ⟨o8, h⟩
   ·refine E_ct o8 rfl ?_
    refine Zu (Zd ?_)
    obtain ⟨i5, hx, h⟩ := bsome h
    refine E_join (fun e w => ∃ (g : Gh) (v8 : Value), Fr gI wI g w ∧ e 7 = p2 ∧ PT g.m w (x3 : LoomStop) p2 ∧ e 8 = v8 ∧ RV g.m w (i5 : List Int) v8 ∧ OS 1008 g w 3 (i5 : List Int) v8 ∧ e 10 = p7 ∧ OB 2010 g w 113 (y6.1 : LoomStill) p7 ∧ e 24 = up2 ∧ RV g.m w (x2 : List LoomRun) up2 ∧ e 25 = .int .i64 (((x2).length : Int)) ∧ e 26 = .int .i64 (o0)) (fun Q' hQ => ?_) (fun mC bD hR => ?_)
    ·replace h := hx
     clear hx
     refine Zr ?_
     refine Zf (Za ?_)
     obtain ⟨y110, y8, h⟩ := bsome h
     refine EL_p (ePtr up2 o0 3) (Zh (α := LoomRun) Try.underlying31 Try.sizeOf76 a7 u0 x5 y8) rfl ?_
     have eB := PT_idx u0 y8
     refine Ze .plain rfl (D_load (g := y9) Try.isAgg76 Try.sizeOf76 rfl eB fun iB q8 => ?_)
     refine Ze .plain rfl (D_allocOc (g := y9) 2012 (⟨0, 0, 0⟩ : LoomRun) Try.zeroValue76 (fun m w => ⟨_, (rep_two rep_int (rep_two rep_int rep_int)), rfl⟩) fun jB cD v7 hs b113 cb => ?_)
     have hfr := hfr.stp hs
     have z2 := z2.stp hs
     have d3 := d3.stp hs
     have i3 := i3.stp hs rfl
     have j1 := j1.stp hs rfl
     have u0 := u0.stp hs
     have q8 := q8.stp hs
     clear cb
     refine Ze .plain rfl (D_storeOc (g := jB) (v := iB) Try.sizeOf76 rfl b113 rfl q8 fun v6 eD hs b114 cb => ?_)
     clear cb
     have hfr := hfr.stp hs
     have z2 := z2.stp hs
     have d3 := d3.stp hs
     have i3 := i3.stp hs rfl
     have j1 := j1.stp hs rfl
     have u0 := u0.stp hs
     refine Zb (Zd ?_)
     obtain ⟨z3, hx, h⟩ := bsome h
     refine E_join (fun e w => ∃ (g : Gh) , Fr gI wI g w ∧ e 7 = p2 ∧ PT g.m w (x3 : LoomStop) p2 ∧ e 8 = t5 ∧ RV g.m w (l5 : List Int) t5 ∧ OS 1008 g w 3 (l5 : List Int) t5 ∧ e 10 = p7 ∧ OB 2010 g w 113 (y6.1 : LoomStill) p7 ∧ e 12 = v7 ∧ OB 2012 g w 76 (y110 : LoomRun) v7 ∧ e 24 = up2 ∧ RV g.m w (x2 : List LoomRun) up2 ∧ e 25 = .int .i64 (((x2).length : Int)) ∧ e 26 = .int .i64 (o0) ∧ e 39 = .bool (z3)) (fun Q' hQ => ?_) (fun qC gD hR => ?_)
     ·replace h := hx
      clear hx
      refine Za (EL_p (fPtr v7 1) (Zc at_76_1 rfl (OB.ptr b114)) rfl ?_)
      refine Ze .plain rfl (D_loadF (g := v6) part_LoomRun_1.1 Try.isAgg3 Try.sizeOf3 rfl b114 fun iD kB => ?_)
      obtain rfl := Zj.1 kB
      refine EL_p (fPtr p2 0) (Zc at_54_0 o7 (PT.ptr z2)) rfl ?_
      have lB := Zm (part_LoomStop_0).1 z2
      refine Ze .plain rfl (D_load (g := v6) Try.isAgg3 Try.sizeOf3 rfl lB fun jD mB => ?_)
      obtain rfl := Zj.1 mB
      refine EL_in (.bool (((y110).Loom == (x3).Loom))) rfl rfl rfl rfl ?_
      refine Zn (.bool (((y110).Loom == (x3).Loom))) rfl rfl ?_
      rcases Zt h with ⟨j3, h⟩ | ⟨j3, h⟩
      ·refine Ze (.yes2 rfl rfl j3) rfl (D_loadO (g := v6) Try.isAgg113 Try.sizeOf113 x6 j1 fun nB oB => ?_)
       refine Ze (.yes2 rfl rfl j3) rfl (D_loadO (g := v6) Try.isAgg76 Try.sizeOf76 rfl b114 fun tB vB => ?_)
       obtain ⟨y132, yA, h⟩ := bsome h
       refine Ze (.yes2 rfl rfl j3) rfl (Zp (g := v6) (vs := [nB, tB]) en66 (.cons rfl (.cons rfl .nil)) (wk66 oB vB yA) fun xB rC kD hs hr => ?_)
       have hfr := hfr.ext hs
       have z2 := z2.ext hs
       have d3 := d3.ext hs
       have i3 := i3.ext hs
       have j1 := j1.ext hs
       have u0 := u0.ext hs
       have b114 := b114.ext hs
       subst hr
       refine EL_p (.bool (y132)) (Zl (b := ((y110).Loom == (x3).Loom)) rfl (pick_t j3 rfl)) rfl ?_
       refine Zb ?_
       obtain rfl := sinj h
       exact hQ _ _ ⟨xB, hfr, o7, z2, u7, d3, i3, x6, j1, rfl, b114, a7, u0, c7, x5, rfl⟩
      ·refine EL_s rfl rfl j3 rfl rfl ?_
       refine EL_s rfl rfl j3 rfl rfl ?_
       refine EL_s rfl rfl j3 rfl rfl ?_
       refine EL_p (.bool false) (Zl (b := ((y110).Loom == (x3).Loom)) rfl (pick_f j3 rfl)) rfl ?_
       refine Zb ?_
       obtain rfl := sinj h
       exact hQ _ _ ⟨v6, hfr, o7, z2, u7, d3, i3, x6, j1, rfl, b114, a7, u0, c7, x5, rfl⟩
     ·clear hx
      obtain ⟨r8, hfr, e8, z4, i8, i6, j6, d7, o3, a9, e7, i7, u3, j7, m7, n7⟩ := hR
      rcases Zt h with ⟨c8, h⟩ | ⟨c8, h⟩
      ·refine E_cond_true (Eq.trans (show ev _ _ = .bool (z3) from n7) (congrArg Value.bool c8)) ?_
       refine Za (Zo i8 rfl ?_)
       refine EL_p (fPtr v7 0) (Zc at_76_0 a9 (OB.ptr e7)) rfl ?_
       refine Ze .plain rfl (D_loadF (g := r8) part_LoomRun_0.1 Try.isAgg3 Try.sizeOf3 rfl e7 fun lD yB => ?_)
       obtain rfl := Zj.1 yB
       refine Ze .plain rfl (D_buildSlice (g := r8) 3043 (xs := ([(y110).Order] : List Int)) (vs := [.int .i64 ((y110).Order)]) Try.underlying22 Try.sizeOf3 Try.zeroValue3 rfl rfl (.cons rfl .nil) (RVs.cons (Zj.2 rfl) RVs.nil) rfl rfl fun zB mD nD hs o137 aC hxt hfl => ?_)
       have hfr := hfr.stp hs
       have z4 := z4.stp hs
       have i6 := i6.stp hs
       have j6 := j6.stp hs rfl
       have o3 := o3.stp hs rfl
       have u3 := u3.stp hs
       obtain ⟨o9, zA, h⟩ := bsome h
       refine Ze .plain rfl (D_append (g := zB) (i := 1008) Try.underlying22 info_3 rfl rfl j6 i6 rfl aC zA fun cC oD z9 hs o138 dC _ => ?_)
       have hfr := hfr.stp hs
       have z4 := z4.stp hs
       have o3 := o3.stp hs rfl
       have u3 := u3.stp hs
       refine Zg z9 rfl rfl ?_
       refine Zb (blk_n ?_)
       obtain rfl := sinj h
       exact hQ _ _ ⟨cC, (z9), hfr, e8, z4, rfl, dC, o138, d7, o3, i7, u3, j7, m7⟩
      ·refine E_cond_false (Eq.trans (show ev _ _ = .bool (z3) from n7) (congrArg Value.bool c8)) ?_
       refine Zu (blk_n ?_)
       obtain rfl := sinj h
       exact hQ _ _ ⟨r8, (t5), hfr, e8, z4, i8, i6, j6, d7, o3, i7, u3, j7, m7⟩
    ·clear hx
     obtain ⟨eC, bA, hfr, gA, iA, jA, kA, lA, d9, e9, i9, k9, l9, n9⟩ := hR
     refine Za (EL_in (.int .i64 ((w64 (o0 + (1 : Int))))) n9 rfl rfl rfl ?_)
     refine Zn (.int .i64 ((w64 (o0 + (1 : Int))))) rfl rfl ?_
     exact Zb (Zd (dB (i5, (w64 (o0 + (1 : Int)))) _ _ ⟨eC, (bA), hfr, gA, iA, jA, kA, lA, d9, e9, i9, k9, l9, rfl⟩ h))
   ·refine E_cf o8 rfl ?_
    refine E_exit ?_
    refine thn_e ?_
    refine thn_e ?_
    refine blk_hit ?_
    obtain rfl := sinj h
    exact hQ _ _ ⟨y9, (t5), hfr, u7, d3, i3⟩
  ·clear hx
   obtain ⟨sD, k8, hfr, mA, nA, kC⟩ := hR
   refine Zf (Za (Zo mA rfl ?_))
   refine Zg k8 rfl rfl ?_
   refine Zg (.int .i64 (0)) rfl rfl ?_
   refine Zb (Zd (E_ret ?_))
   obtain rfl := sinj h
   exact end2 rfl rfl (show _ = k8 from rfl) (show _ = .int .i64 (0) from rfl) ⟨_, hfr, _, _, rfl, nA, rfl⟩
theorem v67_0 {iO : Nat} {gI : Gh} {wI : World} {x0 : List LoomRun} {up0 : Value} (rp0 : RV gI.m wI x0 up0) {r : List LoomRun} (h : f67 x0 = some r) : FnG Try.prog 67 #[up0] gI wI (fun g w v => OM iO g w 76 r v) := by
 unfold f67 at h
 refine fnG_of_E Try.func67 rfl (Nat.le_of_ble_eq_true rfl) fun g0 hm hfr => ?_
 have rp0 : RV g0.m wI x0 up0 := hm ▸ rp0
 show E _ 8 none _ _ _ _ _
 refine Zf (Za (Zg (.slice none 0 0) rfl rfl (Zb (Zd ?_))))
 refine Zf (Zf (Za (Zn up0 rfl rfl ?_)))
 obtain ⟨a, c, hv, hc, hrow⟩ := RV_list rp0
 refine EL_p (.bool a.isNone) (P_slnil Try.underlying31 (show ev _ _ = _ from hv)) rfl (Zb (Zd ?_))
 cases a with
 | none =>
  have hx : x0 = [] := by
   cases x0 with
   | nil => rfl
   | cons y ys => obtain ⟨b, off, hb, _⟩ := hrow (by simp); cases hb
  subst hx
  have hr : r = [] := by unfold apnd at h; split at h <;> simp at h; exact h
  subst hr
  refine E_cond_true rfl (Zf (Za ?_))
  refine Zg (.slice none 0 0) rfl rfl (Zb (Zd ?_))
  obtain ⟨gh, hxh, homh⟩ := OM.handn (i := iO) (t := 76) (α := LoomRun) hfr; exact E_ret (thn_r (end1 rfl rfl (show _ = .slice none 0 0 from rfl) ⟨gh, hxh, homh⟩))
 | some a =>
  refine E_cond_false rfl (Zu (Zd ?_))
  refine Zf (Za (Ze .plain rfl (D_buildSlice (g := g0) 1 (xs := ([] : List LoomRun)) (vs := []) Try.underlying31 Try.sizeOf76 Try.zeroValue76 rfl rfl .nil RVs.nil rfl rfl fun g1 w1 v1 hs o1 r1 hxt hfl => ?_)))
  have hfr := hfr.stp hs
  have rp0 := rp0.stp hs
  refine Zn up0 rfl rfl ?_
  refine Ze .plain rfl (D_append (g := g1) (i := 1) Try.underlying31 info_76 rfl rfl o1 r1 rfl rp0 h fun g2 w2 v2 hs o2 r2 _ => ?_)
  have hfr := hfr.stp hs
  refine Zg v2 rfl rfl (Zb (Zd ?_))
  obtain ⟨gh, hxh, homh⟩ := OM.hand (i := iO) plain_LoomRun hfr o2 r2; exact E_ret (end1 rfl rfl (show _ = v2 from rfl) ⟨gh, hxh, homh⟩)
def f40 (x0 : LoomMill) (x1 : List LoomOrder) (x2 : List LoomRun) : Option (Int × Int) :=
 (f50 x0 x1).bind fun y4 =>
 jn (σ := Unit) (fun _ =>
  (f78 (y4.1) x2).bind fun o0 =>
  some (o0.1, o0.2)
  ) fun k8 =>
 bif (y4.2 != (0 : Int)) then
  some ((0 : Int), y4.2)
 else
  k8 ()
theorem en40 : Enters Try.prog 40 := enters_of Try.func40 (by kernel_rfl) rfl
theorem wk40 {gI : Gh} {wI : World} {x0 : LoomMill} {x1 : List LoomOrder} {x2 : List LoomRun} {up0 : Value} (rp0 : RV gI.m wI x0 up0) {up1 : Value} (rp1 : RV gI.m wI x1 up1) {up2 : Value} (rp2 : RV gI.m wI x2 up2) {r : Int × Int} (h : f40 x0 x1 x2 = some r) : Fn Try.prog 40 #[up0, up1, up2] gI wI (fun m w v => ∃ y0 y1, v = .tuple #[y0, y1] ∧ y0 = .int .i64 (r.1) ∧ y1 = .int .i64 (r.2)) := by
 unfold f40 at h
 refine fn_of_E Try.func40 rfl (Nat.le_of_ble_eq_true rfl) fun g0 hm hfr => ?_
 have rp0 : RV g0.m wI x0 up0 := hm ▸ rp0
 have rp1 : RV g0.m wI x1 up1 := hm ▸ rp1
 have rp2 : RV g0.m wI x2 up2 := hm ▸ rp2
 show E _ 23 none _ _ _ _ _
 refine Zf (Za (Ze .plain rfl (D_box (g := g0) rfl rp0 fun g1 w1 p1 hs q1 => ?_)))
 have hfr := hfr.ext hs
 have rp1 := rp1.ext hs
 have rp2 := rp2.ext hs
 refine Zg (.int .i64 (0)) rfl rfl ?_
 refine Zg (.int .i64 (0)) rfl rfl ?_
 refine Zb (Zd (Zf (Za (Ze .plain rfl (D_load (g := g1) Try.isAgg24 Try.sizeOf24 rfl q1 fun v2 r2 => ?_)))))
 refine Zn up1 rfl rfl ?_
 obtain ⟨y4, z4, h⟩ := bsome h
 refine Ze .plain rfl (Zp (g := g1) (vs := [v2, up1]) en50 (.cons rfl (.cons rfl .nil)) (wk50 r2 rp1 z4) fun g3 w3_ v3 hs hr => ?_)
 have hfr := hfr.ext hs
 have rp2 := rp2.ext hs
 obtain ⟨u0, i6, rfl, j1, rfl⟩ := hr
 refine Zn (.tuple #[u0, .int .i64 (y4.2)]) rfl rfl ?_
 refine EL_p u0 (Zi rfl rfl) rfl ?_
 refine EL_p (.int .i64 (y4.2)) (Zi rfl rfl) rfl ?_
 refine Ze .plain rfl (D_allocOc (g := g3) 2008 (⟨⟨[], 0⟩, []⟩ : LoomLoomMill) Try.zeroValue96 (fun m w => ⟨_, (rep_two (rep_two rep_nil rep_int) rep_nil), rfl⟩) fun g5 w5 p5 hs b5 cb => ?_)
 have hfr := hfr.stp hs
 have rp2 := rp2.stp hs
 have j1 := j1.stp hs
 have j6 : OSF 2008 60800 0 g5 w5 3 96 ([] : List Int) p5 := cb.osf (by rfl)
 have v6 : OSF 2008 60802 2 g5 w5 82 96 ([] : List LoomOrder) p5 := cb.osf (by rfl)
 clear cb
 refine Ze .plain rfl (D_storeOc (g := g5) (v := u0) Try.sizeOf96 rfl b5 rfl j1 fun g6 w6 hs b6 cb => ?_)
 clear cb
 have hfr := hfr.stp hs
 have rp2 := rp2.stp hs
 refine Zg (.int .i64 (y4.2)) rfl rfl ?_
 refine Zb (Zd (Zq h (fun (s : Unit) e w => ∃ (g : Gh) , Fr gI wI g w ∧ e 2 = up2 ∧ RV g.m w (x2 : List LoomRun) up2 ∧ e 8 = p5 ∧ OB 2008 g w 96 (y4.1 : LoomLoomMill) p5) (fun X8 k8 i5 h => ?_) ?_))
 ·refine Zf (Za (Zn (.int .i64 (y4.2)) rfl rfl ?_))
  refine EL_in (.bool ((y4.2 != (0 : Int)))) rfl rfl rfl rfl ?_
  refine Zb (Zd ?_)
  rcases Zt h with ⟨z2, h⟩ | ⟨z2, h⟩
  ·refine E_ct z2 rfl ?_
   refine Zf (Za (Zn (.int .i64 (y4.2)) rfl rfl ?_))
   refine Zg (.int .i64 (0)) rfl rfl ?_
   refine Zg (.int .i64 (y4.2)) rfl rfl ?_
   refine Zb (Zd (E_ret (thn_r ?_)))
   obtain rfl := sinj h
   exact end2 rfl rfl (show _ = .int .i64 (0) from rfl) (show _ = .int .i64 (y4.2) from rfl) ⟨_, hfr, _, _, rfl, rfl, rfl⟩
  ·refine E_cf z2 rfl ?_
   exact Zu (Zd (i5 () _ _ ⟨g6, hfr, rfl, rp2, rfl, b6⟩ h))
 ·rintro _ x6 a7 ⟨u3, hfr, d3, i3, j3, o3⟩ h
  refine Zf (Za (Ze .plain rfl (D_loadO (g := u3) Try.isAgg96 Try.sizeOf96 j3 o3 fun l5 q5 => ?_)))
  refine Zo d3 rfl ?_
  obtain ⟨o0, z3, h⟩ := bsome h
  refine Ze .plain rfl (Zp (g := u3) (vs := [l5, up2]) en78 (.cons rfl (.cons rfl .nil)) (wk78 q5 i3 z3) fun b7 y6 c7 hs hr => ?_)
  have hfr := hfr.ext hs
  obtain ⟨t5, x5, rfl, rfl, rfl⟩ := hr
  refine EL_p (.int .i64 (o0.1)) (Zi rfl rfl) rfl ?_
  refine EL_p (.int .i64 (o0.2)) (Zi rfl rfl) rfl ?_
  refine Zg (.int .i64 (o0.1)) rfl rfl ?_
  refine Zg (.int .i64 (o0.2)) rfl rfl ?_
  refine Zb (Zd (E_ret ?_))
  obtain rfl := sinj h
  exact end2 rfl rfl (show _ = .int .i64 (o0.1) from rfl) (show _ = .int .i64 (o0.2) from rfl) ⟨_, hfr, _, _, rfl, rfl, rfl⟩
theorem v48_0 {iO : Nat} {gI : Gh} {wI : World} {x0 : Int} {x1 : Int}  {r : (List LoomOrder)} (h : f48 x0 x1 = some r) : FnG Try.prog 48 #[.int .i64 (x0), .int .i64 (x1)] gI wI (fun g w v => OM iO g w 82 (r) v) := by
 unfold f48 at h
 refine fnG_of_E Try.func48 rfl (Nat.le_of_ble_eq_true rfl) fun g0 hm hfr => ?_
 show E _ 11 none _ _ _ _ _
 refine Zf (Za (Zg (.slice none 0 0) rfl rfl ?_))
 refine Zb (Zd (Zf (Za ?_)))
 have r1 : RV g0.m wI (⟨(5 : Int), (1 : Int), (10 : Int), 0, (20 : Int)⟩ : LoomOrder) (.agg (setCh [[.int .i64 0], [.int .i64 0], [.int .i64 0], [.int .i64 0], [.int .i64 0]] [(0, .int .i64 (5)), (1, .int .i64 (1)), (2, .int .i64 (10)), (4, .int .i64 (20))]).flatten.toArray) := RV_build rfl (rep_pair (rfl) (rep_pair (rfl) (rep_pair (rfl) (rep_pair (rep_int) (rep_last (rfl))))))
 generalize hv1 : (Value.agg (setCh [[.int .i64 0], [.int .i64 0], [.int .i64 0], [.int .i64 0], [.int .i64 0]] [(0, .int .i64 (5)), (1, .int .i64 (1)), (2, .int .i64 (10)), (4, .int .i64 (20))]).flatten.toArray) = v1 at r1
 refine EL_p v1 (hv1 ▸ P_build (vs := [(0, .int .i64 (5)), (1, .int .i64 (1)), (2, .int .i64 (10)), (4, .int .i64 (20))]) [[.int .i64 0], [.int .i64 0], [.int .i64 0], [.int .i64 0], [.int .i64 0]] lay_82 rfl rfl (.cons rfl (.cons rfl (.cons rfl (.cons rfl .nil)))) ⟨⟨_, rfl, rfl⟩, ⟨⟨_, rfl, rfl⟩, ⟨⟨_, rfl, rfl⟩, ⟨⟨_, rfl, rfl⟩, trivial⟩⟩⟩⟩) rfl ?_
 have r2 : RV g0.m wI (⟨(15 : Int), (2 : Int), (12 : Int), 0, (20 : Int)⟩ : LoomOrder) (.agg (setCh [[.int .i64 0], [.int .i64 0], [.int .i64 0], [.int .i64 0], [.int .i64 0]] [(0, .int .i64 (15)), (1, .int .i64 (2)), (2, .int .i64 (12)), (4, .int .i64 (20))]).flatten.toArray) := RV_build rfl (rep_pair (rfl) (rep_pair (rfl) (rep_pair (rfl) (rep_pair (rep_int) (rep_last (rfl))))))
 generalize hv2 : (Value.agg (setCh [[.int .i64 0], [.int .i64 0], [.int .i64 0], [.int .i64 0], [.int .i64 0]] [(0, .int .i64 (15)), (1, .int .i64 (2)), (2, .int .i64 (12)), (4, .int .i64 (20))]).flatten.toArray) = v2 at r2
 refine EL_p v2 (hv2 ▸ P_build (vs := [(0, .int .i64 (15)), (1, .int .i64 (2)), (2, .int .i64 (12)), (4, .int .i64 (20))]) [[.int .i64 0], [.int .i64 0], [.int .i64 0], [.int .i64 0], [.int .i64 0]] lay_82 rfl rfl (.cons rfl (.cons rfl (.cons rfl (.cons rfl .nil)))) ⟨⟨_, rfl, rfl⟩, ⟨⟨_, rfl, rfl⟩, ⟨⟨_, rfl, rfl⟩, ⟨⟨_, rfl, rfl⟩, trivial⟩⟩⟩⟩) rfl ?_
 refine Zn (.int .i64 (x0)) rfl rfl ?_
 refine Zn (.int .i64 (x1)) rfl rfl ?_
 have r3 : RV g0.m wI (⟨(5 : Int), x0, x1, 0, (20 : Int)⟩ : LoomOrder) (.agg (setCh [[.int .i64 0], [.int .i64 0], [.int .i64 0], [.int .i64 0], [.int .i64 0]] [(0, .int .i64 (5)), (1, .int .i64 (x0)), (2, .int .i64 (x1)), (4, .int .i64 (20))]).flatten.toArray) := RV_build rfl (rep_pair (rfl) (rep_pair (rfl) (rep_pair (rfl) (rep_pair (rep_int) (rep_last (rfl))))))
 generalize hv3 : (Value.agg (setCh [[.int .i64 0], [.int .i64 0], [.int .i64 0], [.int .i64 0], [.int .i64 0]] [(0, .int .i64 (5)), (1, .int .i64 (x0)), (2, .int .i64 (x1)), (4, .int .i64 (20))]).flatten.toArray) = v3 at r3
 refine EL_p v3 (hv3 ▸ P_build (vs := [(0, .int .i64 (5)), (1, .int .i64 (x0)), (2, .int .i64 (x1)), (4, .int .i64 (20))]) [[.int .i64 0], [.int .i64 0], [.int .i64 0], [.int .i64 0], [.int .i64 0]] lay_82 rfl rfl (.cons rfl (.cons rfl (.cons rfl (.cons rfl .nil)))) ⟨⟨_, rfl, rfl⟩, ⟨⟨_, rfl, rfl⟩, ⟨⟨_, rfl, rfl⟩, ⟨⟨_, rfl, rfl⟩, trivial⟩⟩⟩⟩) rfl ?_
 refine Ze .plain rfl (D_buildSlice (g := g0) 3010 (xs := ([(⟨(5 : Int), (1 : Int), (10 : Int), 0, (20 : Int)⟩ : LoomOrder), (⟨(15 : Int), (2 : Int), (12 : Int), 0, (20 : Int)⟩ : LoomOrder), (⟨(5 : Int), x0, x1, 0, (20 : Int)⟩ : LoomOrder)] : List LoomOrder)) (vs := [v1, v2, v3]) Try.underlying25 Try.sizeOf82 Try.zeroValue82 rfl rfl (.cons rfl (.cons rfl (.cons rfl .nil))) (RVs.cons r1 (RVs.cons r2 (RVs.cons r3 RVs.nil))) rfl rfl fun g4 w4 v4 hs o4 r4 hxt hfl => ?_)
 have hfr := hfr.stp hs
 refine Zg v4 rfl rfl ?_
 refine Zb (Zd (E_ret ?_))
 obtain rfl := sinj h
 obtain ⟨gh, hxh, homh⟩ := OM.hand (i := iO) plain_LoomOrder hfr o4 r4
 exact end1 rfl rfl (show _ = v4 from rfl) ⟨gh, hxh, homh⟩
def f34 (x0 : LoomMill) (x1 : List LoomOrder) (x2 : List LoomRun) (x3 : LoomStop) : Option ((List LoomRun) × (List Int) × Int) :=
 (f65 x0 x1 x2 x3).bind fun y7 =>
 jn (σ := (List Int)) (fun t5 =>
  (f67 x2).bind fun mI =>
  Option.bind (α := (List LoomRun)) (
   (f68 x2 ((x3).Loom)).bind fun x6 =>
   lp (σ := (List LoomRun) × Int × Int) (fun jE (d7, j7, i3) =>
    bif (decide (i3 < ((x6).length : Int))) then
     Option.bind (α := (List LoomRun) × Int) (
      (idx x6 i3).bind fun o0 =>
      (idx d7 o0).bind fun l8 =>
      Option.bind (α := (List LoomRun)) (
       (epok d7 j7).bind fun jC =>
       bif jC then
        (idx d7 j7).bind fun kE =>
        (f69 ((y7.1).mill) kE ((l8).Order)).bind fun lA =>
        some ((List.set d7 (Int.toNat o0) ({ l8 with From := (max64 (l8).From lA) })))
       else
        some (d7)
       ) fun m7 =>
      Option.bind (α := (List LoomRun)) (
       (idx m7 o0).bind fun lE =>
       (f66 (y7.1) lE).bind fun cB =>
       bif cB then
        (idx m7 o0).bind fun mE =>
        some ((List.set m7 (Int.toNat o0) ({ mE with From := (w64 (((x3).Days).High + (1 : Int))) })))
       else
        some (m7)
       ) fun mA =>
      some (mA, o0)
      ) fun (i9, x8) =>
     jE (i9, x8, (w64 (i3 + (1 : Int))))
    else
     some (d7)
    ) big (mI, (-1), (0 : Int))
   ) fun m8 =>
  jn (σ := (List LoomRun) × (List Int)) (fun (u3, vB) =>
   Option.bind (α := (List Int)) (
    lp (σ := (List Int) × Int) (fun nE (k9, i5) =>
     bif (decide (i5 < ((u3).length : Int))) then
      Option.bind (α := (List Int)) (
       (idx u3 i5).bind fun e8 =>
       (f73 ((y7.1).mill) e8).bind fun nA =>
       (idx x1 (e8).Order).bind fun dB =>
       bif (decide (nA > (dB).Late)) then
        (apnd 8 k9 (([(e8).Order] : List Int))).bind fun oE =>
        some (oE)
       else
        some (k9)
       ) fun n8 =>
      nE (n8, (w64 (i5 + (1 : Int))))
     else
      some (k9)
     ) big (vB, (0 : Int))
    ) fun l9 =>
   some (u3, l9, (0 : Int))
   ) fun rE =>
  (f72 m8 ((fun a0 => f70 a0))).bind fun sE =>
  bif sE then
   some (([] : List LoomRun), [], (8 : Int))
  else
   rE (m8, t5)
  ) fun nI =>
 bif (y7.2 != (0 : Int)) then
  some (([] : List LoomRun), [], y7.2)
 else
  nI ([])
theorem en34 : Enters Try.prog 34 := enters_of Try.func34 (by kernel_rfl) rfl
theorem wk34 {gI : Gh} {wI : World} {x0 : LoomMill} {x1 : List LoomOrder} {x2 : List LoomRun} {x3 : LoomStop} {up0 : Value} (rp0 : RV gI.m wI x0 up0) {up1 : Value} (rp1 : RV gI.m wI x1 up1) {up2 : Value} (rp2 : RV gI.m wI x2 up2) {up3 : Value} (rp3 : RV gI.m wI x3 up3) {r : (List LoomRun) × (List Int) × Int} (h : f34 x0 x1 x2 x3 = some r) : Fn Try.prog 34 #[up0, up1, up2, up3] gI wI (fun m w v => ∃ y0 y1 y2, v = .tuple #[y0, y1, y2] ∧ RV m w (r.1) y0 ∧ RV m w (r.2.1) y1 ∧ y2 = .int .i64 (r.2.2)) := by
 unfold f34 at h
 refine fn_of_E Try.func34 rfl (Nat.le_of_ble_eq_true rfl) fun g0 hm hfr => ?_
 have rp0 : RV g0.m wI x0 up0 := hm ▸ rp0
 have rp1 : RV g0.m wI x1 up1 := hm ▸ rp1
 have rp2 : RV g0.m wI x2 up2 := hm ▸ rp2
 have rp3 : RV g0.m wI x3 up3 := hm ▸ rp3
 show E _ 106 none _ _ _ _ _
 refine Zf (Za (Ze .plain rfl (D_box (g := g0) rfl rp0 fun g1 w1 p1 hs q1 => ?_)))
 have hfr := hfr.ext hs
 have rp1 := rp1.ext hs
 have rp2 := rp2.ext hs
 have rp3 := rp3.ext hs
 refine Ze .plain rfl (D_box (g := g1) rfl rp3 fun g2 w2 p2 hs q2 => ?_)
 have hfr := hfr.ext hs
 have rp1 := rp1.ext hs
 have rp2 := rp2.ext hs
 have q1 := q1.ext hs
 refine Zg (.slice none 0 0) rfl rfl ?_
 have b3 : OA 4008 g2 w2 76 ([] : List LoomRun) (.slice none 0 0) := OA.nil
 refine Zg (.slice none 0 0) rfl rfl ?_
 refine Zg (.int .i64 (0)) rfl rfl ?_
 refine Zb (Zd (Zf (Za (Ze .plain rfl (D_load (g := g2) Try.isAgg24 Try.sizeOf24 rfl q1 fun v4 r4 => ?_)))))
 refine Zn up1 rfl rfl ?_
 refine Zn up2 rfl rfl ?_
 refine Ze .plain rfl (D_load (g := g2) Try.isAgg54 Try.sizeOf54 rfl q2 fun v5 r5 => ?_)
 obtain ⟨y7, eK, h⟩ := bsome h
 refine Ze .plain rfl (Zp (g := g2) (vs := [v4, up1, up2, v5]) en65 (.cons rfl (.cons rfl (.cons rfl (.cons rfl .nil)))) (wk65 r4 rp1 rp2 r5 eK) fun g6 w6_ v6 hs hr => ?_)
 have hfr := hfr.ext hs
 have rp1 := rp1.ext hs
 have rp2 := rp2.ext hs
 have q2 := q2.ext hs
 obtain ⟨kC, zK, rfl, lC, rfl⟩ := hr
 refine Zn (.tuple #[kC, .int .i64 (y7.2)]) rfl rfl ?_
 refine EL_p kC (Zi rfl rfl) rfl ?_
 refine EL_p (.int .i64 (y7.2)) (Zi rfl rfl) rfl ?_
 refine Ze .plain rfl (D_allocOc (g := g6) 2011 (⟨⟨⟨[], 0⟩, []⟩, ⟨0, ⟨0, 0⟩⟩⟩ : LoomStill) Try.zeroValue113 (fun m w => ⟨_, (rep_two (rep_two (rep_two rep_nil rep_int) rep_nil) (rep_two rep_int (rep_two rep_int rep_int))), rfl⟩) fun g8 w8 p8 hs b8 cb => ?_)
 have hfr := hfr.stp hs
 have rp1 := rp1.stp hs
 have rp2 := rp2.stp hs
 have q2 := q2.stp hs
 have lC := lC.stp hs
 have aL : OSF 2011 61100 0 g8 w8 3 113 ([] : List Int) p8 := cb.osf (by rfl)
 have bL : OSF 2011 61102 2 g8 w8 82 113 ([] : List LoomOrder) p8 := cb.osf (by rfl)
 clear cb
 refine Ze .plain rfl (D_storeOc (g := g8) (v := kC) Try.sizeOf113 rfl b8 rfl lC fun g9 w9 hs b9 cb => ?_)
 clear cb
 have hfr := hfr.stp hs
 have rp1 := rp1.stp hs
 have rp2 := rp2.stp hs
 have q2 := q2.stp hs
 refine Zg (.int .i64 (y7.2)) rfl rfl ?_
 refine Zb (Zd (Zq h (fun (s : (List Int)) e w => ∃ (g : Gh) (v9 : Value), Fr gI wI g w ∧ e 1 = up1 ∧ RV g.m w (x1 : List LoomOrder) up1 ∧ e 2 = up2 ∧ RV g.m w (x2 : List LoomRun) up2 ∧ e 7 = p2 ∧ PT g.m w (x3 : LoomStop) p2 ∧ e 9 = v9 ∧ RV g.m w (s : List Int) v9 ∧ OS 1009 g w 3 (s : List Int) v9 ∧ e 11 = p8 ∧ OB 2011 g w 113 (y7.1 : LoomStill) p8) (fun X13 nI pI h => ?_) ?_))
 ·refine Zf (Za (Zn (.int .i64 (y7.2)) rfl rfl ?_))
  refine EL_in (.bool ((y7.2 != (0 : Int)))) rfl rfl rfl rfl ?_
  refine Zb (Zd ?_)
  rcases Zt h with ⟨mC, h⟩ | ⟨mC, h⟩
  ·refine E_ct mC rfl ?_
   refine Zf (Za (Zn (.int .i64 (y7.2)) rfl rfl ?_))
   refine Zg (.slice none 0 0) rfl rfl ?_
   have b15 : OA 4008 g9 w9 76 ([] : List LoomRun) (.slice none 0 0) := OA.nil
   refine Zg (.slice none 0 0) rfl rfl ?_
   refine Zg (.int .i64 (y7.2)) rfl rfl ?_
   refine Zb (Zd (E_ret (thn_r ?_)))
   obtain ⟨gp16, hs, rp16⟩ := OM.pub (b15.toM)
   have hfr := hfr.stp hs
   obtain rfl := sinj h
   exact end3 rfl rfl (show _ = .slice none 0 0 from rfl) (show _ = .slice none 0 0 from rfl) (show _ = .int .i64 (y7.2) from rfl) ⟨_, hfr, _, _, _, rfl, rp16, RV_nil, rfl⟩
  ·refine E_cf mC rfl ?_
   exact Zu (Zd (pI ([]) _ _ ⟨g9, (.slice none 0 0), hfr, rfl, rp1, rfl, rp2, rfl, q2, rfl, RV_nil, OS.nil, rfl, b9⟩ h))
 ·rintro t5 cL sM ⟨lK, o3, hfr, jH, n9, vC, kA, xC, i8, kH, o9, t9, tE, o8⟩ h
  refine Zf (Za (Zo vC rfl ?_))
  obtain ⟨mI, qI, h⟩ := bsome h
  refine Ze .plain rfl (D_callG (g := lK) (vs := [up2]) en67 (.cons rfl .nil) (v67_0 (iO := 9031) kA qI) fun oI dL u0 hs hr => ?_)
  have hfr := hfr.ext hs
  have n9 := n9.ext hs
  have kA := kA.ext hs
  have i8 := i8.ext hs
  have o9 := o9.ext hs
  have t9 := t9.ext hs
  have o8 := o8.ext hs
  have hm18 := hr
  refine Zg u0 rfl rfl ?_
  refine Zb (Zd (Zf (Za (EL_p (epV u0 (-1) 3) (P_assign (rfl.trans epV_nil)) rfl ?_))))
  refine Zb (Zd ?_)
  obtain ⟨m8, hx, h⟩ := bsome h
  refine E_join (fun e w => ∃ (g : Gh) , Fr gI wI g w ∧ e 1 = up1 ∧ RV g.m w (x1 : List LoomOrder) up1 ∧ e 8 = u0 ∧ OM 9031 g w 76 (m8 : List LoomRun) u0 ∧ e 9 = o3 ∧ RV g.m w (t5 : List Int) o3 ∧ OS 1009 g w 3 (t5 : List Int) o3 ∧ e 11 = p8 ∧ OB 2011 g w 113 (y7.1 : LoomStill) p8) (fun Q' hQ => ?_) (fun nK eL hR => ?_)
  ·replace h := hx
   clear hx
   refine Zf (Za (Zo vC rfl ?_))
   refine EL_p (fPtr p2 0) (Zc at_54_0 xC (PT.ptr i8)) rfl ?_
   have rI := Zm (part_LoomStop_0).1 i8
   refine Ze .plain rfl (D_load (g := oI) Try.isAgg3 Try.sizeOf3 rfl rI fun gL sI => ?_)
   obtain rfl := Zj.1 sI
   obtain ⟨x6, lH, h⟩ := bsome h
   refine Ze .plain rfl (Zp (g := oI) (vs := [up2, .int .i64 ((x3).Loom)]) en68 (.cons rfl (.cons rfl .nil)) (wk68 kA lH) fun tI oK k8 hs hr => ?_)
   have hfr := hfr.ext hs
   have n9 := n9.ext hs
   have i8 := i8.ext hs
   have o9 := o9.ext hs
   have t9 := t9.ext hs
   have o8 := o8.ext hs
   have hm18 := hm18.ext hs
   have uE := hr
   refine EL_p (.int .i64 ((x6).length : Int)) (P_len Try.underlying22 rfl uE) rfl ?_
   refine Zn (.int .i64 (0)) rfl rfl ?_
   refine Zb (Zd (Zr ?_))
   refine E_lp h (fun (s : (List LoomRun) × Int × Int) e w => ∃ (g : Gh) , Fr gI wI g w ∧ e 1 = up1 ∧ RV g.m w (x1 : List LoomOrder) up1 ∧ e 7 = p2 ∧ PT g.m w (x3 : LoomStop) p2 ∧ e 8 = u0 ∧ OM 9031 g w 76 (s.1 : List LoomRun) u0 ∧ e 9 = o3 ∧ RV g.m w (t5 : List Int) o3 ∧ OS 1009 g w 3 (t5 : List Int) o3 ∧ e 11 = p8 ∧ OB 2011 g w 113 (y7.1 : LoomStill) p8 ∧ e 12 = epV u0 (s.2.1) 3 ∧ e 35 = k8 ∧ RV g.m w (x6 : List Int) k8 ∧ e 36 = .int .i64 (((x6).length : Int)) ∧ e 37 = .int .i64 (s.2.2)) ⟨tI, hfr, jH, n9, xC, i8, rfl, hm18, kH, o9, t9, tE, o8, rfl, rfl, uE, rfl, rfl⟩ (fun X400 jE mH => ?_)
   rintro ⟨d7, j7, i3⟩ pK iL ⟨eB, hfr, oA, e7, xB, n7, u9, j1, pA, g7, i7, y8, x5, yA, y9, i6, z9, a9⟩ h
   refine Zf (Za (EL_in (.bool ((decide (i3 < ((x6).length : Int))))) a9 z9 rfl rfl ?_))
   refine Zb (Zd (Zf ?_))
   rcases Zt h with ⟨iB, h⟩ | ⟨iB, h⟩
   ·refine E_ct iB rfl ?_
    refine Zu (Zd ?_)
    obtain ⟨⟨i9, x8⟩, hx, h⟩ := bsome h
    refine E_join (fun e w => ∃ (g : Gh) , Fr gI wI g w ∧ e 1 = up1 ∧ RV g.m w (x1 : List LoomOrder) up1 ∧ e 7 = p2 ∧ PT g.m w (x3 : LoomStop) p2 ∧ e 8 = u0 ∧ OM 9031 g w 76 (i9 : List LoomRun) u0 ∧ e 9 = o3 ∧ RV g.m w (t5 : List Int) o3 ∧ OS 1009 g w 3 (t5 : List Int) o3 ∧ e 11 = p8 ∧ OB 2011 g w 113 (y7.1 : LoomStill) p8 ∧ e 12 = epV u0 x8 3 ∧ e 35 = k8 ∧ RV g.m w (x6 : List Int) k8 ∧ e 36 = .int .i64 (((x6).length : Int)) ∧ e 37 = .int .i64 (i3)) (fun Q' hQ => ?_) (fun qK jL hR => ?_)
    ·replace h := hx
     clear hx
     refine Zr ?_
     refine Zf (Za ?_)
     obtain ⟨o0, yC, h⟩ := bsome h
     refine EL_p (ePtr k8 i3 1) (Zh (α := Int) Try.underlying22 Try.sizeOf3 y9 i6 a9 yC) rfl ?_
     have uI := PT_idx i6 yC
     refine Ze .plain rfl (D_load (g := eB) Try.isAgg3 Try.sizeOf3 rfl uI fun kL vI => ?_)
     obtain rfl := Zj.1 vI
     refine Zg (.int .i64 (o0)) rfl rfl ?_
     refine Zb (Zd (Zf (Za (Zo u9 rfl ?_))))
     refine Zn (.int .i64 (o0)) rfl rfl ?_
     obtain ⟨l8, j6, h⟩ := bsome h
     refine EL_p (ePtr u0 o0 3) (P_indexAddrM (α := LoomRun) Try.underlying31 Try.sizeOf76 rfl j1 rfl j6) rfl ?_
     refine Zg (ePtr u0 o0 3) rfl rfl ?_
     refine Zb (Zd ?_)
     obtain ⟨m7, hx, h⟩ := bsome h
     refine E_join (fun e w => ∃ (g : Gh) , Fr gI wI g w ∧ e 1 = up1 ∧ RV g.m w (x1 : List LoomOrder) up1 ∧ e 7 = p2 ∧ PT g.m w (x3 : LoomStop) p2 ∧ e 8 = u0 ∧ OM 9031 g w 76 (m7 : List LoomRun) u0 ∧ e 9 = o3 ∧ RV g.m w (t5 : List Int) o3 ∧ OS 1009 g w 3 (t5 : List Int) o3 ∧ e 11 = p8 ∧ OB 2011 g w 113 (y7.1 : LoomStill) p8 ∧ e 15 = ePtr u0 o0 3 ∧ e 35 = k8 ∧ RV g.m w (x6 : List Int) k8 ∧ e 36 = .int .i64 (((x6).length : Int)) ∧ e 37 = .int .i64 (i3)) (fun Q' hQ => ?_) (fun sK lL hR => ?_)
     ·replace h := hx
      clear hx
      refine Zf (Za (Zo yA rfl ?_))
      obtain ⟨jC, nH, h⟩ := bsome h
      refine EL_p (.bool (jC)) (P_epne Try.underlying116 j1 rfl rfl nH) rfl ?_
      refine Zb (Zd ?_)
      rcases Zt h with ⟨jB, h⟩ | ⟨jB, h⟩
      ·refine E_ct jB rfl ?_
       obtain ⟨pb652, po652, pe652⟩ := OM.ptrE (k := 3) j1 j6
       obtain ⟨pb654, po654, pe654⟩ := OM.ptrE (k := 3) j1 j6
       refine L_loadMF (x := .tmp 49) part_LoomRun_2.1 Try.isAgg3 Try.sizeOf3 j1 j6 fun mL xI oH => ?_
       obtain rfl := Zj.1 xI
       refine L_loadO (x := .tmp 51) part_LoomStill_0.1 Try.isAgg96 Try.sizeOf96 x5 fun vE yI pH => ?_
       obtain ⟨kE, kB, h⟩ := bsome h
       obtain ⟨pb659, po659, pe659⟩ := OM.ptrE (k := 3) j1 kB
       refine L_loadM (x := .tmp 54) Try.isAgg76 Try.sizeOf76 j1 kB fun xE zI qH => ?_
       obtain ⟨pb661, po661, pe661⟩ := OM.ptrE (k := 3) j1 j6
       obtain ⟨pb663, po663, pe663⟩ := OM.ptrE (k := 3) j1 j6
       refine L_loadMF (x := .tmp 58) part_LoomRun_0.1 Try.isAgg3 Try.sizeOf3 j1 j6 fun nL aJ sH => ?_
       obtain rfl := Zj.1 aJ
       obtain ⟨lA, tH, h⟩ := bsome h
       obtain ⟨pb667, po667, pe667⟩ := OM.ptrE (k := 3) j1 j6
       obtain ⟨pb669, po669, pe669⟩ := OM.ptrE (k := 3) j1 j6
       refine E_drawL (g := eB) (n := 18) [(14, (fun v g w => v = .int .i64 (lA)))] [0, 1, 2, 3, 4, 5, 6, 7, 8, 9, 10, 11, 12, 13, 14, 15, 16, 17] rfl mixed (by kernel_rfl) (⟨fun _ => up_eq _, trivial⟩) ?_
       refine L_p (ePtr u0 o0 3) rfl rfl (Zk rfl) ?_
       refine L_p (ePtr u0 o0 3) rfl rfl (Zk rfl) ?_
       refine L_p (ePtr u0 o0 3) rfl rfl (P_nilCk rfl pe652) ?_
       refine L_p (fPtr (ePtr u0 o0 3) 2) rfl rfl (Zc at_76_2 rfl ⟨_, _, pe654⟩) ?_
       refine L_ld (c := .int .i64 ((l8).From)) rfl rfl .plain (fun _ _ h => ⟨h.ch, fun b hb _ => h.below.block b hb⟩) oH rfl ?_
       refine L_p (fPtr p8 0) rfl rfl (Zc at_113_0 y8 (OB.ptr x5)) ?_
       refine L_ld (c := vE) rfl rfl .plain (fun _ _ h => ⟨h.ch, fun b hb _ => h.below.block b hb⟩) pH rfl ?_
       refine L_p (epV u0 j7 3) rfl rfl (Zk yA) ?_
       refine L_p (ePtr u0 j7 3) rfl rfl (P_nilCk (rfl.trans (epV_pos kB)) pe659) ?_
       refine L_ld (c := xE) rfl rfl .plain (fun _ _ h => ⟨h.ch, fun b hb _ => h.below.block b hb⟩) qH rfl ?_
       refine L_p (ePtr u0 o0 3) rfl rfl (Zk rfl) ?_
       refine L_p (ePtr u0 o0 3) rfl rfl (P_nilCk rfl pe661) ?_
       refine L_p (fPtr (ePtr u0 o0 3) 0) rfl rfl (Zc at_76_0 rfl ⟨_, _, pe663⟩) ?_
       refine L_ld (c := .int .i64 ((l8).Order)) rfl rfl .plain (fun _ _ h => ⟨h.ch, fun b hb _ => h.below.block b hb⟩) sH rfl ?_
       refine L_do (φ := fun v g w => v = .int .i64 (lA)) rfl rfl .plain (fun g w hd => Zp (g := g) (vs := [vE, xE, .int .i64 ((l8).Order)]) en69 (.cons rfl (.cons rfl (.cons rfl .nil))) (wk69 (yI.ext hd.1) (zI.ext hd.1) tH) fun g' w' v hs hr => ⟨g', hs, hr⟩) (fun oL hv => ?_)
       obtain ⟨_, _, _, rfl⟩ := hv
       refine L_p (.int .i64 (max64 (l8).From lA)) rfl rfl (P_max rfl rfl) ?_
       refine L_p (ePtr u0 o0 3) rfl rfl (P_nilCk rfl pe667) ?_
       refine L_p (fPtr (ePtr u0 o0 3) 2) rfl rfl (Zc at_76_2 rfl ⟨_, _, pe669⟩) ?_
       refine L_nl fun bJ pL hs => ?_
       have hfr := hfr.ext hs
       have e7 := e7.ext hs
       have n7 := n7.ext hs
       have j1 := j1.ext hs
       have g7 := g7.ext hs
       have i7 := i7.ext hs
       have x5 := x5.ext hs
       have i6 := i6.ext hs
       clear hs
       refine Ze .plain rfl (D_storeMF (g := bJ) part_LoomRun_2 Try.sizeOf3 rfl j1 j6 rfl (Zj.2 rfl) fun cJ qL hs b708 => ?_)
       have hfr := hfr.stp hs
       have e7 := e7.stp hs
       have n7 := n7.stp hs
       have g7 := g7.stp hs
       have i7 := i7.stp hs rfl
       have x5 := x5.stp hs rfl
       have i6 := i6.stp hs
       refine Zb ?_
       obtain rfl := sinj h
       exact hQ _ _ ⟨cJ, hfr, oA, e7, xB, n7, u9, b708, pA, g7, i7, y8, x5, rfl, y9, i6, z9, a9⟩
      ·refine E_cf jB rfl ?_
       refine Zu ?_
       obtain rfl := sinj h
       exact hQ _ _ ⟨eB, hfr, oA, e7, xB, n7, u9, j1, pA, g7, i7, y8, x5, rfl, y9, i6, z9, a9⟩
     ·clear hx
      obtain ⟨dJ, hfr, yB, o7, qA, a7, zB, b7, aC, u7, v7, bA, y6, d9, zA, c7, aB, bB⟩ := hR
      obtain ⟨mA, hx, h⟩ := bsome h
      refine E_join (fun e w => ∃ (g : Gh) , Fr gI wI g w ∧ e 1 = up1 ∧ RV g.m w (x1 : List LoomOrder) up1 ∧ e 7 = p2 ∧ PT g.m w (x3 : LoomStop) p2 ∧ e 8 = u0 ∧ OM 9031 g w 76 (mA : List LoomRun) u0 ∧ e 9 = o3 ∧ RV g.m w (t5 : List Int) o3 ∧ OS 1009 g w 3 (t5 : List Int) o3 ∧ e 11 = p8 ∧ OB 2011 g w 113 (y7.1 : LoomStill) p8 ∧ e 15 = ePtr u0 o0 3 ∧ e 35 = k8 ∧ RV g.m w (x6 : List Int) k8 ∧ e 36 = .int .i64 (((x6).length : Int)) ∧ e 37 = .int .i64 (i3)) (fun Q' hQ => ?_) (fun tK rL hR => ?_)
      ·replace h := hx
       clear hx
       refine Zf (L_loadO0 (x := .tmp 11) Try.isAgg113 Try.sizeOf113 y6 fun yE eJ uH => ?_)
       obtain ⟨lE, aD, h⟩ := bsome h
       obtain ⟨pb742, po742, pe742⟩ := OM.ptrE (k := 3) b7 aD
       refine L_loadM (x := .tmp 66) Try.isAgg76 Try.sizeOf76 b7 aD fun zE gJ vH => ?_
       obtain ⟨cB, xH, h⟩ := bsome h
       refine E_drawL (g := dJ) (n := 5) [(4, (fun v g w => v = .bool (cB)))] [0, 1, 2, 3, 4] rfl mixed (by kernel_rfl) (⟨fun _ => up_eq _, trivial⟩) ?_
       refine L_ld (c := yE) rfl rfl .plain (fun _ _ h => ⟨h.ch, fun b hb _ => h.below.block b hb⟩) uH bA ?_
       refine L_p (ePtr u0 o0 3) rfl rfl (Zk d9) ?_
       refine L_p (ePtr u0 o0 3) rfl rfl (P_nilCk rfl pe742) ?_
       refine L_ld (c := zE) rfl rfl .plain (fun _ _ h => ⟨h.ch, fun b hb _ => h.below.block b hb⟩) vH rfl ?_
       refine L_do (φ := fun v g w => v = .bool (cB)) rfl rfl .plain (fun g w hd => Zp (g := g) (vs := [yE, zE]) en66 (.cons rfl (.cons rfl .nil)) (wk66 (eJ.ext hd.1) (gJ.ext hd.1) xH) fun g' w' v hs hr => ⟨g', hs, hr⟩) (fun tL hv => ?_)
       obtain ⟨_, _, _, rfl⟩ := hv
       refine L_nl fun qC uL hs => ?_
       have hfr := hfr.ext hs
       have o7 := o7.ext hs
       have a7 := a7.ext hs
       have b7 := b7.ext hs
       have u7 := u7.ext hs
       have v7 := v7.ext hs
       have y6 := y6.ext hs
       have c7 := c7.ext hs
       clear hs
       refine Zb (Zd ?_)
       rcases Zt h with ⟨lB, h⟩ | ⟨lB, h⟩
       ·refine E_ct lB rfl ?_
        refine Za (Zo d9 rfl ?_)
        refine EL_p (fPtr p2 1) (Zc at_54_1 qA (PT.ptr a7)) rfl ?_
        have cF := Zm (part_LoomStop_1).1 a7
        refine EL_p (fPtr (fPtr p2 1) 1) (Zc at_48_1 rfl (PT.ptr cF)) rfl ?_
        have iJ := Zm (part_Span_1).1 cF
        refine Ze .plain rfl (D_load (g := qC) Try.isAgg3 Try.sizeOf3 rfl iJ fun vL jJ => ?_)
        obtain rfl := Zj.1 jJ
        refine EL_in (.int .i64 ((w64 (((x3).Days).High + (1 : Int))))) rfl rfl rfl rfl ?_
        obtain ⟨mE, mB, h⟩ := bsome h
        obtain ⟨pb766, po766, pe766⟩ := OM.ptrE (k := 3) b7 mB
        refine EL_p (ePtr u0 o0 3) (P_nilCk rfl pe766) rfl ?_
        obtain ⟨pb768, po768, pe768⟩ := OM.ptrE (k := 3) b7 mB
        refine EL_p (fPtr (ePtr u0 o0 3) 2) (Zc at_76_2 rfl ⟨_, _, pe768⟩) rfl ?_
        refine Ze .plain rfl (D_storeMF (g := qC) part_LoomRun_2 Try.sizeOf3 rfl b7 mB rfl (Zj.2 rfl) fun kJ xL hs b769 => ?_)
        have hfr := hfr.stp hs
        have o7 := o7.stp hs
        have a7 := a7.stp hs
        have u7 := u7.stp hs
        have v7 := v7.stp hs rfl
        have y6 := y6.stp hs rfl
        have c7 := c7.stp hs
        refine Zb ?_
        obtain rfl := sinj h
        exact hQ _ _ ⟨kJ, hfr, yB, o7, qA, a7, zB, b769, aC, u7, v7, bA, y6, d9, zA, c7, aB, bB⟩
       ·refine E_cf lB rfl ?_
        refine Zu ?_
        obtain rfl := sinj h
        exact hQ _ _ ⟨qC, hfr, yB, o7, qA, a7, zB, b7, aC, u7, v7, bA, y6, d9, zA, c7, aB, bB⟩
      ·clear hx
       obtain ⟨lJ, hfr, dF, eF, iF, nF, oF, pF, qF, rF, sF, eD, gD, iD, jD, kD, lD, mD⟩ := hR
       refine Za (Zo iD rfl ?_)
       refine EL_p (epV u0 o0 3) (P_assign (rfl.trans (epV_pos j6).symm)) rfl ?_
       refine Zb (blk_n ?_)
       obtain ⟨rfl, rfl⟩ := pairs2 h
       exact hQ _ _ ⟨lJ, hfr, dF, eF, iF, nF, oF, pF, qF, rF, sF, eD, gD, rfl, jD, kD, lD, mD⟩
    ·clear hx
     obtain ⟨mJ, hfr, tF, uF, vF, xF, yF, zF, aG, bG, cG, nD, oD, sD, tD, uD, vD, xD⟩ := hR
     refine Za (EL_in (.int .i64 ((w64 (i3 + (1 : Int))))) xD rfl rfl rfl ?_)
     refine Zn (.int .i64 ((w64 (i3 + (1 : Int))))) rfl rfl ?_
     exact Zb (Zd (mH (i9, x8, (w64 (i3 + (1 : Int)))) _ _ ⟨mJ, hfr, tF, uF, vF, xF, yF, zF, aG, bG, cG, nD, oD, sD, tD, uD, vD, rfl⟩ h))
   ·refine E_cf iB rfl ?_
    refine E_exit ?_
    refine thn_e ?_
    refine thn_e ?_
    refine blk_hit ?_
    obtain rfl := sinj h
    exact hQ _ _ ⟨eB, hfr, oA, e7, u9, j1, pA, g7, i7, y8, x5⟩
  ·clear hx
   obtain ⟨yL, hfr, dG, q8, cC, eG, gG, r8, t8, yD, c8⟩ := hR
   refine Zf (Za (Zg (.func (.func 70) #[] #[]) rfl rfl ?_))
   refine Zb (Zd (Zq h (fun (s : (List LoomRun) × (List Int)) e w => ∃ (g : Gh) (v8 v9 : Value), Fr gI wI g w ∧ e 1 = up1 ∧ RV g.m w (x1 : List LoomOrder) up1 ∧ e 8 = v8 ∧ RV g.m w (s.1 : List LoomRun) v8 ∧ e 9 = v9 ∧ RV g.m w (s.2 : List Int) v9 ∧ OS 1009 g w 3 (s.2 : List Int) v9 ∧ e 11 = p8 ∧ OB 2011 g w 113 (y7.1 : LoomStill) p8) (fun X779 rE yH h => ?_) ?_))
   ·refine Zf (Za (Zo cC rfl ?_))
    refine Zn (.func (.func 70) #[] #[]) rfl rfl ?_
    obtain ⟨gp780, hs, rp780⟩ := OM.pub eG
    have hfr := hfr.stp hs
    have q8 := q8.stp hs
    have r8 := r8.stp hs
    have t8 := t8.stp hs rfl
    have c8 := c8.stp hs rfl
    obtain ⟨sE, zH, h⟩ := bsome h
    refine Ze .plain rfl (Zp (g := gp780) (vs := [u0, .func (.func 70) #[] #[]]) en72 (.cons rfl (.cons rfl .nil)) (wk72 rp780 ⟨70, #[], #[], rfl, en70, fun g' w' hch a0 b0 r hu0 hr => by exact Fn.mono (wk70 hu0  hr) fun _ _ _ h => RV_bool.2 h⟩ zH) fun hG aI zL hs hr => ?_)
    have hfr := hfr.ext hs
    have q8 := q8.ext hs
    have rp780 := rp780.ext hs
    have r8 := r8.ext hs
    have t8 := t8.ext hs
    have c8 := c8.ext hs
    subst hr
    refine Zb (Zd ?_)
    rcases Zt h with ⟨nB, h⟩ | ⟨nB, h⟩
    ·refine E_ct nB rfl ?_
     refine Zf (Za (Zg (.slice none 0 0) rfl rfl ?_))
     have b784 : OA 4008 hG aI 76 ([] : List LoomRun) (.slice none 0 0) := OA.nil
     refine Zg (.slice none 0 0) rfl rfl ?_
     refine Zg (.int .i64 (8)) rfl rfl ?_
     refine Zb (Zd (E_ret (thn_r ?_)))
     obtain ⟨gp785, hs, rp785⟩ := OM.pub (b784.toM)
     have hfr := hfr.stp hs
     obtain rfl := sinj h
     exact end3 rfl rfl (show _ = .slice none 0 0 from rfl) (show _ = .slice none 0 0 from rfl) (show _ = .int .i64 (8) from rfl) ⟨_, hfr, _, _, _, rfl, rp785, RV_nil, rfl⟩
    ·refine E_cf nB rfl ?_
     exact Zu (Zd (yH (m8, t5) _ _ ⟨hG, (u0), (o3), hfr, dG, q8, cC, rp780, gG, r8, t8, yD, c8⟩ h))
   ·rintro ⟨u3, vB⟩ uK aM ⟨nJ, z3, iG, hfr, jG, kG, dC, rA, lG, mG, nG, zD, aE⟩ h
    obtain ⟨l9, hx, h⟩ := bsome h
    refine E_join (fun e w => ∃ (g : Gh) (v9 : Value), Fr gI wI g w ∧ e 8 = z3 ∧ RV g.m w (u3 : List LoomRun) z3 ∧ e 9 = v9 ∧ RV g.m w (l9 : List Int) v9 ∧ OS 1009 g w 3 (l9 : List Int) v9) (fun Q' hQ => ?_) (fun vK bM hR => ?_)
    ·replace h := hx
     clear hx
     refine Zf (Za (Zo dC rfl ?_))
     refine EL_p (.int .i64 ((u3).length : Int)) (P_len Try.underlying31 rfl rA) rfl ?_
     refine Zn (.int .i64 (0)) rfl rfl ?_
     refine Zb (Zd (Zr ?_))
     refine E_lp h (fun (s : (List Int) × Int) e w => ∃ (g : Gh) (v9 : Value), Fr gI wI g w ∧ e 1 = up1 ∧ RV g.m w (x1 : List LoomOrder) up1 ∧ e 8 = z3 ∧ RV g.m w (u3 : List LoomRun) z3 ∧ e 9 = v9 ∧ RV g.m w (s.1 : List Int) v9 ∧ OS 1009 g w 3 (s.1 : List Int) v9 ∧ e 11 = p8 ∧ OB 2011 g w 113 (y7.1 : LoomStill) p8 ∧ e 81 = z3 ∧ RV g.m w (u3 : List LoomRun) z3 ∧ e 82 = .int .i64 (((u3).length : Int)) ∧ e 83 = .int .i64 (s.2)) ⟨nJ, (iG), hfr, jG, kG, dC, rA, lG, mG, nG, zD, aE, rfl, rA, rfl, rfl⟩ (fun X881 nE bI => ?_)
     rintro ⟨k9, i5⟩ xK cM ⟨rC, eC, hfr, sA, j3, uA, z4, xA, l5, q5, gA, z2, iA, d3, jA, e9⟩ h
     refine Zf (Za (EL_in (.bool ((decide (i5 < ((u3).length : Int))))) e9 jA rfl rfl ?_))
     refine Zb (Zd (Zf ?_))
     rcases Zt h with ⟨oB, h⟩ | ⟨oB, h⟩
     ·refine E_ct oB rfl ?_
      refine Zu (Zd ?_)
      obtain ⟨n8, hx, h⟩ := bsome h
      refine E_join (fun e w => ∃ (g : Gh) (v9 : Value), Fr gI wI g w ∧ e 1 = up1 ∧ RV g.m w (x1 : List LoomOrder) up1 ∧ e 8 = z3 ∧ RV g.m w (u3 : List LoomRun) z3 ∧ e 9 = v9 ∧ RV g.m w (n8 : List Int) v9 ∧ OS 1009 g w 3 (n8 : List Int) v9 ∧ e 11 = p8 ∧ OB 2011 g w 113 (y7.1 : LoomStill) p8 ∧ e 81 = z3 ∧ RV g.m w (u3 : List LoomRun) z3 ∧ e 82 = .int .i64 (((u3).length : Int)) ∧ e 83 = .int .i64 (i5)) (fun Q' hQ => ?_) (fun yK dM hR => ?_)
      ·replace h := hx
       clear hx
       refine Zr ?_
       refine Zf (Za ?_)
       obtain ⟨e8, bD, h⟩ := bsome h
       refine EL_p (ePtr z3 i5 3) (Zh (α := LoomRun) Try.underlying31 Try.sizeOf76 iA d3 e9 bD) rfl ?_
       have oJ := PT_idx d3 bD
       refine Ze .plain rfl (D_load (g := rC) Try.isAgg76 Try.sizeOf76 rfl oJ fun pJ tC => ?_)
       refine Ze .plain rfl (D_allocOc (g := rC) 2018 (⟨0, 0, 0⟩ : LoomRun) Try.zeroValue76 (fun m w => ⟨_, (rep_two rep_int (rep_two rep_int rep_int)), rfl⟩) fun qJ eM oG hs b932 cb => ?_)
       have hfr := hfr.stp hs
       have j3 := j3.stp hs
       have z4 := z4.stp hs
       have l5 := l5.stp hs
       have q5 := q5.stp hs rfl
       have z2 := z2.stp hs rfl
       have d3 := d3.stp hs
       have tC := tC.stp hs
       clear cb
       refine Ze .plain rfl (D_storeOc (g := qJ) (v := pJ) Try.sizeOf76 rfl b932 rfl tC fun rJ gM hs b933 cb => ?_)
       clear cb
       have hfr := hfr.stp hs
       have j3 := j3.stp hs
       have z4 := z4.stp hs
       have l5 := l5.stp hs
       have q5 := q5.stp hs rfl
       have z2 := z2.stp hs rfl
       have d3 := d3.stp hs
       refine Zb (Zd (Zf (L_loadO (x := .tmp 87) part_LoomStill_0.1 Try.isAgg96 Try.sizeOf96 z2 fun pG sJ cI => ?_)))
       refine L_loadO0 (x := .tmp 18) Try.isAgg76 Try.sizeOf76 b933 fun qG tJ dI => ?_
       obtain ⟨nA, iI, h⟩ := bsome h
       refine L_loadO (x := .tmp 92) part_LoomRun_0.1 Try.isAgg3 Try.sizeOf3 b933 fun iM uJ jI => ?_
       obtain rfl := Zj.1 uJ
       obtain ⟨dB, cD, h⟩ := bsome h
       have rG := PT_idx j3 cD
       have vJ := Zm (part_LoomOrder_4).1 rG
       refine Zs (x := .tmp 95) Try.isAgg3 Try.sizeOf3 vJ fun jM xJ kI => ?_
       obtain rfl := Zj.1 xJ
       refine E_drawL (g := rJ) (n := 11) [(3, (fun v g w => v = .int .i64 (nA)))] [0, 1, 2, 3, 4, 5, 6, 7, 8, 9, 10] rfl mixed (by kernel_rfl) (⟨fun _ => up_eq _, trivial⟩) ?_
       refine L_p (fPtr p8 0) rfl rfl (Zc at_113_0 gA (OB.ptr z2)) ?_
       refine L_ld (c := pG) rfl rfl .plain (fun _ _ h => ⟨h.ch, fun b hb _ => h.below.block b hb⟩) cI rfl ?_
       refine L_ld (c := qG) rfl rfl .plain (fun _ _ h => ⟨h.ch, fun b hb _ => h.below.block b hb⟩) dI rfl ?_
       refine L_do (φ := fun v g w => v = .int .i64 (nA)) rfl rfl .plain (fun g w hd => Zp (g := g) (vs := [pG, qG]) en73 (.cons rfl (.cons rfl .nil)) (wk73 (sJ.ext hd.1) (tJ.ext hd.1) iI) fun g' w' v hs hr => ⟨g', hs, hr⟩) (fun kM hv => ?_)
       obtain ⟨_, _, _, rfl⟩ := hv
       refine L_p up1 rfl rfl (Zk sA) ?_
       refine L_p (fPtr oG 0) rfl rfl (Zc at_76_0 rfl (OB.ptr b933)) ?_
       refine L_ld (c := .int .i64 ((e8).Order)) rfl rfl .plain (fun _ _ h => ⟨h.ch, fun b hb _ => h.below.block b hb⟩) jI rfl ?_
       refine L_p (ePtr up1 (e8).Order 5) rfl rfl (Zh (α := LoomOrder) Try.underlying25 Try.sizeOf82 rfl j3 rfl cD) ?_
       refine L_p (fPtr (ePtr up1 (e8).Order 5) 4) rfl rfl (Zc at_82_4 rfl (PT.ptr rG)) ?_
       refine L_ld (c := .int .i64 ((dB).Late)) rfl rfl .plain (fun _ _ h => h.ch) kI rfl ?_
       refine L_p (.bool ((decide (nA > (dB).Late)))) rfl rfl (P_int rfl rfl rfl) ?_
       refine L_nl fun uC mM hs => ?_
       have hfr := hfr.ext hs
       have j3 := j3.ext hs
       have z4 := z4.ext hs
       have l5 := l5.ext hs
       have q5 := q5.ext hs
       have z2 := z2.ext hs
       have d3 := d3.ext hs
       have b933 := b933.ext hs
       clear hs
       refine Zb (Zd ?_)
       rcases Zt h with ⟨tB, h⟩ | ⟨tB, h⟩
       ·refine E_ct tB rfl ?_
        refine Za (Zo xA rfl ?_)
        refine EL_p (fPtr oG 0) (Zc at_76_0 rfl (OB.ptr b933)) rfl ?_
        refine Ze .plain rfl (D_loadF (g := uC) part_LoomRun_0.1 Try.isAgg3 Try.sizeOf3 rfl b933 fun nM yJ => ?_)
        obtain rfl := Zj.1 yJ
        refine Ze .plain rfl (D_buildSlice (g := uC) 3101 (xs := ([(e8).Order] : List Int)) (vs := [.int .i64 ((e8).Order)]) Try.underlying22 Try.sizeOf3 Try.zeroValue3 rfl rfl (.cons rfl .nil) (RVs.cons (Zj.2 rfl) RVs.nil) rfl rfl fun zJ oM pM hs o971 aK hxt hfl => ?_)
        have hfr := hfr.stp hs
        have j3 := j3.stp hs
        have z4 := z4.stp hs
        have l5 := l5.stp hs
        have q5 := q5.stp hs rfl
        have z2 := z2.stp hs rfl
        have d3 := d3.stp hs
        obtain ⟨oE, lI, h⟩ := bsome h
        refine Ze .plain rfl (D_append (g := zJ) (i := 1009) Try.underlying22 info_3 rfl rfl q5 l5 rfl aK lI fun bK qM sG hs o972 cK _ => ?_)
        have hfr := hfr.stp hs
        have j3 := j3.stp hs
        have z4 := z4.stp hs
        have z2 := z2.stp hs rfl
        have d3 := d3.stp hs
        refine Zg sG rfl rfl ?_
        refine Zb (blk_n ?_)
        obtain rfl := sinj h
        exact hQ _ _ ⟨bK, (sG), hfr, sA, j3, uA, z4, rfl, cK, o972, gA, z2, iA, d3, jA, e9⟩
       ·refine E_cf tB rfl ?_
        refine Zu (blk_n ?_)
        obtain rfl := sinj h
        exact hQ _ _ ⟨uC, (eC), hfr, sA, j3, uA, z4, xA, l5, q5, gA, z2, iA, d3, jA, e9⟩
      ·clear hx
       obtain ⟨dK, tG, hfr, uG, vG, xG, yG, zG, aH, bH, bE, cE, dE, eE, gE, iE⟩ := hR
       refine Za (EL_in (.int .i64 ((w64 (i5 + (1 : Int))))) iE rfl rfl rfl ?_)
       refine Zn (.int .i64 ((w64 (i5 + (1 : Int))))) rfl rfl ?_
       exact Zb (Zd (bI (n8, (w64 (i5 + (1 : Int)))) _ _ ⟨dK, (tG), hfr, uG, vG, xG, yG, zG, aH, bH, bE, cE, dE, eE, gE, rfl⟩ h))
     ·refine E_cf oB rfl ?_
      refine E_exit ?_
      refine thn_e ?_
      refine thn_e ?_
      refine blk_hit ?_
      obtain rfl := sinj h
      exact hQ _ _ ⟨rC, (eC), hfr, uA, z4, xA, l5, q5⟩
    ·clear hx
     obtain ⟨rM, iC, hfr, cH, dH, gH, iH, mK⟩ := hR
     refine Zf (Za (Zo cH rfl ?_))
     refine Zo gH rfl ?_
     refine Zg z3 rfl rfl ?_
     refine Zg iC rfl rfl ?_
     refine Zg (.int .i64 (0)) rfl rfl ?_
     refine Zb (Zd (E_ret ?_))
     obtain rfl := sinj h
     exact end3 rfl rfl (show _ = z3 from rfl) (show _ = iC from rfl) (show _ = .int .i64 (0) from rfl) ⟨_, hfr, _, _, _, rfl, dH, iH, rfl⟩
theorem v32_0 {iO : Nat} {gI : Gh} {wI : World} {x0 : List LoomRun} {up0 : Value} (rp0 : RV gI.m wI x0 up0) {r : (List LoomRun)} (h : f32 x0 = some r) : FnG Try.prog 32 #[up0] gI wI (fun g w v => OM iO g w 76 (r) v) := by
 unfold f32 at h
 refine fnG_of_E Try.func32 rfl (Nat.le_of_ble_eq_true rfl) fun g0 hm hfr => ?_
 have rp0 : RV g0.m wI x0 up0 := hm ▸ rp0
 show E _ 6 none _ _ _ _ _
 refine Zf (Za (Zg (.slice none 0 0) rfl rfl ?_))
 refine Zb (Zd (Zf (Za (Ze .plain rfl (D_buildSlice (g := g0) 3003 (xs := ([] : List LoomRun)) (vs := []) Try.underlying31 Try.sizeOf76 Try.zeroValue76 rfl rfl .nil RVs.nil rfl rfl fun g1 w1 v1 hs o1 r1 hxt hfl => ?_)))))
 have hfr := hfr.stp hs
 have rp0 := rp0.stp hs
 refine Zn up0 rfl rfl ?_
 obtain ⟨y3, hy3, h⟩ := bsome h
 refine Ze .plain rfl (D_append (g := g1) (i := 3003) Try.underlying31 info_76 rfl rfl o1 r1 rfl rp0 hy3 fun g2 w2 v2 hs o2 r2 _ => ?_)
 have hfr := hfr.stp hs
 refine Zg v2 rfl rfl ?_
 refine Zb (Zd (E_ret ?_))
 obtain rfl := sinj h
 obtain ⟨gh, hxh, homh⟩ := OM.hand (i := iO) plain_LoomRun hfr o2 r2
 exact end1 rfl rfl (show _ = v2 from rfl) ⟨gh, hxh, homh⟩
def f14  : Option (Bool) :=
 (f46 ((0 : Int)) ((0 : Int)) ((0 : Int))).bind fun y2 =>
 (f46 ((1 : Int)) ((1 : Int)) ((0 : Int))).bind fun y4 =>
 (f46 ((2 : Int)) ((0 : Int)) ((10 : Int))).bind fun y6 =>
 (f47).bind fun y9 =>
 (f48 ((1 : Int)) ((8 : Int))).bind fun y11 =>
 (f17 y9 y11).bind fun n7 =>
 (f47).bind fun gE =>
 (f48 ((3 : Int)) ((9 : Int))).bind fun iE =>
 (f17 gE iE).bind fun c8 =>
 (f47).bind fun jE =>
 (f48 ((3 : Int)) ((9 : Int))).bind fun y23 =>
 (f23 jE y23).bind fun e7 =>
 (f47).bind fun kE =>
 (f48 ((3 : Int)) ((9 : Int))).bind fun lE =>
 (f24 kE lE).bind fun i7 =>
 (f48 ((1 : Int)) ((8 : Int))).bind fun cC =>
 (idx cC (0 : Int)).bind fun mE =>
 (f47).bind fun nE =>
 (f30 nE ((List.set cC (Int.toNat ((0 : Int))) ({ mE with Woven := (25 : Int) })))).bind fun z3 =>
 (f47).bind fun oE =>
 (f48 ((1 : Int)) ((8 : Int))).bind fun rE =>
 (cut rE (1 : Int) (2 : Int)).bind fun sE =>
 (f25 oE sE).bind fun j7 =>
 (f47).bind fun tE =>
 (f48 ((1 : Int)) ((8 : Int))).bind fun uE =>
 (f32 (([y2, y4, y6] : List LoomRun))).bind fun vE =>
 (f49 ((5 : Int)) ((6 : Int))).bind fun xE =>
 (f33 tE uE vE xE).bind fun m7 =>
 (f47).bind fun yE =>
 (f48 ((1 : Int)) ((8 : Int))).bind fun zE =>
 (f32 (([y2, y4, y6] : List LoomRun))).bind fun cF =>
 (f49 ((5 : Int)) ((6 : Int))).bind fun y70 =>
 (f34 yE zE cF y70).bind fun l5 =>
 (f47).bind fun y74 =>
 (f48 ((3 : Int)) ((8 : Int))).bind fun dF =>
 (f32 (([y2, y4, y6] : List LoomRun))).bind fun eF =>
 (f40 y74 dF eF).bind fun y80 =>
 jn (σ := Unit) (fun _ =>
  Option.bind (α := Bool) (
   (f22 (n7.1) (([y2, y4, y6] : List LoomRun))).bind fun y157 =>
   bif y157 then
    (f28 (e7.1) (([(0 : Int), (1 : Int), (2 : Int)] : List Int))).bind fun y161 =>
    bif y161 then
     (f28 (i7.1) (([(0 : Int)] : List Int))).bind fun y165 =>
     bif y165 then
      bif (decide (z3.1 = (⟨0, (20 : Int)⟩ : Span))) then
       bif (z3.2.1 == (45 : Int)) then
        (f28 (j7.1) (([(1 : Int)] : List Int))).bind fun n9 =>
        bif n9 then
         (f28 (m7.1) (([(0 : Int)] : List Int))).bind fun y177 =>
         bif y177 then
          (f46 ((0 : Int)) ((0 : Int)) ((7 : Int))).bind fun y180 =>
          (f46 ((1 : Int)) ((1 : Int)) ((0 : Int))).bind fun qA =>
          (f46 ((2 : Int)) ((0 : Int)) ((17 : Int))).bind fun rA =>
          (f22 (l5.1) (([y180, qA, rA] : List LoomRun))).bind fun o9 =>
          bif o9 then
           (f28 (l5.2.1) (([(2 : Int)] : List Int))).bind fun t9 =>
           bif t9 then
            some ((y80.1 == (2 : Int)))
           else
            none
          else
           none
         else
          none
        else
         none
       else
        none
      else
       none
     else
      none
    else
     none
   else
    none
   ) fun e8 =>
  some (e8)
  ) fun iF =>
 Option.bind (α := Bool) (
  bif (n7.2 != (0 : Int)) then
   none
  else
   bif (c8.2 != (9 : Int)) then
    none
   else
    bif (e7.2 != (0 : Int)) then
     none
    else
     bif (i7.2 != (0 : Int)) then
      none
     else
      bif (z3.2.2 != (0 : Int)) then
       none
      else
       bif (j7.2 != (0 : Int)) then
        none
       else
        bif (m7.2 != (0 : Int)) then
         none
        else
         bif (l5.2.2 != (0 : Int)) then
          none
         else
          some ((y80.2 != (6 : Int)))
  ) fun b7 =>
 bif b7 then
  some (false)
 else
  iF ()
theorem en14 : Enters Try.prog 14 := enters_of Try.func14 (by kernel_rfl) rfl
theorem wk14 {gI : Gh} {wI : World}   {r : Bool} (h : f14  = some r) : Fn Try.prog 14 #[] gI wI (fun _ _ v => v = .bool (r)) := by
 unfold f14 at h
 refine fn_of_E Try.func14 rfl (Nat.le_of_ble_eq_true rfl) fun g0 hm hfr => ?_
 show E _ 179 none _ _ _ _ _
 refine Zf (Za (Zg (.bool false) rfl rfl ?_))
 refine Zb (Zd (Zf (Za ?_)))
 obtain ⟨y2, hy2, h⟩ := bsome h
 refine Ze .plain rfl (Zp (g := g0) (vs := [.int .i64 (0), .int .i64 (0), .int .i64 (0)]) en46 (.cons rfl (.cons rfl (.cons rfl .nil))) (wk46  hy2) fun g1 w1_ v1 hs hr => ?_)
 have hfr := hfr.ext hs
 have r1 := hr
 obtain ⟨y4, qI, h⟩ := bsome h
 refine Ze .plain rfl (Zp (g := g1) (vs := [.int .i64 (1), .int .i64 (1), .int .i64 (0)]) en46 (.cons rfl (.cons rfl (.cons rfl .nil))) (wk46  qI) fun g3 w3_ v3 hs hr => ?_)
 have hfr := hfr.ext hs
 have r1 := r1.ext hs
 have r3 := hr
 obtain ⟨y6, rI, h⟩ := bsome h
 refine Ze .plain rfl (Zp (g := g3) (vs := [.int .i64 (2), .int .i64 (0), .int .i64 (10)]) en46 (.cons rfl (.cons rfl (.cons rfl .nil))) (wk46  rI) fun g5 w5_ v5 hs hr => ?_)
 have hfr := hfr.ext hs
 have r1 := r1.ext hs
 have r3 := r3.ext hs
 have r5 := hr
 refine Ze .plain rfl (D_buildSlice (g := g5) 3026 (xs := ([y2, y4, y6] : List LoomRun)) (vs := [v1, v3, v5]) Try.underlying31 Try.sizeOf76 Try.zeroValue76 rfl rfl (.cons rfl (.cons rfl (.cons rfl .nil))) (RVs.cons r1 (RVs.cons r3 (RVs.cons r5 RVs.nil))) rfl rfl fun g7 w7 v7 hs o7 r7 hxt hfl => ?_)
 have hfr := hfr.stp hs
 refine Zg v7 rfl rfl ?_
 refine Zb (Zd (Zf (Za ?_)))
 obtain ⟨y9, sI, h⟩ := bsome h
 refine Ze .plain rfl (Zp (g := g7) (vs := []) en47 .nil (wk47  sI) fun g8 w8_ v8 hs hr => ?_)
 have hfr := hfr.ext hs
 have r7 := r7.ext hs
 have o7 := o7.ext hs
 have r8 := hr
 obtain ⟨y11, pF, h⟩ := bsome h
 refine Ze .plain rfl (Zp (g := g8) (vs := [.int .i64 (1), .int .i64 (8)]) en48 (.cons rfl (.cons rfl .nil)) (wk48  pF) fun tI uM uI hs hr => ?_)
 have hfr := hfr.ext hs
 have r7 := r7.ext hs
 have o7 := o7.ext hs
 have r8 := r8.ext hs
 have vI := hr
 obtain ⟨n7, qF, h⟩ := bsome h
 refine Ze .plain rfl (Zp (g := tI) (vs := [v8, uI]) en17 (.cons rfl (.cons rfl .nil)) (wk17 r8 vI qF) fun xI vM aP hs hr => ?_)
 have hfr := hfr.ext hs
 have r7 := r7.ext hs
 have o7 := o7.ext hs
 obtain ⟨c7, rL, rfl, o0, rfl⟩ := hr
 refine Zn (.tuple #[c7, .int .i64 (n7.2)]) rfl rfl ?_
 refine EL_p c7 (Zi rfl rfl) rfl ?_
 refine EL_p (.int .i64 (n7.2)) (Zi rfl rfl) rfl ?_
 refine Zg c7 rfl rfl ?_
 refine Zg (.int .i64 (n7.2)) rfl rfl ?_
 refine Zb (Zd (Zf (Za ?_)))
 obtain ⟨gE, rF, h⟩ := bsome h
 refine Ze .plain rfl (Zp (g := xI) (vs := []) en47 .nil (wk47  rF) fun yI xM zI hs hr => ?_)
 have hfr := hfr.ext hs
 have r7 := r7.ext hs
 have o7 := o7.ext hs
 have o0 := o0.ext hs
 have dC := hr
 obtain ⟨iE, sF, h⟩ := bsome h
 refine Ze .plain rfl (Zp (g := yI) (vs := [.int .i64 (3), .int .i64 (9)]) en48 (.cons rfl (.cons rfl .nil)) (wk48  sF) fun aJ yM bJ hs hr => ?_)
 have hfr := hfr.ext hs
 have r7 := r7.ext hs
 have o7 := o7.ext hs
 have o0 := o0.ext hs
 have dC := dC.ext hs
 have cJ := hr
 obtain ⟨c8, tF, h⟩ := bsome h
 refine Ze .plain rfl (Zp (g := aJ) (vs := [zI, bJ]) en17 (.cons rfl (.cons rfl .nil)) (wk17 dC cJ tF) fun dJ zM bP hs hr => ?_)
 have hfr := hfr.ext hs
 have r7 := r7.ext hs
 have o7 := o7.ext hs
 have o0 := o0.ext hs
 obtain ⟨jA, tL, rfl, uL, rfl⟩ := hr
 refine Zn (.tuple #[jA, .int .i64 (c8.2)]) rfl rfl ?_
 refine EL_p jA (Zi rfl rfl) rfl ?_
 refine EL_p (.int .i64 (c8.2)) (Zi rfl rfl) rfl ?_
 refine Zg jA rfl rfl ?_
 refine Zg (.int .i64 (c8.2)) rfl rfl ?_
 refine Zb (Zd (Zf (Za ?_)))
 obtain ⟨jE, uF, h⟩ := bsome h
 refine Ze .plain rfl (Zp (g := dJ) (vs := []) en47 .nil (wk47  uF) fun eJ bN gJ hs hr => ?_)
 have hfr := hfr.ext hs
 have r7 := r7.ext hs
 have o7 := o7.ext hs
 have o0 := o0.ext hs
 have eC := hr
 obtain ⟨y23, vF, h⟩ := bsome h
 refine Ze .plain rfl (Zp (g := eJ) (vs := [.int .i64 (3), .int .i64 (9)]) en48 (.cons rfl (.cons rfl .nil)) (wk48  vF) fun iJ cN jJ hs hr => ?_)
 have hfr := hfr.ext hs
 have r7 := r7.ext hs
 have o7 := o7.ext hs
 have o0 := o0.ext hs
 have eC := eC.ext hs
 have kJ := hr
 obtain ⟨e7, xF, h⟩ := bsome h
 refine Ze .plain rfl (Zp (g := iJ) (vs := [gJ, jJ]) en23 (.cons rfl (.cons rfl .nil)) (wk23 eC kJ xF) fun lJ dN cP hs hr => ?_)
 have hfr := hfr.ext hs
 have r7 := r7.ext hs
 have o7 := o7.ext hs
 have o0 := o0.ext hs
 obtain ⟨q5, vL, rfl, u0, rfl⟩ := hr
 refine Zn (.tuple #[q5, .int .i64 (e7.2)]) rfl rfl ?_
 refine EL_p q5 (Zi rfl rfl) rfl ?_
 refine EL_p (.int .i64 (e7.2)) (Zi rfl rfl) rfl ?_
 refine Zg q5 rfl rfl ?_
 refine Zg (.int .i64 (e7.2)) rfl rfl ?_
 refine Zb (Zd (Zf (Za ?_)))
 obtain ⟨kE, yF, h⟩ := bsome h
 refine Ze .plain rfl (Zp (g := lJ) (vs := []) en47 .nil (wk47  yF) fun mJ eN nJ hs hr => ?_)
 have hfr := hfr.ext hs
 have r7 := r7.ext hs
 have o7 := o7.ext hs
 have o0 := o0.ext hs
 have u0 := u0.ext hs
 have iC := hr
 obtain ⟨lE, zF, h⟩ := bsome h
 refine Ze .plain rfl (Zp (g := mJ) (vs := [.int .i64 (3), .int .i64 (9)]) en48 (.cons rfl (.cons rfl .nil)) (wk48  zF) fun oJ gN pJ hs hr => ?_)
 have hfr := hfr.ext hs
 have r7 := r7.ext hs
 have o7 := o7.ext hs
 have o0 := o0.ext hs
 have u0 := u0.ext hs
 have iC := iC.ext hs
 have qJ := hr
 obtain ⟨i7, aG, h⟩ := bsome h
 refine Ze .plain rfl (Zp (g := oJ) (vs := [nJ, pJ]) en24 (.cons rfl (.cons rfl .nil)) (wk24 iC qJ aG) fun rJ iN dP hs hr => ?_)
 have hfr := hfr.ext hs
 have r7 := r7.ext hs
 have o7 := o7.ext hs
 have o0 := o0.ext hs
 have u0 := u0.ext hs
 obtain ⟨t5, xL, rfl, j1, rfl⟩ := hr
 refine Zn (.tuple #[t5, .int .i64 (i7.2)]) rfl rfl ?_
 refine EL_p t5 (Zi rfl rfl) rfl ?_
 refine EL_p (.int .i64 (i7.2)) (Zi rfl rfl) rfl ?_
 refine Zg t5 rfl rfl ?_
 refine Zg (.int .i64 (i7.2)) rfl rfl ?_
 refine Zb (Zd (Zf (Za ?_)))
 obtain ⟨cC, bG, h⟩ := bsome h
 refine Ze .plain rfl (D_callG (g := rJ) (vs := [.int .i64 (1), .int .i64 (8)]) en48 (.cons rfl (.cons rfl .nil)) (v48_0 (iO := 9051)  bG) fun sJ jN iA hs hr => ?_)
 have hfr := hfr.ext hs
 have r7 := r7.ext hs
 have o7 := o7.ext hs
 have o0 := o0.ext hs
 have u0 := u0.ext hs
 have j1 := j1.ext hs
 have hm32 := hr
 refine Zg iA rfl rfl ?_
 refine Zb (Zd (Zf (Za (Zn iA rfl rfl ?_))))
 obtain ⟨mE, sA, h⟩ := bsome h
 refine EL_p (ePtr iA (0 : Int) 5) (P_indexAddrM (α := LoomOrder) Try.underlying25 Try.sizeOf82 rfl hm32 rfl sA) rfl ?_
 obtain ⟨pb36, po36, pe36⟩ := OM.ptrE (k := 5) hm32 sA
 refine EL_p (fPtr (ePtr iA (0 : Int) 5) 2) (Zc at_82_2 rfl ⟨_, _, pe36⟩) rfl ?_
 refine Ze .plain rfl (D_storeMF (g := sJ) part_LoomOrder_2 Try.sizeOf3 rfl hm32 sA rfl (Zj.2 rfl) fun tJ eP hs b37 => ?_)
 have hfr := hfr.stp hs
 have r7 := r7.stp hs
 have o7 := o7.stp hs rfl
 have o0 := o0.stp hs
 have u0 := u0.stp hs
 have j1 := j1.stp hs
 refine Zb (Zd (Zf (Za ?_)))
 obtain ⟨nE, cG, h⟩ := bsome h
 refine Ze .plain rfl (Zp (g := tJ) (vs := []) en47 .nil (wk47  cG) fun gP kN uJ hs hr => ?_)
 have hfr := hfr.ext hs
 have r7 := r7.ext hs
 have o7 := o7.ext hs
 have o0 := o0.ext hs
 have u0 := u0.ext hs
 have j1 := j1.ext hs
 have b37 := b37.ext hs
 have jC := hr
 refine Zn iA rfl rfl ?_
 obtain ⟨gp40, hs, rp40⟩ := OM.pub b37
 have hfr := hfr.stp hs
 have r7 := r7.stp hs
 have o7 := o7.stp hs rfl
 have o0 := o0.stp hs
 have u0 := u0.stp hs
 have j1 := j1.stp hs
 have jC := jC.stp hs
 obtain ⟨z3, dG, h⟩ := bsome h
 refine Ze .plain rfl (Zp (g := gp40) (vs := [uJ, iA]) en30 (.cons rfl (.cons rfl .nil)) (wk30 jC rp40 dG) fun vJ lN iP hs hr => ?_)
 have hfr := hfr.ext hs
 have r7 := r7.ext hs
 have o7 := o7.ext hs
 have o0 := o0.ext hs
 have u0 := u0.ext hs
 have j1 := j1.ext hs
 obtain ⟨kA, yL, zL, rfl, lA, rfl, rfl⟩ := hr
 refine Zn (.tuple #[kA, .int .i64 (z3.2.1), .int .i64 (z3.2.2)]) rfl rfl ?_
 refine EL_p kA (Zi rfl rfl) rfl ?_
 refine EL_p (.int .i64 (z3.2.1)) (Zi rfl rfl) rfl ?_
 refine EL_p (.int .i64 (z3.2.2)) (Zi rfl rfl) rfl ?_
 refine Ze .plain rfl (D_allocOc (g := vJ) 2011 (⟨0, 0⟩ : Span) Try.zeroValue48 (fun m w => ⟨_, (rep_two rep_int rep_int), rfl⟩) fun xJ jP yA hs b43 cb => ?_)
 have hfr := hfr.stp hs
 have r7 := r7.stp hs
 have o7 := o7.stp hs rfl
 have o0 := o0.stp hs
 have u0 := u0.stp hs
 have j1 := j1.stp hs
 have lA := lA.stp hs
 clear cb
 refine Ze .plain rfl (D_storeOc (g := xJ) (v := kA) Try.sizeOf48 rfl b43 rfl lA fun yJ kP hs b44 cb => ?_)
 clear cb
 have hfr := hfr.stp hs
 have r7 := r7.stp hs
 have o7 := o7.stp hs rfl
 have o0 := o0.stp hs
 have u0 := u0.stp hs
 have j1 := j1.stp hs
 refine Zg (.int .i64 (z3.2.1)) rfl rfl ?_
 refine Zg (.int .i64 (z3.2.2)) rfl rfl ?_
 refine Zb (Zd (Zf (Za ?_)))
 obtain ⟨oE, eG, h⟩ := bsome h
 refine Ze .plain rfl (Zp (g := yJ) (vs := []) en47 .nil (wk47  eG) fun zJ mN aK hs hr => ?_)
 have hfr := hfr.ext hs
 have r7 := r7.ext hs
 have o7 := o7.ext hs
 have o0 := o0.ext hs
 have u0 := u0.ext hs
 have j1 := j1.ext hs
 have b44 := b44.ext hs
 have kC := hr
 obtain ⟨rE, gG, h⟩ := bsome h
 refine Ze .plain rfl (Zp (g := zJ) (vs := [.int .i64 (1), .int .i64 (8)]) en48 (.cons rfl (.cons rfl .nil)) (wk48  gG) fun bK nN nF hs hr => ?_)
 have hfr := hfr.ext hs
 have r7 := r7.ext hs
 have o7 := o7.ext hs
 have o0 := o0.ext hs
 have u0 := u0.ext hs
 have j1 := j1.ext hs
 have b44 := b44.ext hs
 have kC := kC.ext hs
 have oF := hr
 obtain ⟨sE, lC, h⟩ := bsome h
 have cK := RV_cut oF lC
 refine EL_p ((cutV nF (Int.toNat (1 : Int)) (Int.toNat (2 : Int)) 5)) (P_slice Try.underlying25 Try.sizeOf82 rfl oF rfl rfl lC) rfl ?_
 obtain ⟨j7, hG, h⟩ := bsome h
 refine Ze .plain rfl (Zp (g := bK) (vs := [aK, (cutV nF (Int.toNat (1 : Int)) (Int.toNat (2 : Int)) 5)]) en25 (.cons rfl (.cons rfl .nil)) (wk25 kC cK hG) fun dK oN lP hs hr => ?_)
 have hfr := hfr.ext hs
 have r7 := r7.ext hs
 have o7 := o7.ext hs
 have o0 := o0.ext hs
 have u0 := u0.ext hs
 have j1 := j1.ext hs
 have b44 := b44.ext hs
 obtain ⟨x5, aM, rfl, i3, rfl⟩ := hr
 refine Zn (.tuple #[x5, .int .i64 (j7.2)]) rfl rfl ?_
 refine EL_p x5 (Zi rfl rfl) rfl ?_
 refine EL_p (.int .i64 (j7.2)) (Zi rfl rfl) rfl ?_
 refine Zg x5 rfl rfl ?_
 refine Zg (.int .i64 (j7.2)) rfl rfl ?_
 refine Zb (Zd (Zf (Za ?_)))
 obtain ⟨tE, iG, h⟩ := bsome h
 refine Ze .plain rfl (Zp (g := dK) (vs := []) en47 .nil (wk47  iG) fun eK pN lK hs hr => ?_)
 have hfr := hfr.ext hs
 have r7 := r7.ext hs
 have o7 := o7.ext hs
 have o0 := o0.ext hs
 have u0 := u0.ext hs
 have j1 := j1.ext hs
 have b44 := b44.ext hs
 have i3 := i3.ext hs
 have u9 := hr
 obtain ⟨uE, jG, h⟩ := bsome h
 refine Ze .plain rfl (Zp (g := eK) (vs := [.int .i64 (1), .int .i64 (8)]) en48 (.cons rfl (.cons rfl .nil)) (wk48  jG) fun mK qN nK hs hr => ?_)
 have hfr := hfr.ext hs
 have r7 := r7.ext hs
 have o7 := o7.ext hs
 have o0 := o0.ext hs
 have u0 := u0.ext hs
 have j1 := j1.ext hs
 have b44 := b44.ext hs
 have i3 := i3.ext hs
 have u9 := u9.ext hs
 have nA := hr
 refine Zn v7 rfl rfl ?_
 obtain ⟨vE, kG, h⟩ := bsome h
 refine Ze .plain rfl (Zp (g := mK) (vs := [v7]) en32 (.cons rfl .nil) (wk32 r7 kG) fun oK rN pK hs hr => ?_)
 have hfr := hfr.ext hs
 have r7 := r7.ext hs
 have o7 := o7.ext hs
 have o0 := o0.ext hs
 have u0 := u0.ext hs
 have j1 := j1.ext hs
 have b44 := b44.ext hs
 have i3 := i3.ext hs
 have u9 := u9.ext hs
 have nA := nA.ext hs
 have mC := hr
 obtain ⟨xE, lG, h⟩ := bsome h
 refine Ze .plain rfl (Zp (g := oK) (vs := [.int .i64 (5), .int .i64 (6)]) en49 (.cons rfl (.cons rfl .nil)) (wk49  lG) fun qK sN sK hs hr => ?_)
 have hfr := hfr.ext hs
 have r7 := r7.ext hs
 have o7 := o7.ext hs
 have o0 := o0.ext hs
 have u0 := u0.ext hs
 have j1 := j1.ext hs
 have b44 := b44.ext hs
 have i3 := i3.ext hs
 have u9 := u9.ext hs
 have nA := nA.ext hs
 have mC := mC.ext hs
 have tK := hr
 obtain ⟨m7, mG, h⟩ := bsome h
 refine Ze .plain rfl (Zp (g := qK) (vs := [lK, nK, pK, sK]) en33 (.cons rfl (.cons rfl (.cons rfl (.cons rfl .nil)))) (wk33 u9 nA mC tK mG) fun uK tN mP hs hr => ?_)
 have hfr := hfr.ext hs
 have r7 := r7.ext hs
 have o7 := o7.ext hs
 have o0 := o0.ext hs
 have u0 := u0.ext hs
 have j1 := j1.ext hs
 have b44 := b44.ext hs
 have i3 := i3.ext hs
 obtain ⟨i6, bM, rfl, o3, rfl⟩ := hr
 refine Zn (.tuple #[i6, .int .i64 (m7.2)]) rfl rfl ?_
 refine EL_p i6 (Zi rfl rfl) rfl ?_
 refine EL_p (.int .i64 (m7.2)) (Zi rfl rfl) rfl ?_
 refine Zg i6 rfl rfl ?_
 refine Zg (.int .i64 (m7.2)) rfl rfl ?_
 refine Zb (Zd (Zf (Za ?_)))
 obtain ⟨yE, nG, h⟩ := bsome h
 refine Ze .plain rfl (Zp (g := uK) (vs := []) en47 .nil (wk47  nG) fun vK uN xK hs hr => ?_)
 have hfr := hfr.ext hs
 have r7 := r7.ext hs
 have o7 := o7.ext hs
 have o0 := o0.ext hs
 have u0 := u0.ext hs
 have j1 := j1.ext hs
 have b44 := b44.ext hs
 have i3 := i3.ext hs
 have o3 := o3.ext hs
 have z9 := hr
 obtain ⟨zE, oG, h⟩ := bsome h
 refine Ze .plain rfl (Zp (g := vK) (vs := [.int .i64 (1), .int .i64 (8)]) en48 (.cons rfl (.cons rfl .nil)) (wk48  oG) fun yK vN zK hs hr => ?_)
 have hfr := hfr.ext hs
 have r7 := r7.ext hs
 have o7 := o7.ext hs
 have o0 := o0.ext hs
 have u0 := u0.ext hs
 have j1 := j1.ext hs
 have b44 := b44.ext hs
 have i3 := i3.ext hs
 have o3 := o3.ext hs
 have z9 := z9.ext hs
 have oA := hr
 refine Zn v7 rfl rfl ?_
 obtain ⟨cF, pG, h⟩ := bsome h
 refine Ze .plain rfl (Zp (g := yK) (vs := [v7]) en32 (.cons rfl .nil) (wk32 r7 pG) fun aL xN bL hs hr => ?_)
 have hfr := hfr.ext hs
 have r7 := r7.ext hs
 have o7 := o7.ext hs
 have o0 := o0.ext hs
 have u0 := u0.ext hs
 have j1 := j1.ext hs
 have b44 := b44.ext hs
 have i3 := i3.ext hs
 have o3 := o3.ext hs
 have z9 := z9.ext hs
 have oA := oA.ext hs
 have qC := hr
 obtain ⟨y70, qG, h⟩ := bsome h
 refine Ze .plain rfl (Zp (g := aL) (vs := [.int .i64 (5), .int .i64 (6)]) en49 (.cons rfl (.cons rfl .nil)) (wk49  qG) fun cL yN dL hs hr => ?_)
 have hfr := hfr.ext hs
 have r7 := r7.ext hs
 have o7 := o7.ext hs
 have o0 := o0.ext hs
 have u0 := u0.ext hs
 have j1 := j1.ext hs
 have b44 := b44.ext hs
 have i3 := i3.ext hs
 have o3 := o3.ext hs
 have z9 := z9.ext hs
 have oA := oA.ext hs
 have qC := qC.ext hs
 have eL := hr
 obtain ⟨l5, rG, h⟩ := bsome h
 refine Ze .plain rfl (Zp (g := cL) (vs := [xK, zK, bL, dL]) en34 (.cons rfl (.cons rfl (.cons rfl (.cons rfl .nil)))) (wk34 z9 oA qC eL rG) fun gL zN nP hs hr => ?_)
 have hfr := hfr.ext hs
 have r7 := r7.ext hs
 have o7 := o7.ext hs
 have o0 := o0.ext hs
 have u0 := u0.ext hs
 have j1 := j1.ext hs
 have b44 := b44.ext hs
 have i3 := i3.ext hs
 have o3 := o3.ext hs
 obtain ⟨j6, v6, cM, rfl, x6, a7, rfl⟩ := hr
 refine Zn (.tuple #[j6, v6, .int .i64 (l5.2.2)]) rfl rfl ?_
 refine EL_p j6 (Zi rfl rfl) rfl ?_
 refine EL_p v6 (Zi rfl rfl) rfl ?_
 refine EL_p (.int .i64 (l5.2.2)) (Zi rfl rfl) rfl ?_
 refine Zg j6 rfl rfl ?_
 refine Zg v6 rfl rfl ?_
 refine Zg (.int .i64 (l5.2.2)) rfl rfl ?_
 refine Zb (Zd (Zf (Za ?_)))
 obtain ⟨y74, sG, h⟩ := bsome h
 refine Ze .plain rfl (Zp (g := gL) (vs := []) en47 .nil (wk47  sG) fun iL aO jL hs hr => ?_)
 have hfr := hfr.ext hs
 have r7 := r7.ext hs
 have o7 := o7.ext hs
 have o0 := o0.ext hs
 have u0 := u0.ext hs
 have j1 := j1.ext hs
 have b44 := b44.ext hs
 have i3 := i3.ext hs
 have o3 := o3.ext hs
 have x6 := x6.ext hs
 have a7 := a7.ext hs
 have pA := hr
 obtain ⟨dF, tG, h⟩ := bsome h
 refine Ze .plain rfl (Zp (g := iL) (vs := [.int .i64 (3), .int .i64 (8)]) en48 (.cons rfl (.cons rfl .nil)) (wk48  tG) fun kL bO lL hs hr => ?_)
 have hfr := hfr.ext hs
 have r7 := r7.ext hs
 have o7 := o7.ext hs
 have o0 := o0.ext hs
 have u0 := u0.ext hs
 have j1 := j1.ext hs
 have b44 := b44.ext hs
 have i3 := i3.ext hs
 have o3 := o3.ext hs
 have x6 := x6.ext hs
 have a7 := a7.ext hs
 have pA := pA.ext hs
 have rC := hr
 refine Zn v7 rfl rfl ?_
 obtain ⟨eF, uG, h⟩ := bsome h
 refine Ze .plain rfl (Zp (g := kL) (vs := [v7]) en32 (.cons rfl .nil) (wk32 r7 uG) fun mL cO nL hs hr => ?_)
 have hfr := hfr.ext hs
 have r7 := r7.ext hs
 have o7 := o7.ext hs
 have o0 := o0.ext hs
 have u0 := u0.ext hs
 have j1 := j1.ext hs
 have b44 := b44.ext hs
 have i3 := i3.ext hs
 have o3 := o3.ext hs
 have x6 := x6.ext hs
 have a7 := a7.ext hs
 have pA := pA.ext hs
 have rC := rC.ext hs
 have oL := hr
 obtain ⟨y80, vG, h⟩ := bsome h
 refine Ze .plain rfl (Zp (g := mL) (vs := [jL, lL, nL]) en40 (.cons rfl (.cons rfl (.cons rfl .nil))) (wk40 pA rC oL vG) fun pL dO oP hs hr => ?_)
 have hfr := hfr.ext hs
 have r7 := r7.ext hs
 have o7 := o7.ext hs
 have o0 := o0.ext hs
 have u0 := u0.ext hs
 have j1 := j1.ext hs
 have b44 := b44.ext hs
 have i3 := i3.ext hs
 have o3 := o3.ext hs
 have x6 := x6.ext hs
 have a7 := a7.ext hs
 obtain ⟨dM, eM, rfl, rfl, rfl⟩ := hr
 refine Zn (.tuple #[.int .i64 (y80.1), .int .i64 (y80.2)]) rfl rfl ?_
 refine EL_p (.int .i64 (y80.1)) (Zi rfl rfl) rfl ?_
 refine EL_p (.int .i64 (y80.2)) (Zi rfl rfl) rfl ?_
 refine Zg (.int .i64 (y80.1)) rfl rfl ?_
 refine Zg (.int .i64 (y80.2)) rfl rfl ?_
 refine Zb (Zd (Zq h (fun (s : Unit) e w => ∃ (g : Gh) , Fr gI wI g w ∧ e 1 = v7 ∧ RV g.m w (([y2, y4, y6] : List LoomRun) : List LoomRun) v7 ∧ OS 3026 g w 76 (([y2, y4, y6] : List LoomRun) : List LoomRun) v7 ∧ e 2 = c7 ∧ RV g.m w (n7.1 : List LoomRun) c7 ∧ e 6 = q5 ∧ RV g.m w (e7.1 : List Int) q5 ∧ e 8 = t5 ∧ RV g.m w (i7.1 : List Int) t5 ∧ e 11 = yA ∧ OB 2011 g w 48 (z3.1 : Span) yA ∧ e 12 = .int .i64 (z3.2.1) ∧ e 14 = x5 ∧ RV g.m w (j7.1 : List Int) x5 ∧ e 16 = i6 ∧ RV g.m w (m7.1 : List Int) i6 ∧ e 18 = j6 ∧ RV g.m w (l5.1 : List LoomRun) j6 ∧ e 19 = v6 ∧ RV g.m w (l5.2.1 : List Int) v6 ∧ e 21 = .int .i64 (y80.1)) (fun X99 iF xG h => ?_) ?_))
 ·obtain ⟨b7, hx, h⟩ := bsome h
  refine E_join (fun e w => ∃ (g : Gh) , Fr gI wI g w ∧ e 1 = v7 ∧ RV g.m w (([y2, y4, y6] : List LoomRun) : List LoomRun) v7 ∧ OS 3026 g w 76 (([y2, y4, y6] : List LoomRun) : List LoomRun) v7 ∧ e 2 = c7 ∧ RV g.m w (n7.1 : List LoomRun) c7 ∧ e 6 = q5 ∧ RV g.m w (e7.1 : List Int) q5 ∧ e 8 = t5 ∧ RV g.m w (i7.1 : List Int) t5 ∧ e 11 = yA ∧ OB 2011 g w 48 (z3.1 : Span) yA ∧ e 12 = .int .i64 (z3.2.1) ∧ e 14 = x5 ∧ RV g.m w (j7.1 : List Int) x5 ∧ e 16 = i6 ∧ RV g.m w (m7.1 : List Int) i6 ∧ e 18 = j6 ∧ RV g.m w (l5.1 : List LoomRun) j6 ∧ e 19 = v6 ∧ RV g.m w (l5.2.1 : List Int) v6 ∧ e 21 = .int .i64 (y80.1) ∧ e 129 = .bool (b7)) (fun Q' hQ => ?_) (fun gM eO hR => ?_)
  ·replace h := hx
   clear hx
   refine Za (Zn (.int .i64 (n7.2)) rfl rfl ?_)
   refine EL_in (.bool ((n7.2 != (0 : Int)))) rfl rfl rfl rfl ?_
   refine Zn (.bool ((n7.2 != (0 : Int)))) rfl rfl ?_
   rcases Zt h with ⟨q8, h⟩ | ⟨q8, h⟩
   ·cases h
   ·refine EL_y (.int .i64 (c8.2)) (Zk rfl) rfl rfl q8 rfl ?_
    refine EL_y (.bool ((c8.2 != (9 : Int)))) (P_int rfl rfl rfl) rfl rfl q8 rfl ?_
    refine EL_p (.bool ((c8.2 != (9 : Int)))) (Zl (b := (n7.2 != (0 : Int))) rfl (pick_f q8 rfl)) rfl ?_
    refine Zn (.bool ((c8.2 != (9 : Int)))) rfl rfl ?_
    rcases Zt h with ⟨t8, h⟩ | ⟨t8, h⟩
    ·cases h
    ·refine EL_y (.int .i64 (e7.2)) (Zk rfl) rfl rfl t8 rfl ?_
     refine EL_y (.bool ((e7.2 != (0 : Int)))) (P_int rfl rfl rfl) rfl rfl t8 rfl ?_
     refine EL_p (.bool ((e7.2 != (0 : Int)))) (Zl (b := (c8.2 != (9 : Int))) rfl (pick_f t8 rfl)) rfl ?_
     refine Zn (.bool ((e7.2 != (0 : Int)))) rfl rfl ?_
     rcases Zt h with ⟨x8, h⟩ | ⟨x8, h⟩
     ·cases h
     ·refine EL_y (.int .i64 (i7.2)) (Zk rfl) rfl rfl x8 rfl ?_
      refine EL_y (.bool ((i7.2 != (0 : Int)))) (P_int rfl rfl rfl) rfl rfl x8 rfl ?_
      refine EL_p (.bool ((i7.2 != (0 : Int)))) (Zl (b := (e7.2 != (0 : Int))) rfl (pick_f x8 rfl)) rfl ?_
      refine Zn (.bool ((i7.2 != (0 : Int)))) rfl rfl ?_
      rcases Zt h with ⟨y8, h⟩ | ⟨y8, h⟩
      ·cases h
      ·refine EL_y (.int .i64 (z3.2.2)) (Zk rfl) rfl rfl y8 rfl ?_
       refine EL_y (.bool ((z3.2.2 != (0 : Int)))) (P_int rfl rfl rfl) rfl rfl y8 rfl ?_
       refine EL_p (.bool ((z3.2.2 != (0 : Int)))) (Zl (b := (i7.2 != (0 : Int))) rfl (pick_f y8 rfl)) rfl ?_
       refine Zn (.bool ((z3.2.2 != (0 : Int)))) rfl rfl ?_
       rcases Zt h with ⟨a9, h⟩ | ⟨a9, h⟩
       ·cases h
       ·refine EL_y (.int .i64 (j7.2)) (Zk rfl) rfl rfl a9 rfl ?_
        refine EL_y (.bool ((j7.2 != (0 : Int)))) (P_int rfl rfl rfl) rfl rfl a9 rfl ?_
        refine EL_p (.bool ((j7.2 != (0 : Int)))) (Zl (b := (z3.2.2 != (0 : Int))) rfl (pick_f a9 rfl)) rfl ?_
        refine Zn (.bool ((j7.2 != (0 : Int)))) rfl rfl ?_
        rcases Zt h with ⟨d9, h⟩ | ⟨d9, h⟩
        ·cases h
        ·refine EL_y (.int .i64 (m7.2)) (Zk rfl) rfl rfl d9 rfl ?_
         refine EL_y (.bool ((m7.2 != (0 : Int)))) (P_int rfl rfl rfl) rfl rfl d9 rfl ?_
         refine EL_p (.bool ((m7.2 != (0 : Int)))) (Zl (b := (j7.2 != (0 : Int))) rfl (pick_f d9 rfl)) rfl ?_
         refine Zn (.bool ((m7.2 != (0 : Int)))) rfl rfl ?_
         rcases Zt h with ⟨e9, h⟩ | ⟨e9, h⟩
         ·cases h
         ·refine EL_y (.int .i64 (l5.2.2)) (Zk rfl) rfl rfl e9 rfl ?_
          refine EL_y (.bool ((l5.2.2 != (0 : Int)))) (P_int rfl rfl rfl) rfl rfl e9 rfl ?_
          refine EL_p (.bool ((l5.2.2 != (0 : Int)))) (Zl (b := (m7.2 != (0 : Int))) rfl (pick_f e9 rfl)) rfl ?_
          refine Zn (.bool ((l5.2.2 != (0 : Int)))) rfl rfl ?_
          rcases Zt h with ⟨i9, h⟩ | ⟨i9, h⟩
          ·cases h
          ·refine EL_y (.int .i64 (y80.2)) (Zk rfl) rfl rfl i9 rfl ?_
           refine EL_y (.bool ((y80.2 != (6 : Int)))) (P_int rfl rfl rfl) rfl rfl i9 rfl ?_
           refine EL_p (.bool ((y80.2 != (6 : Int)))) (Zl (b := (l5.2.2 != (0 : Int))) rfl (pick_f i9 rfl)) rfl ?_
           refine Zb ?_
           obtain rfl := sinj h
           exact hQ _ _ ⟨pL, hfr, rfl, r7, o7, rfl, o0, rfl, u0, rfl, j1, rfl, b44, rfl, rfl, i3, rfl, o3, rfl, x6, rfl, a7, rfl, rfl⟩
  ·clear hx
   obtain ⟨yG, hfr, tC, uC, vC, xC, yC, aD, bD, cD, eD, zA, aB, bB, cB, dB, eB, iB, jB, kB, lB, mB, nB, bA⟩ := hR
   rcases Zt h with ⟨mA, h⟩ | ⟨mA, h⟩
   ·refine E_cond_true (Eq.trans (show ev _ _ = .bool (b7) from bA) (congrArg Value.bool mA)) ?_
    refine Zf (Za (Zg (.bool false) rfl rfl ?_))
    refine Zb (Zd (E_ret (thn_r ?_)))
    obtain rfl := sinj h
    exact end1 rfl rfl (show _ = .bool false from rfl) ⟨_, hfr, rfl⟩
   ·refine E_cond_false (Eq.trans (show ev _ _ = .bool (b7) from bA) (congrArg Value.bool mA)) ?_
    exact Zu (Zd (xG () _ _ ⟨yG, hfr, tC, uC, vC, xC, yC, aD, bD, cD, eD, zA, aB, bB, cB, dB, eB, iB, jB, kB, lB, mB, nB⟩ h))
 ·rintro _ iM gO ⟨zG, hfr, gD, iD, qL, jD, kD, lD, u7, mD, i5, oB, z4, tB, vB, u3, xB, j3, yB, d3, zB, z2, aC⟩ h
  obtain ⟨e8, hx, h⟩ := bsome h
  refine E_join (fun e w => ∃ (g : Gh) , Fr gI wI g w ∧ e 0 = .bool (e8)) (fun Q' hQ => ?_) (fun jM jO hR => ?_)
  ·replace h := hx
   clear hx
   refine Za (Zo jD rfl ?_)
   refine Zo gD rfl ?_
   obtain ⟨y157, sD, h⟩ := bsome h
   refine Ze .plain rfl (Zp (g := zG) (vs := [c7, v7]) en22 (.cons rfl (.cons rfl .nil)) (wk22 kD iD sD) fun aH kM kO hs hr => ?_)
   have hfr := hfr.ext hs
   have u7 := u7.ext hs
   have i5 := i5.ext hs
   have z4 := z4.ext hs
   have u3 := u3.ext hs
   have j3 := j3.ext hs
   have d3 := d3.ext hs
   have z2 := z2.ext hs
   subst hr
   refine Zn (.bool (y157)) rfl rfl ?_
   rcases Zt h with ⟨i8, h⟩ | ⟨i8, h⟩
   ·refine EL_y q5 (Zk lD) rfl rfl i8 rfl ?_
    refine Ze (.yes2 rfl rfl i8) rfl (D_buildSlice (g := aH) 3135 (xs := ([(0 : Int), (1 : Int), (2 : Int)] : List Int)) (vs := [.int .i64 (0), .int .i64 (1), .int .i64 (2)]) Try.underlying22 Try.sizeOf3 Try.zeroValue3 rfl rfl (.cons rfl (.cons rfl (.cons rfl .nil))) (RVs.cons (Zj.2 rfl) (RVs.cons (Zj.2 rfl) (RVs.cons (Zj.2 rfl) RVs.nil))) rfl rfl fun bH lO cH hs o159 dH hxt hfl => ?_)
    have hfr := hfr.stp hs
    have u7 := u7.stp hs
    have i5 := i5.stp hs
    have z4 := z4.stp hs rfl
    have u3 := u3.stp hs
    have j3 := j3.stp hs
    have d3 := d3.stp hs
    have z2 := z2.stp hs
    obtain ⟨y161, tD, h⟩ := bsome h
    refine Ze (.yes2 rfl rfl i8) rfl (Zp (g := bH) (vs := [q5, cH]) en28 (.cons rfl (.cons rfl .nil)) (wk28 u7 dH tD) fun gH mM mO hs hr => ?_)
    have hfr := hfr.ext hs
    have i5 := i5.ext hs
    have z4 := z4.ext hs
    have u3 := u3.ext hs
    have j3 := j3.ext hs
    have d3 := d3.ext hs
    have z2 := z2.ext hs
    subst hr
    refine EL_p (.bool (y161)) (Zl (b := y157) rfl (pick_t i8 rfl)) rfl ?_
    refine Zn (.bool (y161)) rfl rfl ?_
    rcases Zt h with ⟨k8, h⟩ | ⟨k8, h⟩
    ·refine EL_y t5 (Zk mD) rfl rfl k8 rfl ?_
     refine Ze (.yes2 rfl rfl k8) rfl (D_buildSlice (g := gH) 3140 (xs := ([(0 : Int)] : List Int)) (vs := [.int .i64 (0)]) Try.underlying22 Try.sizeOf3 Try.zeroValue3 rfl rfl (.cons rfl .nil) (RVs.cons (Zj.2 rfl) RVs.nil) rfl rfl fun iH nO jH hs o163 kH hxt hfl => ?_)
     have hfr := hfr.stp hs
     have i5 := i5.stp hs
     have z4 := z4.stp hs rfl
     have u3 := u3.stp hs
     have j3 := j3.stp hs
     have d3 := d3.stp hs
     have z2 := z2.stp hs
     obtain ⟨y165, uD, h⟩ := bsome h
     refine Ze (.yes2 rfl rfl k8) rfl (Zp (g := iH) (vs := [t5, jH]) en28 (.cons rfl (.cons rfl .nil)) (wk28 i5 kH uD) fun uA vD oO hs hr => ?_)
     have hfr := hfr.ext hs
     have z4 := z4.ext hs
     have u3 := u3.ext hs
     have j3 := j3.ext hs
     have d3 := d3.ext hs
     have z2 := z2.ext hs
     subst hr
     refine EL_p (.bool (y165)) (Zl (b := y161) rfl (pick_t k8 rfl)) rfl ?_
     refine Zn (.bool (y165)) rfl rfl ?_
     rcases Zt h with ⟨l8, h⟩ | ⟨l8, h⟩
     ·refine Ze (.yes2 rfl rfl l8) rfl (D_loadO (g := uA) Try.isAgg48 Try.sizeOf48 oB z4 fun pO lH => ?_)
      have nD : RV uA.m vD (⟨0, (20 : Int)⟩ : Span) (.agg (setCh [[.int .i64 0], [.int .i64 0]] [(1, .int .i64 (20))]).flatten.toArray) := RV_build rfl (rep_pair (rep_int) (rep_last (rfl)))
      generalize xD : (Value.agg (setCh [[.int .i64 0], [.int .i64 0]] [(1, .int .i64 (20))]).flatten.toArray) = mH at nD
      refine EL_y mH (xD ▸ P_build (vs := [(1, .int .i64 (20))]) [[.int .i64 0], [.int .i64 0]] lay_48 rfl rfl (.cons rfl .nil) ⟨⟨_, rfl, rfl⟩, trivial⟩) rfl rfl l8 rfl ?_
      refine EL_y (.bool ((decide (z3.1 = (⟨0, (20 : Int)⟩ : Span))))) (P_seq seq_48 rfl eg_48 rfl rfl lH nD) rfl rfl l8 rfl ?_
      refine EL_p (.bool ((decide (z3.1 = (⟨0, (20 : Int)⟩ : Span))))) (Zl (b := y165) rfl (pick_t l8 rfl)) rfl ?_
      refine Zn (.bool ((decide (z3.1 = (⟨0, (20 : Int)⟩ : Span))))) rfl rfl ?_
      rcases Zt h with ⟨k9, h⟩ | ⟨k9, h⟩
      ·refine EL_y (.int .i64 (z3.2.1)) (Zk tB) rfl rfl k9 rfl ?_
       refine EL_y (.bool ((z3.2.1 == (45 : Int)))) (P_int rfl rfl rfl) rfl rfl k9 rfl ?_
       refine EL_p (.bool ((z3.2.1 == (45 : Int)))) (Zl (b := (decide (z3.1 = (⟨0, (20 : Int)⟩ : Span)))) rfl (pick_t k9 rfl)) rfl ?_
       refine Zn (.bool ((z3.2.1 == (45 : Int)))) rfl rfl ?_
       rcases Zt h with ⟨m8, h⟩ | ⟨m8, h⟩
       ·refine EL_y x5 (Zk vB) rfl rfl m8 rfl ?_
        refine Ze (.yes2 rfl rfl m8) rfl (D_buildSlice (g := uA) 3154 (xs := ([(1 : Int)] : List Int)) (vs := [.int .i64 (1)]) Try.underlying22 Try.sizeOf3 Try.zeroValue3 rfl rfl (.cons rfl .nil) (RVs.cons (Zj.2 rfl) RVs.nil) rfl rfl fun nH qO oH hs o171 pH hxt hfl => ?_)
        have hfr := hfr.stp hs
        have u3 := u3.stp hs
        have j3 := j3.stp hs
        have d3 := d3.stp hs
        have z2 := z2.stp hs
        obtain ⟨n9, yD, h⟩ := bsome h
        refine Ze (.yes2 rfl rfl m8) rfl (Zp (g := nH) (vs := [x5, oH]) en28 (.cons rfl (.cons rfl .nil)) (wk28 u3 pH yD) fun qH nM rO hs hr => ?_)
        have hfr := hfr.ext hs
        have j3 := j3.ext hs
        have d3 := d3.ext hs
        have z2 := z2.ext hs
        subst hr
        refine EL_p (.bool (n9)) (Zl (b := (z3.2.1 == (45 : Int))) rfl (pick_t m8 rfl)) rfl ?_
        refine Zn (.bool (n9)) rfl rfl ?_
        rcases Zt h with ⟨n8, h⟩ | ⟨n8, h⟩
        ·refine EL_y i6 (Zk xB) rfl rfl n8 rfl ?_
         refine Ze (.yes2 rfl rfl n8) rfl (D_buildSlice (g := qH) 3159 (xs := ([(0 : Int)] : List Int)) (vs := [.int .i64 (0)]) Try.underlying22 Try.sizeOf3 Try.zeroValue3 rfl rfl (.cons rfl .nil) (RVs.cons (Zj.2 rfl) RVs.nil) rfl rfl fun sH sO tH hs o175 uH hxt hfl => ?_)
         have hfr := hfr.stp hs
         have j3 := j3.stp hs
         have d3 := d3.stp hs
         have z2 := z2.stp hs
         obtain ⟨y177, zD, h⟩ := bsome h
         refine Ze (.yes2 rfl rfl n8) rfl (Zp (g := sH) (vs := [i6, tH]) en28 (.cons rfl (.cons rfl .nil)) (wk28 j3 uH zD) fun vH oM tO hs hr => ?_)
         have hfr := hfr.ext hs
         have d3 := d3.ext hs
         have z2 := z2.ext hs
         subst hr
         refine EL_p (.bool (y177)) (Zl (b := n9) rfl (pick_t n8 rfl)) rfl ?_
         refine Zn (.bool (y177)) rfl rfl ?_
         rcases Zt h with ⟨d7, h⟩ | ⟨d7, h⟩
         ·refine EL_y j6 (Zk yB) rfl rfl d7 rfl ?_
          obtain ⟨y180, aE, h⟩ := bsome h
          refine Ze (.yes2 rfl rfl d7) rfl (Zp (g := vH) (vs := [.int .i64 (0), .int .i64 (0), .int .i64 (7)]) en46 (.cons rfl (.cons rfl (.cons rfl .nil))) (wk46  aE) fun xH pM yH hs hr => ?_)
          have hfr := hfr.ext hs
          have d3 := d3.ext hs
          have z2 := z2.ext hs
          have gA := hr
          obtain ⟨qA, bE, h⟩ := bsome h
          refine Ze (.yes2 rfl rfl d7) rfl (Zp (g := xH) (vs := [.int .i64 (1), .int .i64 (1), .int .i64 (0)]) en46 (.cons rfl (.cons rfl (.cons rfl .nil))) (wk46  bE) fun zH qM aI hs hr => ?_)
          have hfr := hfr.ext hs
          have d3 := d3.ext hs
          have z2 := z2.ext hs
          have gA := gA.ext hs
          have xA := hr
          obtain ⟨rA, cE, h⟩ := bsome h
          refine Ze (.yes2 rfl rfl d7) rfl (Zp (g := zH) (vs := [.int .i64 (2), .int .i64 (0), .int .i64 (17)]) en46 (.cons rfl (.cons rfl (.cons rfl .nil))) (wk46  cE) fun bI rM cI hs hr => ?_)
          have hfr := hfr.ext hs
          have d3 := d3.ext hs
          have z2 := z2.ext hs
          have gA := gA.ext hs
          have xA := xA.ext hs
          have dI := hr
          refine Ze (.yes2 rfl rfl d7) rfl (D_buildSlice (g := bI) 3167 (xs := ([y180, qA, rA] : List LoomRun)) (vs := [yH, aI, cI]) Try.underlying31 Try.sizeOf76 Try.zeroValue76 rfl rfl (.cons rfl (.cons rfl (.cons rfl .nil))) (RVs.cons gA (RVs.cons xA (RVs.cons dI RVs.nil))) rfl rfl fun iI uO jI hs o185 kI hxt hfl => ?_)
          have hfr := hfr.stp hs
          have d3 := d3.stp hs
          have z2 := z2.stp hs
          obtain ⟨o9, dE, h⟩ := bsome h
          refine Ze (.yes2 rfl rfl d7) rfl (Zp (g := iI) (vs := [j6, jI]) en22 (.cons rfl (.cons rfl .nil)) (wk22 d3 kI dE) fun lI sM vO hs hr => ?_)
          have hfr := hfr.ext hs
          have z2 := z2.ext hs
          subst hr
          refine EL_p (.bool (o9)) (Zl (b := y177) rfl (pick_t d7 rfl)) rfl ?_
          refine Zn (.bool (o9)) rfl rfl ?_
          rcases Zt h with ⟨o8, h⟩ | ⟨o8, h⟩
          ·refine EL_y v6 (Zk zB) rfl rfl o8 rfl ?_
           refine Ze (.yes2 rfl rfl o8) rfl (D_buildSlice (g := lI) 3172 (xs := ([(2 : Int)] : List Int)) (vs := [.int .i64 (2)]) Try.underlying22 Try.sizeOf3 Try.zeroValue3 rfl rfl (.cons rfl .nil) (RVs.cons (Zj.2 rfl) RVs.nil) rfl rfl fun mI xO nI hs o189 oI hxt hfl => ?_)
           have hfr := hfr.stp hs
           have z2 := z2.stp hs
           obtain ⟨t9, eE, h⟩ := bsome h
           refine Ze (.yes2 rfl rfl o8) rfl (Zp (g := mI) (vs := [v6, nI]) en28 (.cons rfl (.cons rfl .nil)) (wk28 z2 oI eE) fun pI tM yO hs hr => ?_)
           have hfr := hfr.ext hs
           subst hr
           refine EL_p (.bool (t9)) (Zl (b := o9) rfl (pick_t o8 rfl)) rfl ?_
           refine Zn (.bool (t9)) rfl rfl ?_
           rcases Zt h with ⟨l9, h⟩ | ⟨l9, h⟩
           ·refine EL_y (.int .i64 (y80.1)) (Zk aC) rfl rfl l9 rfl ?_
            refine EL_y (.bool ((y80.1 == (2 : Int)))) (P_int rfl rfl rfl) rfl rfl l9 rfl ?_
            refine EL_p (.bool ((y80.1 == (2 : Int)))) (Zl (b := t9) rfl (pick_t l9 rfl)) rfl ?_
            refine Zg (.bool ((y80.1 == (2 : Int)))) rfl rfl ?_
            refine Zb ?_
            obtain rfl := sinj h
            exact hQ _ _ ⟨pI, hfr, rfl⟩
           ·cases h
          ·cases h
         ·cases h
        ·cases h
       ·cases h
      ·cases h
     ·cases h
    ·cases h
   ·cases h
  ·clear hx
   obtain ⟨zO, hfr, oD⟩ := hR
   refine E_ret ?_
   obtain rfl := sinj h
   exact end1 rfl rfl (show _ = .bool (e8) from oD) ⟨_, hfr, rfl⟩
def f3 (x0 : LoomMill) (x1 : List LoomOrder) : Option (Bool) :=
 jn (σ := Unit) (fun _ =>
  (f15 x0).bind fun v8 =>
  (f16 x1).bind fun y44 =>
  (f17 v8 y44).bind fun j1 =>
  jn (σ := Unit) (fun _ =>
   (f20 x0 x1).bind fun d7 =>
   jn (σ := Int) (fun j3 =>
    Option.bind (α := Bool) (
     bif (j1.2 == j3) then
      bif (((j1.1).length : Int) == (0 : Int)) then
       (f14).bind fun g7 =>
       some (g7)
      else
       some (false)
     else
      some (false)
     ) fun x5 =>
    some (x5)
    ) fun i8 =>
   bif (d7 == (0 : Int)) then
    (f21 big x0 x1 ([])).bind fun y125 =>
    jn (σ := Unit) (fun _ =>
     i8 ((9 : Int))
     ) fun x8 =>
    bif y125.2 then
     Option.bind (α := Bool) (
      bif (j1.2 == (0 : Int)) then
       (f22 (j1.1) (y125.1)).bind fun x6 =>
       bif x6 then
        (f14).bind fun i7 =>
        some (i7)
       else
        some (false)
      else
       some (false)
      ) fun i6 =>
     some (i6)
    else
     x8 ()
   else
    i8 (d7)
   ) fun bB =>
  Option.bind (α := Bool) (
   (f18 v8 x0).bind fun e7 =>
   bif (!e7) then
    some (true)
   else
    (f19 y44 x1).bind fun y80 =>
    some ((!y80))
   ) fun z4 =>
  bif z4 then
   some (false)
  else
   bB ()
  ) fun cB =>
 Option.bind (α := Bool) (
  (f12 x0 x1 ((4 : Int))).bind fun u7 =>
  bif u7 then
   some (true)
  else
   (f13 x0 x1).bind fun y8 =>
   some (y8)
  ) fun i5 =>
 bif i5 then
  (f14).bind fun o8 =>
  some (o8)
 else
  cB ()
end Go.Proofs.Ytnfjhdagbknlbaa
