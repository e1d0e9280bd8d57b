import Derived.Test.YtkmbkaoolacofaaGreatCode1
set_option maxRecDepth 8000
set_option maxHeartbeats 4000000
namespace Go.Proofs.YtkmbkaoolacofaaGreat
open Go.RowKit
def f71 (x0 : List Int) : Option (Int × Int) :=
 Option.bind (α := Int × Int) (
  lp (σ := Int × Int × Int) (fun u9 (y6, u3, o0) =>
   bif (decide (o0 < ((x0).length : Int))) then
    Option.bind (α := Int × Int) (
     (idx x0 o0).bind fun g8 =>
     bif (g8 != (0 : Int)) then
      some (o0, (w64 (u3 + (1 : Int))))
     else
      some (y6, u3)
     ) fun (i6, j6) =>
    u9 (i6, j6, (w64 (o0 + (1 : Int))))
   else
    some (y6, u3)
   ) big ((0 : Int), (0 : Int), (0 : Int))
  ) fun (l5, t5) =>
 some (l5, t5)
theorem en71 : Enters Tryz.prog 71 := enters_of Tryz.func71 (by kernel_rfl) rfl
theorem wk71 {gI : Gh} {wI : World} {x0 : List Int} {up0 : Value} (rp0 : RV gI.m wI x0 up0) {r : Int × Int} (h : f71 x0 = some r) : Fn Tryz.prog 71 #[up0] gI wI (fun m w v => ∃ y0 y1, v = .tuple #[y0, y1] ∧ y0 = .int .i64 (r.1) ∧ y1 = .int .i64 (r.2)) := by
 unfold f71 at h
 refine fn_of_E Tryz.func71 rfl (Nat.le_of_ble_eq_true rfl) fun g0 hm hfr => ?_
 have rp0 : RV g0.m wI x0 up0 := hm ▸ rp0
 show E _ 21 none _ _ _ _ _
 refine E_seq (E_region (EL_at (.int .i64 (0)) rfl rfl ?_))
 refine EL_at (.int .i64 (0)) rfl rfl ?_
 refine EL_nil (thn_n ?_)
 obtain ⟨⟨l5, t5⟩, hx, h⟩ := bsome h
 refine E_join (fun e w => ∃ (g : Gh) , Fr gI wI g w ∧ e 2 = .int .i64 (l5) ∧ e 3 = .int .i64 (t5)) (fun Q' hQ => ?_) (fun rA dB hR => ?_)
 ·replace h := hx
  clear hx
  refine E_seq (E_region (EL_mw up0 rfl rfl ?_))
  refine EL_p (.int .i64 ((x0).length : Int)) (P_len Tryz.underlying23 rfl rp0) rfl ?_
  refine EL_mw (.int .i64 (0)) rfl rfl ?_
  refine EL_nil (thn_n (E_block ?_))
  refine E_lp h (fun (s : Int × Int × Int) e w => ∃ (g : Gh) , Fr gI wI g w ∧ e 2 = .int .i64 (s.1) ∧ e 3 = .int .i64 (s.2.1) ∧ e 6 = up0 ∧ RV g.m w (x0 : List Int) up0 ∧ e 7 = .int .i64 (((x0).length : Int)) ∧ e 8 = .int .i64 (s.2.2)) ⟨g0, hfr, rfl, rfl, rfl, rp0, rfl, rfl⟩ (fun X13 u9 y9 => ?_)
  rintro ⟨y6, u3, o0⟩ yA iB ⟨m8, hfr, n8, d7, i7, x6, m7, x5⟩ h
  refine E_seq (E_region (EL_in (.bool ((decide (o0 < ((x0).length : Int))))) x5 m7 rfl rfl ?_))
  refine EL_nil (thn_n (E_seq ?_))
  rcases csome h with ⟨k8, h⟩ | ⟨k8, h⟩
  ·refine E_ct k8 rfl ?_
   refine E_skip (thn_n ?_)
   obtain ⟨⟨i6, j6⟩, hx, h⟩ := bsome h
   refine E_join (fun e w => ∃ (g : Gh) , Fr gI wI g w ∧ e 2 = .int .i64 (i6) ∧ e 3 = .int .i64 (j6) ∧ e 6 = up0 ∧ RV g.m w (x0 : List Int) up0 ∧ e 7 = .int .i64 (((x0).length : Int)) ∧ e 8 = .int .i64 (o0)) (fun Q' hQ => ?_) (fun aB jB hR => ?_)
   ·replace h := hx
    clear hx
    refine E_block ?_
    refine E_seq (E_region (EL_mv x5 rfl ?_))
    obtain ⟨g8, hy20, h⟩ := bsome h
    refine EL_p (ePtr up0 o0 1) (P_indexAddr (α := Int) Tryz.underlying23 Tryz.sizeOf3 i7 x6 x5 hy20) rfl ?_
    have z9 := PT_idx x6 hy20
    refine EL_do .plain rfl (D_load (g := m8) Tryz.isAgg3 Tryz.sizeOf3 rfl z9 fun lB bA => ?_)
    obtain rfl := RV_int.1 bA
    refine EL_at (.int .i64 (o0)) rfl rfl ?_
    refine EL_at (.int .i64 (g8)) rfl rfl ?_
    refine EL_nil (thn_n (E_seq (E_region (EL_mw (.int .i64 (g8)) rfl rfl ?_))))
    refine EL_in (.bool ((g8 != (0 : Int)))) rfl rfl rfl rfl ?_
    refine EL_nil (thn_n ?_)
    rcases csome h with ⟨l8, h⟩ | ⟨l8, h⟩
    ·refine E_ct l8 rfl ?_
     refine E_seq (E_region (EL_mw (.int .i64 (o0)) rfl rfl ?_))
     refine EL_at (.int .i64 (o0)) rfl rfl ?_
     refine EL_nil (thn_n (E_region (EL_mv d7 rfl ?_)))
     refine EL_in (.int .i64 ((w64 (u3 + (1 : Int))))) rfl rfl rfl rfl ?_
     refine EL_at (.int .i64 ((w64 (u3 + (1 : Int))))) rfl rfl ?_
     refine EL_nil (blk_n ?_)
     obtain ⟨rfl, rfl⟩ := pairs2 h
     exact hQ _ _ ⟨m8, hfr, rfl, rfl, i7, x6, m7, x5⟩
    ·refine E_cf l8 rfl ?_
     refine E_skip (blk_n ?_)
     obtain ⟨rfl, rfl⟩ := pairs2 h
     exact hQ _ _ ⟨m8, hfr, n8, d7, i7, x6, m7, x5⟩
   ·clear hx
    obtain ⟨iA, hfr, r8, v8, x8, a9, d9, k9⟩ := hR
    refine E_region (EL_in (.int .i64 ((w64 (o0 + (1 : Int))))) k9 rfl rfl rfl ?_)
    refine EL_mw (.int .i64 ((w64 (o0 + (1 : Int))))) rfl rfl ?_
    exact EL_nil (thn_n (y9 (i6, j6, (w64 (o0 + (1 : Int)))) _ _ ⟨iA, hfr, r8, v8, x8, a9, d9, rfl⟩ h))
  ·refine E_cf k8 rfl ?_
   refine E_exit ?_
   refine thn_e ?_
   refine thn_e ?_
   refine blk_hit ?_
   obtain ⟨rfl, rfl⟩ := pairs2 h
   exact hQ _ _ ⟨m8, hfr, n8, d7⟩
 ·clear hx
  obtain ⟨mB, hfr, l9, n9⟩ := hR
  refine E_seq (E_region (EL_mv l9 rfl ?_))
  refine EL_mv n9 rfl ?_
  refine EL_at (.int .i64 (l5)) rfl rfl ?_
  refine EL_at (.int .i64 (t5)) rfl rfl ?_
  refine EL_nil (thn_n (E_ret ?_))
  obtain rfl := sinj h
  exact end2 rfl rfl (show _ = .int .i64 (l5) from rfl) (show _ = .int .i64 (t5) from rfl) ⟨_, hfr, _, _, rfl, rfl, rfl⟩
def f73 (x0 : PayTable) : Option ((List PayEntry)) :=
 Option.bind (α := (List PayEntry)) (
  lp (σ := (List PayEntry) × Int) (fun iO (bA, o0) =>
   jn (σ := Unit) (fun _ =>
    Option.bind (α := (List PayEntry)) (
     lp (σ := (List PayEntry) × Int) (fun jO (g8, t5) =>
      jn (σ := Unit) (fun _ =>
       Option.bind (α := (List PayEntry)) (
        (idx ((x0).Across) o0).bind fun xD =>
        (idx ((x0).Rows) o0).bind fun kO =>
        (idx kO t5).bind fun yD =>
        Option.bind (α := Int) (
         lp (σ := Int × Int) (fun lO (k9, l8) =>
          jn (σ := Unit) (fun _ =>
           Option.bind (α := Int) (
            (idx ((x0).Rows) o0).bind fun mO =>
            (idx mO l8).bind fun nG =>
            some ((w64 (k9 - nG)))
            ) fun oB =>
           lO (oB, (w64 (l8 + (1 : Int))))
           ) fun nO =>
          (idx ((x0).Rows) o0).bind fun oG =>
          bif (decide (l8 < ((oG).length : Int))) then
           nO ()
          else
           some (k9)
          ) big ((w64 (xD + yD)), (0 : Int))
         ) fun a9 =>
        (apnd 32 g8 (([(⟨(1 : Int), o0, t5, a9⟩ : PayEntry)] : List PayEntry))).bind fun oO =>
        some (oO)
        ) fun iA =>
       jO (iA, (w64 (t5 + (1 : Int))))
       ) fun pO =>
      (idx ((x0).Rows) o0).bind fun sG =>
      bif (decide (t5 < ((sG).length : Int))) then
       pO ()
      else
       some (g8)
      ) big (bA, (0 : Int))
     ) fun rA =>
    iO (rA, (w64 (o0 + (1 : Int))))
    ) fun qO =>
   bif (decide (o0 < (((x0).Rows).length : Int))) then
    qO ()
   else
    some (bA)
   ) big (([] : List PayEntry), (0 : Int))
  ) fun tB =>
 Option.bind (α := (List PayEntry) × Int) (
  lp (σ := (List PayEntry) × Int × Int) (fun jJ (y6, k8, u3) =>
   jn (σ := Unit) (fun _ =>
    Option.bind (α := (List PayEntry) × Int) (
     Option.bind (α := Int) (
      lp (σ := Int × Int) (fun kJ (r8, i7) =>
       jn (σ := Unit) (fun _ =>
        Option.bind (α := Int) (
         (idx ((x0).Rows) u3).bind fun lJ =>
         (idx lJ i7).bind fun lD =>
         some ((w64 (r8 + lD)))
         ) fun y9 =>
        kJ (y9, (w64 (i7 + (1 : Int))))
        ) fun mJ =>
       (idx ((x0).Rows) u3).bind fun mD =>
       bif (decide (i7 < ((mD).length : Int))) then
        mJ ()
       else
        some (r8)
       ) big ((0 : Int), (0 : Int))
      ) fun m8 =>
     (idx ((x0).Across) u3).bind fun nD =>
     (apnd 32 y6 (([(⟨(2 : Int), u3, 0, m8⟩ : PayEntry)] : List PayEntry))).bind fun nJ =>
     some (nJ, (w64 (k8 + nD)))
     ) fun (l9, dB) =>
    jJ (l9, dB, (w64 (u3 + (1 : Int))))
    ) fun oJ =>
   bif (decide (u3 < (((x0).Rows).length : Int))) then
    oJ ()
   else
    some (y6, k8)
   ) big (tB, (0 : Int), (0 : Int))
  ) fun (iB, x5) =>
 Option.bind (α := (List PayEntry)) (
  lp (σ := (List PayEntry) × Int) (fun pJ (d7, l5) =>
   jn (σ := Unit) (fun _ =>
    Option.bind (α := (List PayEntry)) (
     Option.bind (α := Int) (
      lp (σ := Int × Int) (fun qJ (v8, m7) =>
       jn (σ := Unit) (fun _ =>
        Option.bind (α := Int) (
         (idx ((x0).Rows) m7).bind fun rJ =>
         (idx rJ l5).bind fun oD =>
         some ((w64 (v8 + oD)))
         ) fun z9 =>
        qJ (z9, (w64 (m7 + (1 : Int))))
        ) fun sJ =>
       bif (decide (m7 < (((x0).Rows).length : Int))) then
        sJ ()
       else
        some (v8)
       ) big ((0 : Int), (0 : Int))
      ) fun n8 =>
     (apnd 32 d7 (([(⟨(3 : Int), 0, l5, n8⟩ : PayEntry)] : List PayEntry))).bind fun vJ =>
     some (vJ)
     ) fun n9 =>
    pJ (n9, (w64 (l5 + (1 : Int))))
    ) fun xJ =>
   bif (decide (l5 < (((x0).Down).length : Int))) then
    xJ ()
   else
    some (d7)
   ) big (iB, (0 : Int))
  ) fun jB =>
 (apnd 32 jB (([(⟨(4 : Int), 0, 0, x5⟩ : PayEntry)] : List PayEntry))).bind fun yJ =>
 some (yJ)
theorem en73 : Enters Tryz.prog 73 := enters_of Tryz.func73 (by kernel_rfl) rfl
theorem wk73 {gI : Gh} {wI : World} {x0 : PayTable} {up0 : Value} (rp0 : RV gI.m wI x0 up0) {r : (List PayEntry)} (h : f73 x0 = some r) : Fn Tryz.prog 73 #[up0] gI wI (fun m w v => RV m w (r) v) := by
 unfold f73 at h
 refine fn_of_E Tryz.func73 rfl (Nat.le_of_ble_eq_true rfl) fun g0 hm hfr => ?_
 have rp0 : RV g0.m wI x0 up0 := hm ▸ rp0
 show E _ 149 none _ _ _ _ _
 refine E_seq (E_region (EL_do .plain rfl (D_box (g := g0) rfl rp0 fun g1 w1 p1 hs q1 => ?_)))
 have hfr := hfr.ext hs
 refine EL_at (.slice none 0 0) rfl rfl ?_
 refine EL_nil (thn_n (E_seq (E_region (EL_do .plain rfl (D_buildSlice (g := g1) 3015 (xs := ([] : List PayEntry)) (vs := []) Tryz.underlying110 Tryz.sizeOf100 Tryz.zeroValue100 rfl rfl .nil RVs.nil rfl rfl fun g2 w2 v2 hs o2 r2 hxt hfl => ?_)))))
 have hfr := hfr.stp hs
 have q1 := q1.stp hs
 refine EL_at v2 rfl rfl ?_
 refine EL_at (.int .i64 (0)) rfl rfl ?_
 refine EL_nil (thn_n ?_)
 obtain ⟨tB, hx, h⟩ := bsome h
 refine E_join (fun e w => ∃ (g : Gh) (v3 : Value), Fr gI wI g w ∧ e 1 = p1 ∧ PT g.m w (x0 : PayTable) p1 ∧ e 3 = v3 ∧ RV g.m w (tB : List PayEntry) v3 ∧ OS 3015 g w 100 (tB : List PayEntry) v3 ∧ e 4 = .int .i64 ((0 : Int))) (fun Q' hQ => ?_) (fun vX b00 hR => ?_)
 ·replace h := hx
  clear hx
  refine E_seq (E_region (EL_at (.int .i64 (0)) rfl rfl ?_))
  refine EL_nil (thn_n (E_block ?_))
  refine E_lp h (fun (s : (List PayEntry) × Int) e w => ∃ (g : Gh) (v3 : Value), Fr gI wI g w ∧ e 1 = p1 ∧ PT g.m w (x0 : PayTable) p1 ∧ e 3 = v3 ∧ RV g.m w (s.1 : List PayEntry) v3 ∧ OS 3015 g w 100 (s.1 : List PayEntry) v3 ∧ e 4 = .int .i64 ((0 : Int)) ∧ e 5 = .int .i64 (s.2)) ⟨g2, (v2), hfr, rfl, q1, rfl, r2, o2, rfl, rfl⟩ (fun X469 iO mS => ?_)
  rintro ⟨bA, o0⟩ xX c00 ⟨uI, yA, hfr, zD, vB, gH, iH, jH, kH, lH⟩ h
  refine E_joinC h (fun (s : Unit) e w => ∃ (g : Gh) , Fr gI wI g w ∧ e 1 = p1 ∧ PT g.m w (x0 : PayTable) p1 ∧ e 3 = yA ∧ RV g.m w (bA : List PayEntry) yA ∧ OS 3015 g w 100 (bA : List PayEntry) yA ∧ e 4 = .int .i64 ((0 : Int)) ∧ e 5 = .int .i64 (o0)) (fun X474 qO nS h => ?_) ?_
  ·refine E_seq (E_region (EL_mv lH rfl ?_))
   refine EL_p (fPtr p1 0) (P_fieldAddr at_58_0 zD (PT.ptr vB)) rfl ?_
   have oV := PT_field (part_PayTable_0).1 vB
   refine EL_do .plain rfl (D_load (g := uI) Tryz.isAgg56 Tryz.sizeOf56 rfl oV fun d00 pV => ?_)
   refine EL_p (.int .i64 (((x0).Rows).length : Int)) (P_len Tryz.underlying56 rfl pV) rfl ?_
   refine EL_p (.bool ((decide (o0 < (((x0).Rows).length : Int))))) (P_int rfl rfl rfl) rfl ?_
   refine EL_nil (thn_n ?_)
   rcases csome h with ⟨tG, h⟩ | ⟨tG, h⟩
   ·refine E_ct tG rfl ?_
    exact E_skip (thn_n (nS () _ _ ⟨uI, hfr, zD, vB, gH, iH, jH, kH, lH⟩ h))
   ·refine E_cf tG rfl ?_
    refine E_exit ?_
    refine thn_e ?_
    refine thn_e ?_
    refine blk_hit ?_
    obtain rfl := sinj h
    exact hQ _ _ ⟨uI, (yA), hfr, zD, vB, gH, iH, jH, kH⟩
  ·rintro _ yX g00 ⟨qV, hfr, rO, sO, tO, uO, vO, xO, yO⟩ h
   obtain ⟨rA, hx, h⟩ := bsome h
   refine E_join (fun e w => ∃ (g : Gh) (v3 : Value), Fr gI wI g w ∧ e 1 = p1 ∧ PT g.m w (x0 : PayTable) p1 ∧ e 3 = v3 ∧ RV g.m w (rA : List PayEntry) v3 ∧ OS 3015 g w 100 (rA : List PayEntry) v3 ∧ e 4 = .int .i64 ((0 : Int)) ∧ e 5 = .int .i64 (o0)) (fun Q' hQ => ?_) (fun zX h00 hR => ?_)
   ·replace h := hx
    clear hx
    refine E_block ?_
    refine E_seq (E_region (EL_at (.int .i64 (0)) rfl rfl ?_))
    refine EL_nil (thn_n (E_block ?_))
    refine E_lp h (fun (s : (List PayEntry) × Int) e w => ∃ (g : Gh) (v3 : Value), Fr gI wI g w ∧ e 1 = p1 ∧ PT g.m w (x0 : PayTable) p1 ∧ e 3 = v3 ∧ RV g.m w (s.1 : List PayEntry) v3 ∧ OS 3015 g w 100 (s.1 : List PayEntry) v3 ∧ e 4 = .int .i64 ((0 : Int)) ∧ e 5 = .int .i64 (o0) ∧ e 6 = .int .i64 (s.2)) ⟨qV, (yA), hfr, rO, sO, tO, uO, vO, xO, yO, rfl⟩ (fun X706 jO oS => ?_)
    rintro ⟨g8, t5⟩ aY i00 ⟨uG, x6, hfr, aE, yB, mH, nH, oH, pH, bE, qH⟩ h
    refine E_joinC h (fun (s : Unit) e w => ∃ (g : Gh) , Fr gI wI g w ∧ e 1 = p1 ∧ PT g.m w (x0 : PayTable) p1 ∧ e 3 = x6 ∧ RV g.m w (g8 : List PayEntry) x6 ∧ OS 3015 g w 100 (g8 : List PayEntry) x6 ∧ e 4 = .int .i64 ((0 : Int)) ∧ e 5 = .int .i64 (o0) ∧ e 6 = .int .i64 (t5)) (fun X714 pO pS h => ?_) ?_
    ·refine E_seq (E_region (EL_mv qH rfl ?_))
     refine EL_p (fPtr p1 0) (P_fieldAddr at_58_0 aE (PT.ptr yB)) rfl ?_
     have rV := PT_field (part_PayTable_0).1 yB
     refine EL_do .plain rfl (D_load (g := uG) Tryz.isAgg56 Tryz.sizeOf56 rfl rV fun sV zO => ?_)
     refine EL_mv bE rfl ?_
     obtain ⟨sG, zJ, h⟩ := bsome h
     refine EL_p (ePtr sV o0 1) (P_indexAddr (α := List Int) Tryz.underlying56 Tryz.sizeOf23 rfl zO rfl zJ) rfl ?_
     have tV := PT_idx zO zJ
     refine EL_do .plain rfl (D_load (g := uG) Tryz.isAgg23 Tryz.sizeOf23 rfl tV fun j00 uV => ?_)
     refine EL_p (.int .i64 ((sG).length : Int)) (P_len Tryz.underlying23 rfl uV) rfl ?_
     refine EL_in (.bool ((decide (t5 < ((sG).length : Int))))) rfl rfl rfl rfl ?_
     refine EL_nil (thn_n ?_)
     rcases csome h with ⟨vG, h⟩ | ⟨vG, h⟩
     ·refine E_ct vG rfl ?_
      exact E_skip (thn_n (pS () _ _ ⟨uG, hfr, aE, yB, mH, nH, oH, pH, bE, qH⟩ h))
     ·refine E_cf vG rfl ?_
      refine E_exit ?_
      refine thn_e ?_
      refine thn_e ?_
      refine blk_hit ?_
      refine blk_n ?_
      obtain rfl := sinj h
      exact hQ _ _ ⟨uG, (x6), hfr, aE, yB, mH, nH, oH, pH, bE⟩
    ·rintro _ bY k00 ⟨vV, hfr, cE, d9, aP, dE, eE, bP, iE, sH⟩ h
     obtain ⟨iA, hx, h⟩ := bsome h
     refine E_join (fun e w => ∃ (g : Gh) (v3 : Value), Fr gI wI g w ∧ e 1 = p1 ∧ PT g.m w (x0 : PayTable) p1 ∧ e 3 = v3 ∧ RV g.m w (iA : List PayEntry) v3 ∧ OS 3015 g w 100 (iA : List PayEntry) v3 ∧ e 4 = .int .i64 ((0 : Int)) ∧ e 5 = .int .i64 (o0) ∧ e 6 = .int .i64 (t5)) (fun Q' hQ => ?_) (fun cY l00 hR => ?_)
     ·replace h := hx
      clear hx
      refine E_block ?_
      refine E_seq ?_
      have xV := PT_field (part_PayTable_1).1 d9
      refine L_load (x := .tmp 33) Tryz.isAgg23 Tryz.sizeOf23 xV fun cP dP qS => ?_
      obtain ⟨xD, aK, h⟩ := bsome h
      have yV := PT_idx dP aK
      refine L_load (x := .tmp 36) Tryz.isAgg3 Tryz.sizeOf3 yV fun m00 zV rS => ?_
      obtain rfl := RV_int.1 zV
      have aW := PT_field (part_PayTable_0).1 d9
      refine L_load (x := .tmp 38) Tryz.isAgg56 Tryz.sizeOf56 aW fun eP gP sS => ?_
      obtain ⟨kO, bK, h⟩ := bsome h
      have bW := PT_idx gP bK
      refine L_load (x := .tmp 41) Tryz.isAgg23 Tryz.sizeOf23 bW fun iP jP tS => ?_
      obtain ⟨yD, cK, h⟩ := bsome h
      have cW := PT_idx jP cK
      refine L_load (x := .tmp 44) Tryz.isAgg3 Tryz.sizeOf3 cW fun n00 dW uS => ?_
      obtain rfl := RV_int.1 dW
      refine E_drawL (g := vV) (n := 15) [] [0, 1, 2, 3, 4, 5, 6, 7, 8, 9, 10, 11, 12, 13, 14] rfl mixed (by kernel_rfl) trivial ?_
      refine L_p (fPtr p1 1) rfl rfl (P_fieldAddr at_58_1 cE (PT.ptr d9)) ?_
      refine L_ld (c := cP) rfl rfl .plain (fun _ _ h => h.ch) qS rfl ?_
      refine L_p (.int .i64 (o0)) rfl rfl (P_move iE) ?_
      refine L_p (ePtr cP o0 1) rfl rfl (P_indexAddr (α := Int) Tryz.underlying23 Tryz.sizeOf3 rfl dP rfl aK) ?_
      refine L_ld (c := .int .i64 (xD)) rfl rfl .plain (fun _ _ h => h.ch) rS rfl ?_
      refine L_p (fPtr p1 0) rfl rfl (P_fieldAddr at_58_0 cE (PT.ptr d9)) ?_
      refine L_ld (c := eP) rfl rfl .plain (fun _ _ h => h.ch) sS rfl ?_
      refine L_p (.int .i64 (o0)) rfl rfl (P_move iE) ?_
      refine L_p (ePtr eP o0 1) rfl rfl (P_indexAddr (α := List Int) Tryz.underlying56 Tryz.sizeOf23 rfl gP rfl bK) ?_
      refine L_ld (c := iP) rfl rfl .plain (fun _ _ h => h.ch) tS rfl ?_
      refine L_p (.int .i64 (t5)) rfl rfl (P_move sH) ?_
      refine L_p (ePtr iP t5 1) rfl rfl (P_indexAddr (α := Int) Tryz.underlying23 Tryz.sizeOf3 rfl jP rfl cK) ?_
      refine L_ld (c := .int .i64 (yD)) rfl rfl .plain (fun _ _ h => h.ch) uS rfl ?_
      refine L_p (.int .i64 ((w64 (xD + yD)))) rfl rfl (P_int rfl rfl rfl) ?_
      refine L_p (.int .i64 ((w64 (xD + yD)))) rfl rfl (P_assign rfl) ?_
      refine L_nl fun eW o00 hs => ?_
      have hfr := hfr.ext hs
      have d9 := d9.ext hs
      have dE := dE.ext hs
      have eE := eE.ext hs
      clear hs
      refine EL_nil (thn_n ?_)
      obtain ⟨a9, hx, h⟩ := bsome h
      refine E_join (fun e w => ∃ (g : Gh) , Fr gI wI g w ∧ e 1 = p1 ∧ PT g.m w (x0 : PayTable) p1 ∧ e 3 = x6 ∧ RV g.m w (g8 : List PayEntry) x6 ∧ OS 3015 g w 100 (g8 : List PayEntry) x6 ∧ e 4 = .int .i64 ((0 : Int)) ∧ e 5 = .int .i64 (o0) ∧ e 6 = .int .i64 (t5) ∧ e 7 = .int .i64 (a9)) (fun Q' hQ => ?_) (fun dY gW hR => ?_)
      ·replace h := hx
       clear hx
       refine E_seq (E_region (EL_at (.int .i64 (0)) rfl rfl ?_))
       refine EL_nil (thn_n (E_block ?_))
       refine E_lp h (fun (s : Int × Int) e w => ∃ (g : Gh) , Fr gI wI g w ∧ e 1 = p1 ∧ PT g.m w (x0 : PayTable) p1 ∧ e 3 = x6 ∧ RV g.m w (g8 : List PayEntry) x6 ∧ OS 3015 g w 100 (g8 : List PayEntry) x6 ∧ e 4 = .int .i64 ((0 : Int)) ∧ e 5 = .int .i64 (o0) ∧ e 6 = .int .i64 (t5) ∧ e 7 = .int .i64 (s.1) ∧ e 8 = .int .i64 (s.2)) ⟨eW, hfr, cE, d9, aP, dE, eE, bP, iE, sH, rfl, rfl⟩ (fun X894 lO vS => ?_)
       rintro ⟨k9, l8⟩ eY p00 ⟨xG, hfr, jE, zB, tH, uH, xH, yH, kE, zH, aI, bI⟩ h
       refine E_joinC h (fun (s : Unit) e w => ∃ (g : Gh) , Fr gI wI g w ∧ e 1 = p1 ∧ PT g.m w (x0 : PayTable) p1 ∧ e 3 = x6 ∧ RV g.m w (g8 : List PayEntry) x6 ∧ OS 3015 g w 100 (g8 : List PayEntry) x6 ∧ e 4 = .int .i64 ((0 : Int)) ∧ e 5 = .int .i64 (o0) ∧ e 6 = .int .i64 (t5) ∧ e 7 = .int .i64 (k9) ∧ e 8 = .int .i64 (l8)) (fun X902 nO xS h => ?_) ?_
       ·refine E_seq (E_region (EL_mv bI rfl ?_))
        refine EL_p (fPtr p1 0) (P_fieldAddr at_58_0 jE (PT.ptr zB)) rfl ?_
        have iW := PT_field (part_PayTable_0).1 zB
        refine EL_do .plain rfl (D_load (g := xG) Tryz.isAgg56 Tryz.sizeOf56 rfl iW fun jW kP => ?_)
        refine EL_mv kE rfl ?_
        obtain ⟨oG, dK, h⟩ := bsome h
        refine EL_p (ePtr jW o0 1) (P_indexAddr (α := List Int) Tryz.underlying56 Tryz.sizeOf23 rfl kP rfl dK) rfl ?_
        have kW := PT_idx kP dK
        refine EL_do .plain rfl (D_load (g := xG) Tryz.isAgg23 Tryz.sizeOf23 rfl kW fun q00 lW => ?_)
        refine EL_p (.int .i64 ((oG).length : Int)) (P_len Tryz.underlying23 rfl lW) rfl ?_
        refine EL_in (.bool ((decide (l8 < ((oG).length : Int))))) rfl rfl rfl rfl ?_
        refine EL_nil (thn_n ?_)
        rcases csome h with ⟨yG, h⟩ | ⟨yG, h⟩
        ·refine E_ct yG rfl ?_
         exact E_skip (thn_n (xS () _ _ ⟨xG, hfr, jE, zB, tH, uH, xH, yH, kE, zH, aI, bI⟩ h))
        ·refine E_cf yG rfl ?_
         refine E_exit ?_
         refine thn_e ?_
         refine thn_e ?_
         refine blk_hit ?_
         obtain rfl := sinj h
         exact hQ _ _ ⟨xG, hfr, jE, zB, tH, uH, xH, yH, kE, zH, aI⟩
       ·rintro _ gY r00 ⟨zG, hfr, dI, lE, lP, mP, nP, oP, iI, pP, sP, jI⟩ h
        obtain ⟨oB, hx, h⟩ := bsome h
        refine E_join (fun e w => ∃ (g : Gh) , Fr gI wI g w ∧ e 1 = p1 ∧ PT g.m w (x0 : PayTable) p1 ∧ e 3 = x6 ∧ RV g.m w (g8 : List PayEntry) x6 ∧ OS 3015 g w 100 (g8 : List PayEntry) x6 ∧ e 4 = .int .i64 ((0 : Int)) ∧ e 5 = .int .i64 (o0) ∧ e 6 = .int .i64 (t5) ∧ e 7 = .int .i64 (oB) ∧ e 8 = .int .i64 (l8)) (fun Q' hQ => ?_) (fun iY s00 hR => ?_)
        ·replace h := hx
         clear hx
         refine E_block ?_
         refine E_region (EL_mv sP rfl ?_)
         refine EL_p (fPtr p1 0) (P_fieldAddr at_58_0 dI (PT.ptr lE)) rfl ?_
         have mW := PT_field (part_PayTable_0).1 lE
         refine EL_do .plain rfl (D_load (g := zG) Tryz.isAgg56 Tryz.sizeOf56 rfl mW fun nW tP => ?_)
         refine EL_mv iI rfl ?_
         obtain ⟨mO, lK, h⟩ := bsome h
         refine EL_p (ePtr nW o0 1) (P_indexAddr (α := List Int) Tryz.underlying56 Tryz.sizeOf23 rfl tP rfl lK) rfl ?_
         have oW := PT_idx tP lK
         refine EL_do .plain rfl (D_load (g := zG) Tryz.isAgg23 Tryz.sizeOf23 rfl oW fun pW uP => ?_)
         refine EL_mv jI rfl ?_
         obtain ⟨nG, mK, h⟩ := bsome h
         refine EL_p (ePtr pW l8 1) (P_indexAddr (α := Int) Tryz.underlying23 Tryz.sizeOf3 rfl uP rfl mK) rfl ?_
         have qW := PT_idx uP mK
         refine EL_do .plain rfl (D_load (g := zG) Tryz.isAgg3 Tryz.sizeOf3 rfl qW fun t00 sW => ?_)
         obtain rfl := RV_int.1 sW
         refine EL_in (.int .i64 ((w64 (k9 - nG)))) rfl rfl rfl rfl ?_
         refine EL_at (.int .i64 ((w64 (k9 - nG)))) rfl rfl ?_
         refine EL_nil (blk_n ?_)
         obtain rfl := sinj h
         exact hQ _ _ ⟨zG, hfr, dI, lE, lP, mP, nP, oP, iI, pP, rfl, jI⟩
        ·clear hx
         obtain ⟨tW, hfr, vP, xP, yP, zP, bQ, cQ, dQ, eQ, gQ, iQ⟩ := hR
         refine E_region (EL_mv iQ rfl ?_)
         refine EL_in (.int .i64 ((w64 (l8 + (1 : Int))))) rfl rfl rfl rfl ?_
         refine EL_at (.int .i64 ((w64 (l8 + (1 : Int))))) rfl rfl ?_
         exact EL_nil (thn_n (vS (oB, (w64 (l8 + (1 : Int)))) _ _ ⟨tW, hfr, vP, xP, yP, zP, bQ, cQ, dQ, eQ, gQ, rfl⟩ h))
      ·clear hx
       obtain ⟨jQ, hfr, kQ, aB, lQ, mE, nE, mQ, kI, lI, nQ⟩ := hR
       refine E_region (EL_mv lQ rfl ?_)
       refine EL_mv kI rfl ?_
       refine EL_mv lI rfl ?_
       refine EL_mv nQ rfl ?_
       have oQ : RV jQ.m gW (⟨(1 : Int), o0, t5, a9⟩ : PayEntry) (.agg (setCh [[.int .i64 0], [.int .i64 0], [.int .i64 0], [.int .i64 0]] [(0, .int .i64 (1)), (1, .int .i64 (o0)), (2, .int .i64 (t5)), (3, .int .i64 (a9))]).flatten.toArray) := RV_build rfl (rep_pair (rfl) (rep_pair (rfl) (rep_pair (rfl) (rep_last (rfl)))))
       generalize yS : (Value.agg (setCh [[.int .i64 0], [.int .i64 0], [.int .i64 0], [.int .i64 0]] [(0, .int .i64 (1)), (1, .int .i64 (o0)), (2, .int .i64 (t5)), (3, .int .i64 (a9))]).flatten.toArray) = pQ at oQ
       refine EL_p pQ (yS ▸ P_build (vs := [(0, .int .i64 (1)), (1, .int .i64 (o0)), (2, .int .i64 (t5)), (3, .int .i64 (a9))]) [[.int .i64 0], [.int .i64 0], [.int .i64 0], [.int .i64 0]] lay_100 rfl rfl (.cons rfl (.cons rfl (.cons rfl (.cons rfl .nil)))) ⟨⟨_, rfl, rfl⟩, ⟨⟨_, rfl, rfl⟩, ⟨⟨_, rfl, rfl⟩, ⟨⟨_, rfl, rfl⟩, trivial⟩⟩⟩⟩) rfl ?_
       refine EL_do .plain rfl (D_buildSlice (g := jQ) 3072 (xs := ([(⟨(1 : Int), o0, t5, a9⟩ : PayEntry)] : List PayEntry)) (vs := [pQ]) Tryz.underlying110 Tryz.sizeOf100 Tryz.zeroValue100 rfl rfl (.cons rfl .nil) (RVs.cons oQ RVs.nil) rfl rfl fun uW u00 v00 hs o929 vW hxt hfl => ?_)
       have hfr := hfr.stp hs
       have aB := aB.stp hs
       have mE := mE.stp hs
       have nE := nE.stp hs rfl
       obtain ⟨oO, zS, h⟩ := bsome h
       refine EL_do .plain rfl (D_append (g := uW) (i := 3015) Tryz.underlying110 info_100 rfl rfl nE mE rfl vW zS fun xW x00 qQ hs o930 yW _ => ?_)
       have hfr := hfr.stp hs
       have aB := aB.stp hs
       refine EL_at qQ rfl rfl ?_
       refine EL_nil (blk_n ?_)
       obtain rfl := sinj h
       exact hQ _ _ ⟨xW, (qQ), hfr, kQ, aB, rfl, yW, o930, mQ, kI, lI⟩
     ·clear hx
      obtain ⟨zW, rQ, hfr, sQ, tQ, uQ, vQ, xQ, yQ, zQ, aR⟩ := hR
      refine E_region (EL_mv aR rfl ?_)
      refine EL_in (.int .i64 ((w64 (t5 + (1 : Int))))) rfl rfl rfl rfl ?_
      refine EL_at (.int .i64 ((w64 (t5 + (1 : Int))))) rfl rfl ?_
      exact EL_nil (thn_n (oS (iA, (w64 (t5 + (1 : Int)))) _ _ ⟨zW, (rQ), hfr, sQ, tQ, uQ, vQ, xQ, yQ, zQ, rfl⟩ h))
   ·clear hx
    obtain ⟨aX, bR, hfr, cR, dR, eR, gR, iR, jR, lR⟩ := hR
    refine E_region (EL_mv lR rfl ?_)
    refine EL_in (.int .i64 ((w64 (o0 + (1 : Int))))) rfl rfl rfl rfl ?_
    refine EL_at (.int .i64 ((w64 (o0 + (1 : Int))))) rfl rfl ?_
    exact EL_nil (thn_n (mS (rA, (w64 (o0 + (1 : Int)))) _ _ ⟨aX, (bR), hfr, cR, dR, eR, gR, iR, jR, rfl⟩ h))
 ·clear hx
  obtain ⟨bX, mR, hfr, nR, oR, pR, qR, rR, tR⟩ := hR
  obtain ⟨⟨iB, x5⟩, hx, h⟩ := bsome h
  refine E_join (fun e w => ∃ (g : Gh) (v3 : Value), Fr gI wI g w ∧ e 1 = p1 ∧ PT g.m w (x0 : PayTable) p1 ∧ e 3 = v3 ∧ RV g.m w (iB : List PayEntry) v3 ∧ OS 3015 g w 100 (iB : List PayEntry) v3 ∧ e 4 = .int .i64 (x5)) (fun Q' hQ => ?_) (fun dX jY hR => ?_)
  ·replace h := hx
   clear hx
   refine E_seq (E_region (EL_at (.int .i64 (0)) rfl rfl ?_))
   refine EL_nil (thn_n (E_block ?_))
   refine E_lp h (fun (s : (List PayEntry) × Int × Int) e w => ∃ (g : Gh) (v3 : Value), Fr gI wI g w ∧ e 1 = p1 ∧ PT g.m w (x0 : PayTable) p1 ∧ e 3 = v3 ∧ RV g.m w (s.1 : List PayEntry) v3 ∧ OS 3015 g w 100 (s.1 : List PayEntry) v3 ∧ e 4 = .int .i64 (s.2.1) ∧ e 9 = .int .i64 (s.2.2)) ⟨bX, (mR), hfr, nR, oR, pR, qR, rR, tR, rfl⟩ (fun X1098 jJ uR => ?_)
   rintro ⟨y6, k8, u3⟩ eX kY ⟨aH, i6, hfr, cC, lB, oF, pF, qF, rF, sF⟩ h
   refine E_joinC h (fun (s : Unit) e w => ∃ (g : Gh) , Fr gI wI g w ∧ e 1 = p1 ∧ PT g.m w (x0 : PayTable) p1 ∧ e 3 = i6 ∧ RV g.m w (y6 : List PayEntry) i6 ∧ OS 3015 g w 100 (y6 : List PayEntry) i6 ∧ e 4 = .int .i64 (k8) ∧ e 9 = .int .i64 (u3)) (fun X1103 oJ vR h => ?_) ?_
   ·refine E_seq (E_region (EL_mv sF rfl ?_))
    refine EL_p (fPtr p1 0) (P_fieldAddr at_58_0 cC (PT.ptr lB)) rfl ?_
    have eT := PT_field (part_PayTable_0).1 lB
    refine EL_do .plain rfl (D_load (g := aH) Tryz.isAgg56 Tryz.sizeOf56 rfl eT fun mY lT => ?_)
    refine EL_p (.int .i64 (((x0).Rows).length : Int)) (P_len Tryz.underlying56 rfl lT) rfl ?_
    refine EL_p (.bool ((decide (u3 < (((x0).Rows).length : Int))))) (P_int rfl rfl rfl) rfl ?_
    refine EL_nil (thn_n ?_)
    rcases csome h with ⟨oE, h⟩ | ⟨oE, h⟩
    ·refine E_ct oE rfl ?_
     exact E_skip (thn_n (vR () _ _ ⟨aH, hfr, cC, lB, oF, pF, qF, rF, sF⟩ h))
    ·refine E_cf oE rfl ?_
     refine E_exit ?_
     refine thn_e ?_
     refine thn_e ?_
     refine blk_hit ?_
     obtain ⟨rfl, rfl⟩ := pairs2 h
     exact hQ _ _ ⟨aH, (i6), hfr, cC, lB, oF, pF, qF, rF⟩
   ·rintro _ gX nY ⟨mT, hfr, jL, lL, mL, nL, oL, pL, qL⟩ h
    obtain ⟨⟨l9, dB⟩, hx, h⟩ := bsome h
    refine E_join (fun e w => ∃ (g : Gh) (v3 : Value), Fr gI wI g w ∧ e 1 = p1 ∧ PT g.m w (x0 : PayTable) p1 ∧ e 3 = v3 ∧ RV g.m w (l9 : List PayEntry) v3 ∧ OS 3015 g w 100 (l9 : List PayEntry) v3 ∧ e 4 = .int .i64 (dB) ∧ e 9 = .int .i64 (u3)) (fun Q' hQ => ?_) (fun iX oY hR => ?_)
    ·replace h := hx
     clear hx
     refine E_block ?_
     refine E_seq (E_region (EL_at (.int .i64 (0)) rfl rfl ?_))
     refine EL_nil (thn_n ?_)
     obtain ⟨m8, hx, h⟩ := bsome h
     refine E_join (fun e w => ∃ (g : Gh) , Fr gI wI g w ∧ e 1 = p1 ∧ PT g.m w (x0 : PayTable) p1 ∧ e 3 = i6 ∧ RV g.m w (y6 : List PayEntry) i6 ∧ OS 3015 g w 100 (y6 : List PayEntry) i6 ∧ e 4 = .int .i64 (k8) ∧ e 9 = .int .i64 (u3) ∧ e 10 = .int .i64 (m8)) (fun Q' hQ => ?_) (fun jX nT hR => ?_)
     ·replace h := hx
      clear hx
      refine E_seq (E_region (EL_at (.int .i64 (0)) rfl rfl ?_))
      refine EL_nil (thn_n (E_block ?_))
      refine E_lp h (fun (s : Int × Int) e w => ∃ (g : Gh) , Fr gI wI g w ∧ e 1 = p1 ∧ PT g.m w (x0 : PayTable) p1 ∧ e 3 = i6 ∧ RV g.m w (y6 : List PayEntry) i6 ∧ OS 3015 g w 100 (y6 : List PayEntry) i6 ∧ e 4 = .int .i64 (k8) ∧ e 9 = .int .i64 (u3) ∧ e 10 = .int .i64 (s.1) ∧ e 11 = .int .i64 (s.2)) ⟨mT, hfr, jL, lL, mL, nL, oL, pL, qL, rfl, rfl⟩ (fun X1217 kJ xR => ?_)
      rintro ⟨r8, i7⟩ kX pY ⟨sD, hfr, eC, mB, tF, uF, vF, xF, mC, rE, sE⟩ h
      refine E_joinC h (fun (s : Unit) e w => ∃ (g : Gh) , Fr gI wI g w ∧ e 1 = p1 ∧ PT g.m w (x0 : PayTable) p1 ∧ e 3 = i6 ∧ RV g.m w (y6 : List PayEntry) i6 ∧ OS 3015 g w 100 (y6 : List PayEntry) i6 ∧ e 4 = .int .i64 (k8) ∧ e 9 = .int .i64 (u3) ∧ e 10 = .int .i64 (r8) ∧ e 11 = .int .i64 (i7)) (fun X1225 mJ yR h => ?_) ?_
      ·refine E_seq (E_region (EL_mv sE rfl ?_))
       refine EL_p (fPtr p1 0) (P_fieldAddr at_58_0 eC (PT.ptr mB)) rfl ?_
       have oT := PT_field (part_PayTable_0).1 mB
       refine EL_do .plain rfl (D_load (g := sD) Tryz.isAgg56 Tryz.sizeOf56 rfl oT fun pT nK => ?_)
       refine EL_mv mC rfl ?_
       obtain ⟨mD, mI, h⟩ := bsome h
       refine EL_p (ePtr pT u3 1) (P_indexAddr (α := List Int) Tryz.underlying56 Tryz.sizeOf23 rfl nK rfl mI) rfl ?_
       have sT := PT_idx nK mI
       refine EL_do .plain rfl (D_load (g := sD) Tryz.isAgg23 Tryz.sizeOf23 rfl sT fun qY tT => ?_)
       refine EL_p (.int .i64 ((mD).length : Int)) (P_len Tryz.underlying23 rfl tT) rfl ?_
       refine EL_in (.bool ((decide (i7 < ((mD).length : Int))))) rfl rfl rfl rfl ?_
       refine EL_nil (thn_n ?_)
       rcases csome h with ⟨tE, h⟩ | ⟨tE, h⟩
       ·refine E_ct tE rfl ?_
        exact E_skip (thn_n (yR () _ _ ⟨sD, hfr, eC, mB, tF, uF, vF, xF, mC, rE, sE⟩ h))
       ·refine E_cf tE rfl ?_
        refine E_exit ?_
        refine thn_e ?_
        refine thn_e ?_
        refine blk_hit ?_
        obtain rfl := sinj h
        exact hQ _ _ ⟨sD, hfr, eC, mB, tF, uF, vF, xF, mC, rE⟩
      ·rintro _ lX uY ⟨tD, hfr, yF, qC, rL, tL, uL, vL, zF, vI, uE⟩ h
       obtain ⟨y9, hx, h⟩ := bsome h
       refine E_join (fun e w => ∃ (g : Gh) , Fr gI wI g w ∧ e 1 = p1 ∧ PT g.m w (x0 : PayTable) p1 ∧ e 3 = i6 ∧ RV g.m w (y6 : List PayEntry) i6 ∧ OS 3015 g w 100 (y6 : List PayEntry) i6 ∧ e 4 = .int .i64 (k8) ∧ e 9 = .int .i64 (u3) ∧ e 10 = .int .i64 (y9) ∧ e 11 = .int .i64 (i7)) (fun Q' hQ => ?_) (fun mX vY hR => ?_)
       ·replace h := hx
        clear hx
        refine E_block ?_
        refine E_region (EL_mv vI rfl ?_)
        refine EL_p (fPtr p1 0) (P_fieldAddr at_58_0 yF (PT.ptr qC)) rfl ?_
        have uT := PT_field (part_PayTable_0).1 qC
        refine EL_do .plain rfl (D_load (g := tD) Tryz.isAgg56 Tryz.sizeOf56 rfl uT fun xT oK => ?_)
        refine EL_mv zF rfl ?_
        obtain ⟨lJ, nI, h⟩ := bsome h
        refine EL_p (ePtr xT u3 1) (P_indexAddr (α := List Int) Tryz.underlying56 Tryz.sizeOf23 rfl oK rfl nI) rfl ?_
        have yT := PT_idx oK nI
        refine EL_do .plain rfl (D_load (g := tD) Tryz.isAgg23 Tryz.sizeOf23 rfl yT fun zT pK => ?_)
        refine EL_mv uE rfl ?_
        obtain ⟨lD, pI, h⟩ := bsome h
        refine EL_p (ePtr zT i7 1) (P_indexAddr (α := Int) Tryz.underlying23 Tryz.sizeOf3 rfl pK rfl pI) rfl ?_
        have aU := PT_idx pK pI
        refine EL_do .plain rfl (D_load (g := tD) Tryz.isAgg3 Tryz.sizeOf3 rfl aU fun xY bU => ?_)
        obtain rfl := RV_int.1 bU
        refine EL_in (.int .i64 ((w64 (r8 + lD)))) rfl rfl rfl rfl ?_
        refine EL_at (.int .i64 ((w64 (r8 + lD)))) rfl rfl ?_
        refine EL_nil (blk_n ?_)
        obtain rfl := sinj h
        exact hQ _ _ ⟨tD, hfr, yF, qC, rL, tL, uL, vL, zF, rfl, uE⟩
       ·clear hx
        obtain ⟨cU, hfr, xL, yL, zL, aM, bM, cM, dM, xI, yI⟩ := hR
        refine E_region (EL_mv yI rfl ?_)
        refine EL_in (.int .i64 ((w64 (i7 + (1 : Int))))) rfl rfl rfl rfl ?_
        refine EL_at (.int .i64 ((w64 (i7 + (1 : Int))))) rfl rfl ?_
        exact EL_nil (thn_n (xR (y9, (w64 (i7 + (1 : Int)))) _ _ ⟨cU, hfr, xL, yL, zL, aM, bM, cM, dM, xI, rfl⟩ h))
     ·clear hx
      obtain ⟨uD, hfr, aG, x8, eM, rC, uC, iM, vC, zI⟩ := hR
      refine E_seq (E_region (EL_mv iM rfl ?_))
      refine EL_p (fPtr p1 1) (P_fieldAddr at_58_1 aG (PT.ptr x8)) rfl ?_
      have dU := PT_field (part_PayTable_1).1 x8
      refine EL_do .plain rfl (D_load (g := uD) Tryz.isAgg23 Tryz.sizeOf23 rfl dU fun eU qK => ?_)
      refine EL_mv vC rfl ?_
      obtain ⟨nD, qI, h⟩ := bsome h
      refine EL_p (ePtr eU u3 1) (P_indexAddr (α := Int) Tryz.underlying23 Tryz.sizeOf3 rfl qK rfl qI) rfl ?_
      have gU := PT_idx qK qI
      refine EL_do .plain rfl (D_load (g := uD) Tryz.isAgg3 Tryz.sizeOf3 rfl gU fun yY iU => ?_)
      obtain rfl := RV_int.1 iU
      refine EL_in (.int .i64 ((w64 (k8 + nD)))) rfl rfl rfl rfl ?_
      refine EL_at (.int .i64 ((w64 (k8 + nD)))) rfl rfl ?_
      refine EL_nil (thn_n (E_region (EL_mv eM rfl ?_)))
      refine EL_mv vC rfl ?_
      refine EL_mv zI rfl ?_
      have sK : RV uD.m nT (⟨(2 : Int), u3, 0, m8⟩ : PayEntry) (.agg (setCh [[.int .i64 0], [.int .i64 0], [.int .i64 0], [.int .i64 0]] [(0, .int .i64 (2)), (1, .int .i64 (u3)), (3, .int .i64 (m8))]).flatten.toArray) := RV_build rfl (rep_pair (rfl) (rep_pair (rfl) (rep_pair (rep_int) (rep_last (rfl)))))
      generalize zR : (Value.agg (setCh [[.int .i64 0], [.int .i64 0], [.int .i64 0], [.int .i64 0]] [(0, .int .i64 (2)), (1, .int .i64 (u3)), (3, .int .i64 (m8))]).flatten.toArray) = tK at sK
      refine EL_p tK (zR ▸ P_build (vs := [(0, .int .i64 (2)), (1, .int .i64 (u3)), (3, .int .i64 (m8))]) [[.int .i64 0], [.int .i64 0], [.int .i64 0], [.int .i64 0]] lay_100 rfl rfl (.cons rfl (.cons rfl (.cons rfl .nil))) ⟨⟨_, rfl, rfl⟩, ⟨⟨_, rfl, rfl⟩, ⟨⟨_, rfl, rfl⟩, trivial⟩⟩⟩) rfl ?_
      refine EL_do .plain rfl (D_buildSlice (g := uD) 3112 (xs := ([(⟨(2 : Int), u3, 0, m8⟩ : PayEntry)] : List PayEntry)) (vs := [tK]) Tryz.underlying110 Tryz.sizeOf100 Tryz.zeroValue100 rfl rfl (.cons rfl .nil) (RVs.cons sK RVs.nil) rfl rfl fun jU zY aZ hs o1257 kU hxt hfl => ?_)
      have hfr := hfr.stp hs
      have x8 := x8.stp hs
      have rC := rC.stp hs
      have uC := uC.stp hs rfl
      obtain ⟨nJ, aS, h⟩ := bsome h
      refine EL_do .plain rfl (D_append (g := jU) (i := 3015) Tryz.underlying110 info_100 rfl rfl uC rC rfl kU aS fun lU bZ uK hs o1258 mU _ => ?_)
      have hfr := hfr.stp hs
      have x8 := x8.stp hs
      refine EL_at uK rfl rfl ?_
      refine EL_nil (blk_n ?_)
      obtain ⟨rfl, rfl⟩ := pairs2 h
      exact hQ _ _ ⟨lU, (uK), hfr, aG, x8, rfl, mU, o1258, rfl, vC⟩
    ·clear hx
     obtain ⟨nU, jM, hfr, kM, mM, nM, oM, pM, qM, rM⟩ := hR
     refine E_region (EL_mv rM rfl ?_)
     refine EL_in (.int .i64 ((w64 (u3 + (1 : Int))))) rfl rfl rfl rfl ?_
     refine EL_at (.int .i64 ((w64 (u3 + (1 : Int))))) rfl rfl ?_
     exact EL_nil (thn_n (uR (l9, dB, (w64 (u3 + (1 : Int)))) _ _ ⟨nU, (jM), hfr, kM, mM, nM, oM, pM, qM, rfl⟩ h))
  ·clear hx
   obtain ⟨oU, sM, hfr, tM, uM, vM, xM, yM, zM⟩ := hR
   obtain ⟨jB, hx, h⟩ := bsome h
   refine E_join (fun e w => ∃ (g : Gh) (v3 : Value), Fr gI wI g w ∧ e 3 = v3 ∧ RV g.m w (jB : List PayEntry) v3 ∧ OS 3015 g w 100 (jB : List PayEntry) v3 ∧ e 4 = .int .i64 (x5)) (fun Q' hQ => ?_) (fun nX pU hR => ?_)
   ·replace h := hx
    clear hx
    refine E_seq (E_region (EL_at (.int .i64 (0)) rfl rfl ?_))
    refine EL_nil (thn_n (E_block ?_))
    refine E_lp h (fun (s : (List PayEntry) × Int) e w => ∃ (g : Gh) (v3 : Value), Fr gI wI g w ∧ e 1 = p1 ∧ PT g.m w (x0 : PayTable) p1 ∧ e 3 = v3 ∧ RV g.m w (s.1 : List PayEntry) v3 ∧ OS 3015 g w 100 (s.1 : List PayEntry) v3 ∧ e 4 = .int .i64 (x5) ∧ e 12 = .int .i64 (s.2)) ⟨oU, (sM), hfr, tM, uM, vM, xM, yM, zM, rfl⟩ (fun X1391 pJ bS => ?_)
    rintro ⟨d7, l5⟩ oX cZ ⟨cH, j6, hfr, bG, aD, cG, eG, gG, hG, vE⟩ h
    refine E_joinC h (fun (s : Unit) e w => ∃ (g : Gh) , Fr gI wI g w ∧ e 1 = p1 ∧ PT g.m w (x0 : PayTable) p1 ∧ e 3 = j6 ∧ RV g.m w (d7 : List PayEntry) j6 ∧ OS 3015 g w 100 (d7 : List PayEntry) j6 ∧ e 4 = .int .i64 (x5) ∧ e 12 = .int .i64 (l5)) (fun X1396 xJ cS h => ?_) ?_
    ·refine E_seq (E_region (EL_mv vE rfl ?_))
     refine EL_p (fPtr p1 2) (P_fieldAddr at_58_2 bG (PT.ptr aD)) rfl ?_
     have qU := PT_field (part_PayTable_2).1 aD
     refine EL_do .plain rfl (D_load (g := cH) Tryz.isAgg23 Tryz.sizeOf23 rfl qU fun dZ rU => ?_)
     refine EL_p (.int .i64 (((x0).Down).length : Int)) (P_len Tryz.underlying23 rfl rU) rfl ?_
     refine EL_p (.bool ((decide (l5 < (((x0).Down).length : Int))))) (P_int rfl rfl rfl) rfl ?_
     refine EL_nil (thn_n ?_)
     rcases csome h with ⟨xE, h⟩ | ⟨xE, h⟩
     ·refine E_ct xE rfl ?_
      exact E_skip (thn_n (cS () _ _ ⟨cH, hfr, bG, aD, cG, eG, gG, hG, vE⟩ h))
     ·refine E_cf xE rfl ?_
      refine E_exit ?_
      refine thn_e ?_
      refine thn_e ?_
      refine blk_hit ?_
      obtain rfl := sinj h
      exact hQ _ _ ⟨cH, (j6), hfr, cG, eG, gG, hG⟩
    ·rintro _ pX mZ ⟨sU, hfr, bN, cN, dN, eN, gN, iN, aJ⟩ h
     obtain ⟨n9, hx, h⟩ := bsome h
     refine E_join (fun e w => ∃ (g : Gh) (v3 : Value), Fr gI wI g w ∧ e 1 = p1 ∧ PT g.m w (x0 : PayTable) p1 ∧ e 3 = v3 ∧ RV g.m w (n9 : List PayEntry) v3 ∧ OS 3015 g w 100 (n9 : List PayEntry) v3 ∧ e 4 = .int .i64 (x5) ∧ e 12 = .int .i64 (l5)) (fun Q' hQ => ?_) (fun qX nZ hR => ?_)
     ·replace h := hx
      clear hx
      refine E_block ?_
      refine E_seq (E_region (EL_at (.int .i64 (0)) rfl rfl ?_))
      refine EL_nil (thn_n ?_)
      obtain ⟨n8, hx, h⟩ := bsome h
      refine E_join (fun e w => ∃ (g : Gh) , Fr gI wI g w ∧ e 1 = p1 ∧ PT g.m w (x0 : PayTable) p1 ∧ e 3 = j6 ∧ RV g.m w (d7 : List PayEntry) j6 ∧ OS 3015 g w 100 (d7 : List PayEntry) j6 ∧ e 4 = .int .i64 (x5) ∧ e 12 = .int .i64 (l5) ∧ e 13 = .int .i64 (n8)) (fun Q' hQ => ?_) (fun rX tU hR => ?_)
      ·replace h := hx
       clear hx
       refine E_seq (E_region (EL_at (.int .i64 (0)) rfl rfl ?_))
       refine EL_nil (thn_n (E_block ?_))
       refine E_lp h (fun (s : Int × Int) e w => ∃ (g : Gh) , Fr gI wI g w ∧ e 1 = p1 ∧ PT g.m w (x0 : PayTable) p1 ∧ e 3 = j6 ∧ RV g.m w (d7 : List PayEntry) j6 ∧ OS 3015 g w 100 (d7 : List PayEntry) j6 ∧ e 4 = .int .i64 (x5) ∧ e 12 = .int .i64 (l5) ∧ e 13 = .int .i64 (s.1) ∧ e 14 = .int .i64 (s.2)) ⟨sU, hfr, bN, cN, dN, eN, gN, iN, aJ, rfl, rfl⟩ (fun X1487 qJ dS => ?_)
       rintro ⟨v8, m7⟩ sX oZ ⟨dH, hfr, bD, nB, iG, jG, kG, lG, yE, zE, cF⟩ h
       refine E_joinC h (fun (s : Unit) e w => ∃ (g : Gh) , Fr gI wI g w ∧ e 1 = p1 ∧ PT g.m w (x0 : PayTable) p1 ∧ e 3 = j6 ∧ RV g.m w (d7 : List PayEntry) j6 ∧ OS 3015 g w 100 (d7 : List PayEntry) j6 ∧ e 4 = .int .i64 (x5) ∧ e 12 = .int .i64 (l5) ∧ e 13 = .int .i64 (v8) ∧ e 14 = .int .i64 (m7)) (fun X1492 sJ eS h => ?_) ?_
       ·refine E_seq (E_region (EL_mv cF rfl ?_))
        refine EL_p (fPtr p1 0) (P_fieldAddr at_58_0 bD (PT.ptr nB)) rfl ?_
        have uU := PT_field (part_PayTable_0).1 nB
        refine EL_do .plain rfl (D_load (g := dH) Tryz.isAgg56 Tryz.sizeOf56 rfl uU fun pZ vU => ?_)
        refine EL_p (.int .i64 (((x0).Rows).length : Int)) (P_len Tryz.underlying56 rfl vU) rfl ?_
        refine EL_p (.bool ((decide (m7 < (((x0).Rows).length : Int))))) (P_int rfl rfl rfl) rfl ?_
        refine EL_nil (thn_n ?_)
        rcases csome h with ⟨dF, h⟩ | ⟨dF, h⟩
        ·refine E_ct dF rfl ?_
         exact E_skip (thn_n (eS () _ _ ⟨dH, hfr, bD, nB, iG, jG, kG, lG, yE, zE, cF⟩ h))
        ·refine E_cf dF rfl ?_
         refine E_exit ?_
         refine thn_e ?_
         refine thn_e ?_
         refine blk_hit ?_
         obtain rfl := sinj h
         exact hQ _ _ ⟨dH, hfr, bD, nB, iG, jG, kG, lG, yE, zE⟩
       ·rintro _ tX qZ ⟨vD, hfr, mG, cD, jN, kN, lN, mN, eF, bJ, iF⟩ h
        obtain ⟨z9, hx, h⟩ := bsome h
        refine E_join (fun e w => ∃ (g : Gh) , Fr gI wI g w ∧ e 1 = p1 ∧ PT g.m w (x0 : PayTable) p1 ∧ e 3 = j6 ∧ RV g.m w (d7 : List PayEntry) j6 ∧ OS 3015 g w 100 (d7 : List PayEntry) j6 ∧ e 4 = .int .i64 (x5) ∧ e 12 = .int .i64 (l5) ∧ e 13 = .int .i64 (z9) ∧ e 14 = .int .i64 (m7)) (fun Q' hQ => ?_) (fun uX rZ hR => ?_)
        ·replace h := hx
         clear hx
         refine E_block ?_
         refine E_region (EL_mv bJ rfl ?_)
         refine EL_p (fPtr p1 0) (P_fieldAddr at_58_0 mG (PT.ptr cD)) rfl ?_
         have xU := PT_field (part_PayTable_0).1 cD
         refine EL_do .plain rfl (D_load (g := vD) Tryz.isAgg56 Tryz.sizeOf56 rfl xU fun yU vK => ?_)
         refine EL_mv iF rfl ?_
         obtain ⟨rJ, sI, h⟩ := bsome h
         refine EL_p (ePtr yU m7 1) (P_indexAddr (α := List Int) Tryz.underlying56 Tryz.sizeOf23 rfl vK rfl sI) rfl ?_
         have zU := PT_idx vK sI
         refine EL_do .plain rfl (D_load (g := vD) Tryz.isAgg23 Tryz.sizeOf23 rfl zU fun aV xK => ?_)
         refine EL_mv eF rfl ?_
         obtain ⟨oD, tI, h⟩ := bsome h
         refine EL_p (ePtr aV l5 1) (P_indexAddr (α := Int) Tryz.underlying23 Tryz.sizeOf3 rfl xK rfl tI) rfl ?_
         have bV := PT_idx xK tI
         refine EL_do .plain rfl (D_load (g := vD) Tryz.isAgg3 Tryz.sizeOf3 rfl bV fun sZ cV => ?_)
         obtain rfl := RV_int.1 cV
         refine EL_in (.int .i64 ((w64 (v8 + oD)))) rfl rfl rfl rfl ?_
         refine EL_at (.int .i64 ((w64 (v8 + oD)))) rfl rfl ?_
         refine EL_nil (blk_n ?_)
         obtain rfl := sinj h
         exact hQ _ _ ⟨vD, hfr, mG, cD, jN, kN, lN, mN, eF, rfl, iF⟩
        ·clear hx
         obtain ⟨dV, hfr, nN, oN, pN, qN, rN, sN, cJ, dJ, eJ⟩ := hR
         refine E_region (EL_mv eJ rfl ?_)
         refine EL_in (.int .i64 ((w64 (m7 + (1 : Int))))) rfl rfl rfl rfl ?_
         refine EL_at (.int .i64 ((w64 (m7 + (1 : Int))))) rfl rfl ?_
         exact EL_nil (thn_n (dS (z9, (w64 (m7 + (1 : Int)))) _ _ ⟨dV, hfr, nN, oN, pN, qN, rN, sN, cJ, dJ, rfl⟩ h))
      ·clear hx
       obtain ⟨yK, hfr, tN, u9, uN, eD, gD, vN, nF, gJ⟩ := hR
       refine E_region (EL_mv uN rfl ?_)
       refine EL_mv nF rfl ?_
       refine EL_mv gJ rfl ?_
       have zK : RV yK.m tU (⟨(3 : Int), 0, l5, n8⟩ : PayEntry) (.agg (setCh [[.int .i64 0], [.int .i64 0], [.int .i64 0], [.int .i64 0]] [(0, .int .i64 (3)), (2, .int .i64 (l5)), (3, .int .i64 (n8))]).flatten.toArray) := RV_build rfl (rep_pair (rfl) (rep_pair (rep_int) (rep_pair (rfl) (rep_last (rfl)))))
       generalize gS : (Value.agg (setCh [[.int .i64 0], [.int .i64 0], [.int .i64 0], [.int .i64 0]] [(0, .int .i64 (3)), (2, .int .i64 (l5)), (3, .int .i64 (n8))]).flatten.toArray) = aL at zK
       refine EL_p aL (gS ▸ P_build (vs := [(0, .int .i64 (3)), (2, .int .i64 (l5)), (3, .int .i64 (n8))]) [[.int .i64 0], [.int .i64 0], [.int .i64 0], [.int .i64 0]] lay_100 rfl rfl (.cons rfl (.cons rfl (.cons rfl .nil))) ⟨⟨_, rfl, rfl⟩, ⟨⟨_, rfl, rfl⟩, ⟨⟨_, rfl, rfl⟩, trivial⟩⟩⟩) rfl ?_
       refine EL_do .plain rfl (D_buildSlice (g := yK) 3142 (xs := ([(⟨(3 : Int), 0, l5, n8⟩ : PayEntry)] : List PayEntry)) (vs := [aL]) Tryz.underlying110 Tryz.sizeOf100 Tryz.zeroValue100 rfl rfl (.cons rfl .nil) (RVs.cons zK RVs.nil) rfl rfl fun eV tZ uZ hs o1516 gV hxt hfl => ?_)
       have hfr := hfr.stp hs
       have u9 := u9.stp hs
       have eD := eD.stp hs
       have gD := gD.stp hs rfl
       obtain ⟨vJ, iS, h⟩ := bsome h
       refine EL_do .plain rfl (D_append (g := eV) (i := 3015) Tryz.underlying110 info_100 rfl rfl gD eD rfl gV iS fun iV vZ bL hs o1517 jV _ => ?_)
       have hfr := hfr.stp hs
       have u9 := u9.stp hs
       refine EL_at bL rfl rfl ?_
       refine EL_nil (blk_n ?_)
       obtain rfl := sinj h
       exact hQ _ _ ⟨iV, (bL), hfr, tN, u9, rfl, jV, o1517, vN, nF⟩
     ·clear hx
      obtain ⟨kV, xN, hfr, yN, zN, aO, bO, cO, dO, iJ⟩ := hR
      refine E_region (EL_mv iJ rfl ?_)
      refine EL_in (.int .i64 ((w64 (l5 + (1 : Int))))) rfl rfl rfl rfl ?_
      refine EL_at (.int .i64 ((w64 (l5 + (1 : Int))))) rfl rfl ?_
      exact EL_nil (thn_n (bS (n9, (w64 (l5 + (1 : Int)))) _ _ ⟨kV, (xN), hfr, yN, zN, aO, bO, cO, dO, rfl⟩ h))
   ·clear hx
    obtain ⟨dL, cX, hfr, eO, iD, jD, gO⟩ := hR
    refine E_seq (E_region (EL_mv eO rfl ?_))
    refine EL_mv gO rfl ?_
    have eL : RV dL.m pU (⟨(4 : Int), 0, 0, x5⟩ : PayEntry) (.agg (setCh [[.int .i64 0], [.int .i64 0], [.int .i64 0], [.int .i64 0]] [(0, .int .i64 (4)), (3, .int .i64 (x5))]).flatten.toArray) := RV_build rfl (rep_pair (rfl) (rep_pair (rep_int) (rep_pair (rep_int) (rep_last (rfl)))))
    generalize jS : (Value.agg (setCh [[.int .i64 0], [.int .i64 0], [.int .i64 0], [.int .i64 0]] [(0, .int .i64 (4)), (3, .int .i64 (x5))]).flatten.toArray) = gL at eL
    refine EL_p gL (jS ▸ P_build (vs := [(0, .int .i64 (4)), (3, .int .i64 (x5))]) [[.int .i64 0], [.int .i64 0], [.int .i64 0], [.int .i64 0]] lay_100 rfl rfl (.cons rfl (.cons rfl .nil)) ⟨⟨_, rfl, rfl⟩, ⟨⟨_, rfl, rfl⟩, trivial⟩⟩) rfl ?_
    refine EL_do .plain rfl (D_buildSlice (g := dL) 3147 (xs := ([(⟨(4 : Int), 0, 0, x5⟩ : PayEntry)] : List PayEntry)) (vs := [gL]) Tryz.underlying110 Tryz.sizeOf100 Tryz.zeroValue100 rfl rfl (.cons rfl .nil) (RVs.cons eL RVs.nil) rfl rfl fun lV xZ yZ hs o1522 mV hxt hfl => ?_)
    have hfr := hfr.stp hs
    have iD := iD.stp hs
    have jD := jD.stp hs rfl
    obtain ⟨yJ, lS, h⟩ := bsome h
    refine EL_do .plain rfl (D_append (g := lV) (i := 3015) Tryz.underlying110 info_100 rfl rfl jD iD rfl mV lS fun zZ a00 iL hs o1523 nV _ => ?_)
    have hfr := hfr.stp hs
    refine EL_at iL rfl rfl ?_
    refine EL_nil (thn_n (E_ret ?_))
    obtain rfl := sinj h
    exact end1 rfl rfl (show _ = iL from rfl) ⟨_, hfr, nV⟩
theorem W62 {iO : Nat} {gI : Gh} {wI : World} {x0 : PayTable} {up0 : Value} (rp0 : RV gI.m wI x0 up0) {r : PayTable} (h : f62 x0 = some r) : FnG Tryz.prog 62 #[up0] gI wI (fun g w v => OWx ow_PayTable iO g w r v) := by
 unfold f62 at h
 refine fnG_of_E Tryz.func62 rfl (Nat.le_of_ble_eq_true rfl) fun g0 hm hfr => ?_
 have rp0 : RV g0.m wI x0 up0 := hm ▸ rp0
 show E _ 36 none _ _ _ _ _
 refine E_seq (E_region (EL_do .plain rfl (D_box (g := g0) rfl rp0 fun g1 w1 p1 hs q1 => ?_)))
 have hfr := hfr.ext hs
 refine EL_do .plain rfl (D_allocOc (g := g1) 2002 (⟨[], [], [], 0⟩ : PayTable) Tryz.zeroValue58 (fun m w => ⟨_, (rep_two rep_nil (rep_two rep_nil (rep_two rep_nil rep_int))), rfl⟩) fun g2 w2 p2 hs b2 cb => ?_)
 have hfr := hfr.stp hs
 have q1 := q1.stp hs
 have t5 : OSF 2002 60200 0 g2 w2 23 58 ([] : List (List Int)) p2 := cb.osf (by rfl)
 have x5 : OSF 2002 60201 1 g2 w2 3 58 ([] : List Int) p2 := cb.osf (by rfl)
 have i6 : OSF 2002 60202 2 g2 w2 3 58 ([] : List Int) p2 := cb.osf (by rfl)
 clear cb
 refine EL_nil (thn_n (E_seq ?_))
 have q4 := PT_field (part_PayTable_1).1 q1
 refine L_load (x := .tmp 6) Tryz.isAgg23 Tryz.sizeOf23 q4 fun v5 r5 mE => ?_
 obtain ⟨y7, nE, h⟩ := bsome h
 have q9 := PT_field (part_PayTable_2).1 q1
 refine L_load (x := .tmp 10) Tryz.isAgg23 Tryz.sizeOf23 q9 fun oE rE oD => ?_
 obtain ⟨m8, sD, h⟩ := bsome h
 have sE := PT_field (part_PayTable_3).1 q1
 refine L_load (x := .tmp 13) Tryz.isAgg3 Tryz.sizeOf3 sE fun iG tE tD => ?_
 obtain rfl := RV_int.1 tE
 refine E_drawL (g := g2) (n := 12) [(0, (fun v g w => RV g.m w ([] : List Int) v ∧ OS 3005 g w 3 ([] : List Int) v ∧ FullV v)), (3, (fun v g w => OA 3005 g w 3 y7 v)), (4, (fun v g w => RV g.m w ([] : List Int) v ∧ OS 3009 g w 3 ([] : List Int) v ∧ FullV v)), (7, (fun v g w => OA 3009 g w 3 m8 v)), (11, (fun v g w => OB 2003 g w 58 (⟨[], [], [], 0⟩ : PayTable) v))] [0, 1, 2, 3, 4, 5, 6, 7, 8, 9, 10, 11] rfl mixed (by kernel_rfl) (⟨fun _ => up_and up_rv (up_and up_os (up_eq _)), fun _ => up_oa, fun _ => up_and up_rv (up_and up_os (up_eq _)), fun _ => up_oa, fun _ => up_ob, trivial⟩) ?_
 refine L_do (φ := fun v g w => RV g.m w ([] : List Int) v ∧ OS 3005 g w 3 ([] : List Int) v ∧ FullV v) rfl rfl .plain (fun g w hd => D_buildSlice (g := g) 3005 (xs := ([] : List Int)) (vs := []) Tryz.underlying23 Tryz.sizeOf3 Tryz.zeroValue3 rfl rfl .nil RVs.nil rfl rfl fun g' w' v hs o r hxt hfl => ⟨g', hxt, r, o, hfl⟩) (fun v3 hv => ?_)
 clear hv
 refine L_p (fPtr p1 1) rfl rfl (P_fieldAddr at_58_1 rfl (PT.ptr q1)) ?_
 refine L_ld (c := v5) rfl rfl .plain (fun _ _ h => h.ch) mE rfl ?_
 refine L_do (φ := fun v g w => OA 3005 g w 3 y7 v) rfl rfl .plain (fun g w hd => D_appendE (g := g) plain_int (i := 3005) Tryz.underlying23 info_3 rfl rfl (word (A := fun g w => RV g.m w ([] : List Int) v3 ∧ OS 3005 g w 3 ([] : List Int) v3 ∧ FullV v3) 0 rfl rfl (deps_of hd)).2.1 (word (A := fun g w => RV g.m w ([] : List Int) v3 ∧ OS 3005 g w 3 ([] : List Int) v3 ∧ FullV v3) 0 rfl rfl (deps_of hd)).2.2 rfl (r5.ext hd.1) nE fun g' w' v hs b => ⟨g', hs, b⟩) (fun v6 hv => ?_)
 have sz6 : v6.cells.size = 1 := let ⟨_, _, _, hw⟩ := hv; OA.csz1 hw
 clear hv
 refine L_do (φ := fun v g w => RV g.m w ([] : List Int) v ∧ OS 3009 g w 3 ([] : List Int) v ∧ FullV v) rfl rfl .plain (fun g w hd => D_buildSlice (g := g) 3009 (xs := ([] : List Int)) (vs := []) Tryz.underlying23 Tryz.sizeOf3 Tryz.zeroValue3 rfl rfl .nil RVs.nil rfl rfl fun g' w' v hs o r hxt hfl => ⟨g', hxt, r, o, hfl⟩) (fun v8 hv => ?_)
 clear hv
 refine L_p (fPtr p1 2) rfl rfl (P_fieldAddr at_58_2 rfl (PT.ptr q1)) ?_
 refine L_ld (c := oE) rfl rfl .plain (fun _ _ h => h.ch) oD rfl ?_
 refine L_do (φ := fun v g w => OA 3009 g w 3 m8 v) rfl rfl .plain (fun g w hd => D_appendE (g := g) plain_int (i := 3009) Tryz.underlying23 info_3 rfl rfl (word (A := fun g w => RV g.m w ([] : List Int) v8 ∧ OS 3009 g w 3 ([] : List Int) v8 ∧ FullV v8) 4 rfl rfl (deps_of hd)).2.1 (word (A := fun g w => RV g.m w ([] : List Int) v8 ∧ OS 3009 g w 3 ([] : List Int) v8 ∧ FullV v8) 4 rfl rfl (deps_of hd)).2.2 rfl (rE.ext hd.1) sD fun g' w' v hs b => ⟨g', hs, b⟩) (fun n8 hv => ?_)
 have sz11 : n8.cells.size = 1 := let ⟨_, _, _, hw⟩ := hv; OA.csz1 hw
 clear hv
 refine L_p (fPtr p1 3) rfl rfl (P_fieldAddr at_58_3 rfl (PT.ptr q1)) ?_
 refine L_ld (c := .int .i64 ((x0).Total)) rfl rfl .plain (fun _ _ h => h.ch) tD rfl ?_
 refine L_p ((Value.agg (setCh [[.slice none 0 0], [.slice none 0 0], [.slice none 0 0], [.int .i64 0]] [(1, v6), (2, n8), (3, .int .i64 ((x0).Total))]).flatten.toArray)) rfl rfl (P_build (vs := [(1, v6), (2, n8), (3, .int .i64 ((x0).Total))]) [[.slice none 0 0], [.slice none 0 0], [.slice none 0 0], [.int .i64 0]] lay_58 rfl rfl (.cons rfl (.cons rfl (.cons rfl .nil))) ⟨⟨_, rfl, sz6⟩, ⟨⟨_, rfl, sz11⟩, ⟨⟨_, rfl, rfl⟩, trivial⟩⟩⟩) ?_
 refine L_do (φ := fun v g w => OB 2003 g w 58 (⟨[], [], [], 0⟩ : PayTable) v) rfl rfl .plain (fun g w hd => D_allocX (g := g) 2003 (⟨[], [], [], 0⟩ : PayTable) Tryz.zeroValue58 (fun m w => ⟨_, (rep_two rep_nil (rep_two rep_nil (rep_two rep_nil rep_int))), rfl⟩) fun g' w' v hs b => ⟨g', hs, b⟩) (fun uE hv => ?_)
 clear hv
 refine L_nil fun vE jB hall => ?_
 have hs := hall.1
 have hfr := hfr.ext hs
 have q1 := q1.ext hs
 have t5 := t5.ext hs
 have x5 := x5.ext hs
 have i6 := i6.ext hs
 have b2 := b2.ext hs
 have jG := (word_all (A := fun g w => RV g.m w ([] : List Int) v3 ∧ OS 3005 g w 3 ([] : List Int) v3 ∧ FullV v3) 0 rfl hall).1
 have o21 := (word_all (A := fun g w => RV g.m w ([] : List Int) v3 ∧ OS 3005 g w 3 ([] : List Int) v3 ∧ FullV v3) 0 rfl hall).2.1
 have b24 := (word_all (A := fun g w => OA 3005 g w 3 y7 v6) 3 rfl hall)
 have kG := (word_all (A := fun g w => RV g.m w ([] : List Int) v8 ∧ OS 3009 g w 3 ([] : List Int) v8 ∧ FullV v8) 4 rfl hall).1
 have o25 := (word_all (A := fun g w => RV g.m w ([] : List Int) v8 ∧ OS 3009 g w 3 ([] : List Int) v8 ∧ FullV v8) 4 rfl hall).2.1
 have b28 := (word_all (A := fun g w => OA 3009 g w 3 m8 n8) 7 rfl hall)
 have b32 := (word_all (A := fun g w => OB 2003 g w 58 (⟨[], [], [], 0⟩ : PayTable) uE) 11 rfl hall)
 clear hs hall
 obtain ⟨sk35, ow35, ok35⟩ := OA.toW b24
 obtain ⟨sk36, ow36, ok36⟩ := OA.toW b28
 have wn37 := Wn.fl (Wn.shl (y := ((x0).Total : Int)) (g := vE) (w := jB) (RV.cells (RV_int.2 rfl)) 804015)
 obtain ⟨gq38, hs, _, wn38⟩ := Wn.pair (OW.wn ow36) wn37 rfl
 have hfr := hfr.stp hs
 have q1 := q1.stp hs
 have t5 := t5.stp hs rfl
 have x5 := x5.stp hs rfl
 have i6 := i6.stp hs rfl
 have b2 := b2.stp hs rfl
 have b32 := b32.stp hs rfl
 have ow35 := ow35.stp hs rfl
 obtain ⟨gq39, hs, _, wn39⟩ := Wn.pair (OW.wn ow35) wn38 rfl
 have hfr := hfr.stp hs
 have q1 := q1.stp hs
 have t5 := t5.stp hs rfl
 have x5 := x5.stp hs rfl
 have i6 := i6.stp hs rfl
 have b2 := b2.stp hs rfl
 have b32 := b32.stp hs rfl
 obtain ⟨gq40, hs, _, wn40⟩ := Wn.pair (Wn.nil 23 (Ow.list 3 (Ow.sh Int)) 700 gq39 jB) wn39 rfl
 have hfr := hfr.stp hs
 have q1 := q1.stp hs
 have t5 := t5.stp hs rfl
 have x5 := x5.stp hs rfl
 have i6 := i6.stp hs rfl
 have b2 := b2.stp hs rfl
 have b32 := b32.stp hs rfl
 have ow34 : OW ow_PayTable 804015 gq40 jB (⟨[], y7, m8, (x0).Total⟩ : PayTable) (Sl.nil, (sk35, (sk36, ()))) (Value.agg (setCh [[.slice none 0 0], [.slice none 0 0], [.slice none 0 0], [.int .i64 0]] [(1, v6), (2, n8), (3, .int .i64 ((x0).Total))]).flatten.toArray) := Wn.mk_ (Wn.struct (x := ((⟨[], y7, m8, (x0).Total⟩ : PayTable))) wn40)
 refine EL_do .plain rfl (D_storeOW (g := gq40) Tryz.sizeOf58 rfl b32 rfl ow34 rfl fun gj41 xE lG bk41 hsa hsb hpp b41 => ?_)
 have hfr := hfr.stp hsa
 have q1 := q1.stp hsa
 have t5 := t5.stp hsa rfl
 have x5 := x5.stp hsa rfl
 have i6 := i6.stp hsa rfl
 have b2 := b2.stp hsa rfl
 have hfr := hfr.stp hsb
 have q1 := q1.stp hsb
 have t5 := t5.stp hsb rfl
 have x5 := x5.stp hsb rfl
 have i6 := i6.stp hsb rfl
 have b2 := b2.stp hsb rfl
 clear hsa hsb
 subst hpp
 refine EL_nil (thn_n ?_)
 obtain ⟨lB, hx, h⟩ := bsome h
 refine E_join (fun e w => ∃ (g : Gh) , Fr gI wI g w ∧ e 2 = p2 ∧ OB 2002 g w 58 ((⟨[], [], [], 0⟩ : PayTable) : PayTable) p2 ∧ OSF 2002 60200 0 g w 23 58 (((⟨[], [], [], 0⟩ : PayTable)).Rows) p2 ∧ OSF 2002 60201 1 g w 3 58 (((⟨[], [], [], 0⟩ : PayTable)).Across) p2 ∧ OSF 2002 60202 2 g w 3 58 (((⟨[], [], [], 0⟩ : PayTable)).Down) p2 ∧ e 3 = (Value.pointer (some ⟨bk41, 0, none⟩)) ∧ OVb ow_PayTable 2003 g w 58 (lB : PayTable) bk41) (fun Q' hQ => ?_) (fun yE eF hR => ?_)
 ·replace h := hx
  clear hx
  refine E_seq (E_region (EL_at (.int .i64 (0)) rfl rfl ?_))
  refine EL_nil (thn_n (E_block ?_))
  refine E_lp h (fun (s : PayTable × Int) e w => ∃ (g : Gh) , Fr gI wI g w ∧ e 1 = p1 ∧ PT g.m w (x0 : PayTable) p1 ∧ e 2 = p2 ∧ OB 2002 g w 58 ((⟨[], [], [], 0⟩ : PayTable) : PayTable) p2 ∧ OSF 2002 60200 0 g w 23 58 (((⟨[], [], [], 0⟩ : PayTable)).Rows) p2 ∧ OSF 2002 60201 1 g w 3 58 (((⟨[], [], [], 0⟩ : PayTable)).Across) p2 ∧ OSF 2002 60202 2 g w 3 58 (((⟨[], [], [], 0⟩ : PayTable)).Down) p2 ∧ e 3 = (Value.pointer (some ⟨bk41, 0, none⟩)) ∧ OVb ow_PayTable 2003 g w 58 (s.1 : PayTable) bk41 ∧ e 4 = .int .i64 (s.2)) ⟨xE, hfr, rfl, q1, rfl, b2, t5, x5, i6, rfl, ⟨_, b41, (⟨trivial, ⟨ok35, ⟨ok36, trivial⟩⟩⟩ : (ow_PayTable).ok (Sl.nil, (sk35, (sk36, ()))))⟩, rfl⟩ (fun X118 iF bD => ?_)
  rintro ⟨d7, j6⟩ zE nF ⟨bA, hfr, r8, i7, x8, a9, u2_0_119, u2_1_119, u2_2_119, d9, ⟨jE, k9, g8⟩, l9⟩ h
  refine E_joinC h (fun (s : Unit) e w => ∃ (g : Gh) , Fr gI wI g w ∧ e 1 = p1 ∧ PT g.m w (x0 : PayTable) p1 ∧ e 2 = p2 ∧ OB 2002 g w 58 ((⟨[], [], [], 0⟩ : PayTable) : PayTable) p2 ∧ OSF 2002 60200 0 g w 23 58 (((⟨[], [], [], 0⟩ : PayTable)).Rows) p2 ∧ OSF 2002 60201 1 g w 3 58 (((⟨[], [], [], 0⟩ : PayTable)).Across) p2 ∧ OSF 2002 60202 2 g w 3 58 (((⟨[], [], [], 0⟩ : PayTable)).Down) p2 ∧ e 3 = (Value.pointer (some ⟨bk41, 0, none⟩)) ∧ OVb ow_PayTable 2003 g w 58 (d7 : PayTable) bk41 ∧ e 4 = .int .i64 (j6)) (fun X123 oF cD h => ?_) ?_
  ·refine E_seq (E_region (EL_mv l9 rfl ?_))
   refine EL_p (fPtr p1 0) (P_fieldAddr at_58_0 r8 (PT.ptr i7)) rfl ?_
   have uD := PT_field (part_PayTable_0).1 i7
   refine EL_do .plain rfl (D_load (g := bA) Tryz.isAgg56 Tryz.sizeOf56 rfl uD fun pF vD => ?_)
   refine EL_p (.int .i64 (((x0).Rows).length : Int)) (P_len Tryz.underlying56 rfl vD) rfl ?_
   refine EL_p (.bool ((decide (j6 < (((x0).Rows).length : Int))))) (P_int rfl rfl rfl) rfl ?_
   refine EL_nil (thn_n ?_)
   rcases csome h with ⟨k8, h⟩ | ⟨k8, h⟩
   ·refine E_ct k8 rfl ?_
    exact E_skip (thn_n (cD () _ _ ⟨bA, hfr, r8, i7, x8, a9, u2_0_119, u2_1_119, u2_2_119, d9, ⟨_, k9, g8⟩, l9⟩ h))
   ·refine E_cf k8 rfl ?_
    refine E_exit ?_
    refine thn_e ?_
    refine thn_e ?_
    refine blk_hit ?_
    obtain rfl := sinj h
    exact hQ _ _ ⟨bA, hfr, x8, a9, u2_0_119, u2_1_119, u2_2_119, d9, ⟨_, k9, g8⟩⟩
  ·rintro _ cF xD ⟨mB, hfr, n9, o0, nB, u3, u2_0_127, u2_1_127, u2_2_127, m7, ⟨x6, l5, y6⟩, u9⟩ h
   obtain ⟨y9, hx, h⟩ := bsome h
   refine E_join (fun e w => ∃ (g : Gh) , Fr gI wI g w ∧ e 1 = p1 ∧ PT g.m w (x0 : PayTable) p1 ∧ e 2 = p2 ∧ OB 2002 g w 58 ((⟨[], [], [], 0⟩ : PayTable) : PayTable) p2 ∧ OSF 2002 60200 0 g w 23 58 (((⟨[], [], [], 0⟩ : PayTable)).Rows) p2 ∧ OSF 2002 60201 1 g w 3 58 (((⟨[], [], [], 0⟩ : PayTable)).Across) p2 ∧ OSF 2002 60202 2 g w 3 58 (((⟨[], [], [], 0⟩ : PayTable)).Down) p2 ∧ e 3 = (Value.pointer (some ⟨bk41, 0, none⟩)) ∧ OVb ow_PayTable 2003 g w 58 (y9 : PayTable) bk41 ∧ e 4 = .int .i64 (j6)) (fun Q' hQ => ?_) (fun dF qF hR => ?_)
   ·replace h := hx
    clear hx
    refine E_block ?_
    refine L_loadH (x := .tmp 23) (Cxt.fld (Cxt.root ow_PayTable bk41) fl_PayTable_0 (d7) (x6)) rfl rfl (y6.1) Tryz.isAgg56 l5 fun eD => ?_
    have iA := PT_field (part_PayTable_0).1 o0
    refine L_load (x := .tmp 26) Tryz.isAgg56 Tryz.sizeOf56 iA fun oB l8 gD => ?_
    obtain ⟨rF, aB, h⟩ := bsome h
    have rA := PT_idx l8 aB
    refine L_load (x := .tmp 29) Tryz.isAgg23 Tryz.sizeOf23 rA fun yD yA iD => ?_
    obtain ⟨sF, jD, h⟩ := bsome h
    refine E_drawC (g := mB) (w := xD) (n := 10) [0, 1, 3, 4, 5, 6, 7] [2003] [0, 1, 2, 3, 4, 5, 6, 7, 8, 9] rfl mixed (by kernel_rfl) fun w_c172 hs hlt => ?_
    have hfr := hfr.ext hs
    have o0 := o0.ext hs
    have u2_0_127 := u2_0_127.ext hs
    have u2_1_127 := u2_1_127.ext hs
    have u2_2_127 := u2_2_127.ext hs
    have u3 := u3.ext hs
    have l5 := l5.ext hs
    clear hs
    refine CH_pur (c := (.pointer (some ⟨bk41, (0 + 0), none⟩))) rfl rfl .plain (P_fieldAddrH at_58_0 m7) ?_
    refine CH_ldO (n := 2003) (c := (hdrV (Prod.fst x6) ((d7).Rows).length)) rfl rfl .plain eD rfl rfl ?_
    refine CH_do rfl rfl .plain (D_buildSlice (g := mB) 3025 (xs := ([] : List Int)) (vs := []) Tryz.underlying23 Tryz.sizeOf3 Tryz.zeroValue3 rfl rfl .nil RVs.nil rfl rfl fun zD tF uF hs o176 vF hxt hfl => ?_)
    have hfr := hfr.stp hs
    have hlt := hlt.stp hs
    have o0 := o0.stp hs
    have u2_0_127 := u2_0_127.stp hs rfl
    have u2_1_127 := u2_1_127.stp hs rfl
    have u2_2_127 := u2_2_127.stp hs rfl
    have u3 := u3.stp hs rfl
    have l5 := l5.stp hs rfl
    refine ⟨hlt.toW, ?_⟩
    refine CH_pur (c := fPtr p1 0) rfl rfl .plain (P_fieldAddr at_58_0 n9 (PT.ptr o0)) ?_
    have iA := iA.ch hlt.1
    refine CH_ldP (c := oB) rfl rfl .plain gD rfl ?_
    have l8 := l8.ch hlt.1
    refine CH_pur (c := .int .i64 (j6)) rfl rfl .plain (P_move u9) ?_
    refine CH_pur (c := ePtr oB j6 1) rfl rfl .plain (P_indexAddr (α := List Int) Tryz.underlying56 Tryz.sizeOf23 rfl l8 rfl aB) ?_
    have rA := rA.ch hlt.1
    refine CH_ldP (c := yD) rfl rfl .plain iD rfl ?_
    have yA := yA.ch hlt.1
    have oa182 := OA.ofOS o176
    refine CH_do rfl rfl .plain (D_appendA (g := zD) plain_int (i := 3025) Tryz.underlying23 info_3 rfl rfl oa182 rfl yA jD fun aE xF yF hs b182 => ?_)
    have hfr := hfr.stp hs
    have hlt := hlt.stp hs
    have o0 := o0.stp hs
    have u2_0_127 := u2_0_127.stp hs rfl
    have u2_1_127 := u2_1_127.stp hs rfl
    have u2_2_127 := u2_2_127.stp hs rfl
    have u3 := u3.stp hs rfl
    have l5 := l5.stp hs rfl
    refine ⟨hlt.toW, ?_⟩
    obtain ⟨sk184, ow184, ok184⟩ := OA.toW b182
    refine CH_do rfl rfl .plain (D_buildSliceW (g := aE) (E := (Ow.list 3 (Ow.sh Int))) Tryz.underlying56 Tryz.sizeOf23 Tryz.zeroValue23 rfl rfl rfl rfl ow184 ok184 fun zF bE b184 hs bw184 bk184 => ?_)
    have hfr := hfr.stp hs
    have hlt := hlt.stp hs
    have o0 := o0.stp hs
    have u2_0_127 := u2_0_127.stp hs rfl
    have u2_1_127 := u2_1_127.stp hs rfl
    have u2_2_127 := u2_2_127.stp hs rfl
    have u3 := u3.stp hs rfl
    have l5 := l5.stp hs rfl
    refine ⟨hlt.toW, ?_⟩
    refine CH_nil ?_
    clear hlt
    obtain ⟨gt185, hs, b185, wt185⟩ := OV.take l5 (Cxt.fld (Cxt.root ow_PayTable bk41) fl_PayTable_0 (d7) (x6)) rfl rfl (y6.1) 704185 rfl
    have hfr := hfr.stp hs
    have o0 := o0.stp hs
    have u2_0_127 := u2_0_127.stp hs rfl
    have u2_1_127 := u2_1_127.stp hs rfl
    have u2_2_127 := u2_2_127.stp hs rfl
    have u3 := u3.stp hs rfl
    have bw184 := bw184.stp hs rfl
    replace b185 : OV ow_PayTable 2003 gt185 bE 58 (({ d7 with Rows := [] } : PayTable) : PayTable) bk41 (Sl.hole, Prod.snd x6) := b185
    obtain ⟨cE, lD, h⟩ := bsome h
    refine EL_do .plain rfl (D_appendW (g := gt185) Tryz.underlying56 info_23 rfl rfl wt185 (y6.1) rfl bw184 bk184 (by exact Nat.le_refl 1) rfl lD fun gm186 dE aG bG sk186 hs hs2 bw186 bk186 => ?_)
    have hfr := hfr.stp hs
    have o0 := o0.stp hs
    have u2_0_127 := u2_0_127.stp hs rfl
    have u2_1_127 := u2_1_127.stp hs rfl
    have u2_2_127 := u2_2_127.stp hs rfl
    have u3 := u3.stp hs rfl
    have b185 := b185.stp hs rfl
    clear hs
    have hs := hs2
    have hfr := hfr.stp hs
    have o0 := o0.stp hs
    have u2_0_127 := u2_0_127.stp hs rfl
    have u2_1_127 := u2_1_127.stp hs rfl
    have u2_2_127 := u2_2_127.stp hs rfl
    have u3 := u3.stp hs rfl
    have b185 := b185.stp hs rfl
    clear hs2
    refine EL_p ((.pointer (some ⟨bk41, (0 + 0), none⟩))) (P_fieldAddrH at_58_0 m7) rfl ?_
    refine EL_do .plain rfl (D_storeW (g := dE) (Cxt.fld (Cxt.root ow_PayTable bk41) fl_PayTable_0 (({ d7 with Rows := [] } : PayTable)) ((Sl.hole, Prod.snd x6))) rfl rfl Tryz.sizeOf56 rfl b185 rfl bw186 rfl fun gj191 tB eE hsa hsb b191 => ?_)
    have hfr := hfr.stp hsa
    have o0 := o0.stp hsa
    have u2_0_127 := u2_0_127.stp hsa rfl
    have u2_1_127 := u2_1_127.stp hsa rfl
    have u2_2_127 := u2_2_127.stp hsa rfl
    have u3 := u3.stp hsa rfl
    have hfr := hfr.stp hsb
    have o0 := o0.stp hsb
    have u2_0_127 := u2_0_127.stp hsb rfl
    have u2_1_127 := u2_1_127.stp hsb rfl
    have u2_2_127 := u2_2_127.stp hsb rfl
    have u3 := u3.stp hsb rfl
    clear hsa hsb
    replace b191 : OV ow_PayTable 2003 tB eE 58 (({ (({ d7 with Rows := [] } : PayTable)) with Rows := cE } : PayTable) : PayTable) bk41 (sk186, Prod.snd (Sl.hole, Prod.snd x6)) := b191
    refine EL_nil (blk_n ?_)
    obtain rfl := sinj h
    exact hQ _ _ ⟨tB, hfr, n9, o0, nB, u3, u2_0_127, u2_1_127, u2_2_127, m7, ⟨_, b191, ⟨bk186, ⟨((y6.2).1), ⟨(((y6.2).2).1), (((y6.2).2).2)⟩⟩⟩⟩, u9⟩
   ·clear hx
    obtain ⟨iE, hfr, vB, yB, zB, cC, u2_0_192, u2_1_192, u2_2_192, eC, ⟨kE, mC, dB⟩, qC⟩ := hR
    refine E_region (EL_mv qC rfl ?_)
    refine EL_in (.int .i64 ((w64 (j6 + (1 : Int))))) rfl rfl rfl rfl ?_
    refine EL_at (.int .i64 ((w64 (j6 + (1 : Int))))) rfl rfl ?_
    exact EL_nil (thn_n (bD (y9, (w64 (j6 + (1 : Int)))) _ _ ⟨iE, hfr, vB, yB, zB, cC, u2_0_192, u2_1_192, u2_2_192, eC, ⟨_, mC, dB⟩, rfl⟩ h))
 ·clear hx
  obtain ⟨rC, hfr, z9, uC, u2_0_193, u2_1_193, u2_2_193, vC, ⟨lE, aD, iB⟩⟩ := hR
  refine E_seq (E_region (EL_do .plain rfl (D_loadW (g := rC) Tryz.isAgg58 Tryz.sizeOf58 vC aD rfl fun cG mD => ?_)))
  refine EL_do .plain rfl (D_storeOW (g := rC) Tryz.sizeOf58 z9 uC rfl mD rfl fun gj196 eG gG bk196 hsa hsb hpp b196 => ?_)
  have hfr := hfr.stp hsa
  have hfr := hfr.stp hsb
  clear hsa hsb
  subst hpp
  refine EL_nil (thn_n (E_ret ?_))
  obtain rfl := sinj h
  obtain ⟨hG, nD, ow197⟩ := OV.read (t := 58) Tryz.isAgg58 Tryz.sizeOf58 b196 rfl
  obtain ⟨gh, hxh, _, homh⟩ := OW.hand (i := iO) hfr ow197 iB
  exact endm_c rfl rfl (show _ = (Value.pointer (some ⟨bk196, 0, none⟩)) from z9) nD ⟨gh, hxh, homh⟩
def f78 (x0 : Int) (z0 : Int) (z1 : Int) : Option (Bool) :=
 Option.bind (α := Bool) (
  bif (decide (x0 < z0)) then
   some (true)
  else
   some ((decide (x0 > z1)))
  ) fun o0 =>
 some (o0)
theorem en78 : Enters Tryz.prog 78 := enters_of Tryz.func78 (by kernel_rfl) rfl
theorem wk78 {gI : Gh} {wI : World} {x0 : Int} {z0 : Int} {z1 : Int} {pf0 : Value} (qf0 : PT gI.m wI z0 pf0) {pf1 : Value} (qf1 : PT gI.m wI z1 pf1) {r : Bool} (h : f78 x0 z0 z1 = some r) : Fn Tryz.prog 78 #[.int .i64 (x0), pf0, pf1] gI wI (fun _ _ v => v = .bool (r)) := by
 unfold f78 at h
 refine fn_of_E Tryz.func78 rfl (Nat.le_of_ble_eq_true rfl) fun g0 hm hfr => ?_
 have qf0 : PT g0.m wI z0 pf0 := hm ▸ qf0
 have qf1 : PT g0.m wI z1 pf1 := hm ▸ qf1
 show E _ 13 none _ _ _ _ _
 refine E_seq (E_region (EL_at (.bool false) rfl rfl ?_))
 refine EL_nil (thn_n ?_)
 obtain ⟨o0, hx, h⟩ := bsome h
 refine E_join (fun e w => ∃ (g : Gh) , Fr gI wI g w ∧ e 4 = .bool (o0)) (fun Q' hQ => ?_) (fun l5 w7 hR => ?_)
 ·replace h := hx
  clear hx
  refine E_region (EL_mw (.int .i64 (x0)) rfl rfl ?_)
  refine EL_do .plain rfl (D_load (g := g0) Tryz.isAgg3 Tryz.sizeOf3 rfl qf0 fun v4 r4 => ?_)
  obtain rfl := RV_int.1 r4
  refine EL_in (.bool ((decide (x0 < z0)))) rfl rfl rfl rfl ?_
  refine EL_mw (.bool ((decide (x0 < z0)))) rfl rfl ?_
  rcases csome h with ⟨hc5, h⟩ | ⟨hc5, h⟩
  ·refine EL_s rfl rfl hc5 rfl rfl ?_
   refine EL_s rfl rfl hc5 rfl rfl ?_
   refine EL_s rfl rfl hc5 rfl rfl ?_
   refine EL_p (.bool true) (P_pick (b := (decide (x0 < z0))) rfl (pick_t hc5 rfl)) rfl ?_
   refine EL_at (.bool true) rfl rfl ?_
   refine EL_nil ?_
   obtain rfl := sinj h
   exact hQ _ _ ⟨g0, hfr, rfl⟩
  ·refine EL_y (.int .i64 (x0)) (P_move rfl) rfl rfl hc5 rfl ?_
   refine EL_do (.yes2 rfl rfl hc5) rfl (D_load (g := g0) Tryz.isAgg3 Tryz.sizeOf3 rfl qf1 fun v6 r6 => ?_)
   obtain rfl := RV_int.1 r6
   refine EL_y (.bool ((decide (x0 > z1)))) (P_int rfl rfl rfl) rfl rfl hc5 rfl ?_
   refine EL_p (.bool ((decide (x0 > z1)))) (P_pick (b := (decide (x0 < z0))) rfl (pick_f hc5 rfl)) rfl ?_
   refine EL_at (.bool ((decide (x0 > z1)))) rfl rfl ?_
   refine EL_nil ?_
   obtain rfl := sinj h
   exact hQ _ _ ⟨g0, hfr, rfl⟩
 ·clear hx
  obtain ⟨g7, hfr, u3⟩ := hR
  refine E_ret ?_
  obtain rfl := sinj h
  exact end1 rfl rfl (show _ = .bool (o0) from u3) ⟨_, hfr, rfl⟩
def f87 (x0 : PaySheet) : Option ((List PayPlace)) :=
 Option.bind (α := (List PayPlace)) (
  lp (σ := (List PayPlace) × Int) (fun aE (x8, o0) =>
   bif (decide (o0 < ((((x0).PayTable).Rows).length : Int))) then
    Option.bind (α := (List PayPlace)) (
     (idx (((x0).PayTable).Rows) o0).bind fun x6 =>
     lp (σ := (List PayPlace) × Int) (fun bE (k8, u3) =>
      bif (decide (u3 < ((x6).length : Int))) then
       Option.bind (α := (List PayPlace)) (
        (idx x6 u3).bind fun u9 =>
        bif (u9 == (-1 : Int)) then
         (apnd 16 k8 (([(⟨o0, u3⟩ : PayPlace)] : List PayPlace))).bind fun eC =>
         some (eC)
        else
         some (k8)
        ) fun x5 =>
       bE (x5, (w64 (u3 + (1 : Int))))
      else
       some (k8)
      ) big (x8, (0 : Int))
     ) fun i6 =>
    aE (i6, (w64 (o0 + (1 : Int))))
   else
    some (x8)
   ) big ([], (0 : Int))
  ) fun y6 =>
 some (y6)
theorem en87 : Enters Tryz.prog 87 := enters_of Tryz.func87 (by kernel_rfl) rfl
theorem wk87 {gI : Gh} {wI : World} {x0 : PaySheet} {up0 : Value} (rp0 : RV gI.m wI x0 up0) {r : (List PayPlace)} (h : f87 x0 = some r) : Fn Tryz.prog 87 #[up0] gI wI (fun m w v => RV m w (r) v) := by
 unfold f87 at h
 refine fn_of_E Tryz.func87 rfl (Nat.le_of_ble_eq_true rfl) fun g0 hm hfr => ?_
 have rp0 : RV g0.m wI x0 up0 := hm ▸ rp0
 show E _ 34 none _ _ _ _ _
 refine E_seq (E_region (EL_do .plain rfl (D_box (g := g0) rfl rp0 fun g1 w1 p1 hs q1 => ?_)))
 have hfr := hfr.ext hs
 refine EL_at (.slice none 0 0) rfl rfl ?_
 refine EL_nil (thn_n ?_)
 obtain ⟨y6, hx, h⟩ := bsome h
 refine E_join (fun e w => ∃ (g : Gh) (v2 : Value), Fr gI wI g w ∧ e 2 = v2 ∧ RV g.m w (y6 : List PayPlace) v2 ∧ OS 1002 g w 165 (y6 : List PayPlace) v2) (fun Q' hQ => ?_) (fun zE eF hR => ?_)
 ·replace h := hx
  clear hx
  refine E_seq (E_region (EL_p (fPtr p1 0) (P_fieldAddr at_132_0 rfl (PT.ptr q1)) rfl ?_))
  have cE := PT_field (part_PaySheet_0).1 q1
  refine EL_p (fPtr (fPtr p1 0) 0) (P_fieldAddr at_58_0 rfl (PT.ptr cE)) rfl ?_
  have uE := PT_field (part_PayTable_0).1 cE
  refine EL_do .plain rfl (D_load (g := g1) Tryz.isAgg56 Tryz.sizeOf56 rfl uE fun d7 dE => ?_)
  refine EL_p (.int .i64 ((((x0).PayTable).Rows).length : Int)) (P_len Tryz.underlying56 rfl dE) rfl ?_
  refine EL_mw (.int .i64 (0)) rfl rfl ?_
  refine EL_nil (thn_n (E_block ?_))
  refine E_lp h (fun (s : (List PayPlace) × Int) e w => ∃ (g : Gh) (v2 : Value), Fr gI wI g w ∧ e 2 = v2 ∧ RV g.m w (s.1 : List PayPlace) v2 ∧ OS 1002 g w 165 (s.1 : List PayPlace) v2 ∧ e 9 = d7 ∧ RV g.m w (((x0).PayTable).Rows : List (List Int)) d7 ∧ e 10 = .int .i64 (((((x0).PayTable).Rows).length : Int)) ∧ e 11 = .int .i64 (s.2)) ⟨g1, (.slice none 0 0), hfr, rfl, RV_nil, OS.nil, rfl, dE, rfl, rfl⟩ (fun X58 aE iE => ?_)
  rintro ⟨x8, o0⟩ iF vF ⟨mC, yA, hfr, aB, dB, iB, jB, a9, y9, i7⟩ h
  refine E_seq (E_region (EL_p (.bool ((decide (o0 < ((((x0).PayTable).Rows).length : Int))))) (P_int i7 y9 rfl) rfl ?_))
  refine EL_nil (thn_n (E_seq ?_))
  rcases csome h with ⟨iA, h⟩ | ⟨iA, h⟩
  ·refine E_ct iA rfl ?_
   refine E_skip (thn_n ?_)
   obtain ⟨i6, hx, h⟩ := bsome h
   refine E_join (fun e w => ∃ (g : Gh) (v2 : Value), Fr gI wI g w ∧ e 2 = v2 ∧ RV g.m w (i6 : List PayPlace) v2 ∧ OS 1002 g w 165 (i6 : List PayPlace) v2 ∧ e 9 = d7 ∧ RV g.m w (((x0).PayTable).Rows : List (List Int)) d7 ∧ e 10 = .int .i64 (((((x0).PayTable).Rows).length : Int)) ∧ e 11 = .int .i64 (o0)) (fun Q' hQ => ?_) (fun cF nF hR => ?_)
   ·replace h := hx
    clear hx
    refine E_block ?_
    refine E_seq (E_region (EL_mv i7 rfl ?_))
    obtain ⟨x6, qC, h⟩ := bsome h
    refine EL_p (ePtr d7 o0 1) (P_indexAddr (α := List Int) Tryz.underlying56 Tryz.sizeOf23 jB a9 i7 qC) rfl ?_
    have vE := PT_idx a9 qC
    refine EL_do .plain rfl (D_load (g := mC) Tryz.isAgg23 Tryz.sizeOf23 rfl vE fun l8 eE => ?_)
    refine EL_at (.int .i64 (o0)) rfl rfl ?_
    refine EL_at l8 rfl rfl ?_
    refine EL_nil (thn_n (E_seq (E_region (EL_mw l8 rfl rfl ?_))))
    refine EL_p (.int .i64 ((x6).length : Int)) (P_len Tryz.underlying23 rfl eE) rfl ?_
    refine EL_mw (.int .i64 (0)) rfl rfl ?_
    refine EL_nil (thn_n (E_block ?_))
    refine E_lp h (fun (s : (List PayPlace) × Int) e w => ∃ (g : Gh) (v2 : Value), Fr gI wI g w ∧ e 2 = v2 ∧ RV g.m w (s.1 : List PayPlace) v2 ∧ OS 1002 g w 165 (s.1 : List PayPlace) v2 ∧ e 3 = .int .i64 (o0) ∧ e 9 = d7 ∧ RV g.m w (((x0).PayTable).Rows : List (List Int)) d7 ∧ e 10 = .int .i64 (((((x0).PayTable).Rows).length : Int)) ∧ e 11 = .int .i64 (o0) ∧ e 16 = l8 ∧ RV g.m w (x6 : List Int) l8 ∧ e 17 = .int .i64 (((x6).length : Int)) ∧ e 18 = .int .i64 (s.2)) ⟨mC, (yA), hfr, aB, dB, iB, rfl, jB, a9, y9, i7, rfl, eE, rfl, rfl⟩ (fun X88 bE jE => ?_)
    rintro ⟨k8, u3⟩ oF xE ⟨z9, lB, hfr, d9, m7, g8, k9, l9, t5, m8, n8, r8, l5, v8, j6⟩ h
    refine E_seq (E_region (EL_in (.bool ((decide (u3 < ((x6).length : Int))))) j6 v8 rfl rfl ?_))
    refine EL_nil (thn_n (E_seq ?_))
    rcases csome h with ⟨rA, h⟩ | ⟨rA, h⟩
    ·refine E_ct rA rfl ?_
     refine E_skip (thn_n ?_)
     obtain ⟨x5, hx, h⟩ := bsome h
     refine E_join (fun e w => ∃ (g : Gh) (v2 : Value), Fr gI wI g w ∧ e 2 = v2 ∧ RV g.m w (x5 : List PayPlace) v2 ∧ OS 1002 g w 165 (x5 : List PayPlace) v2 ∧ e 3 = .int .i64 (o0) ∧ e 9 = d7 ∧ RV g.m w (((x0).PayTable).Rows : List (List Int)) d7 ∧ e 10 = .int .i64 (((((x0).PayTable).Rows).length : Int)) ∧ e 11 = .int .i64 (o0) ∧ e 16 = l8 ∧ RV g.m w (x6 : List Int) l8 ∧ e 17 = .int .i64 (((x6).length : Int)) ∧ e 18 = .int .i64 (u3)) (fun Q' hQ => ?_) (fun dF pF hR => ?_)
     ·replace h := hx
      clear hx
      refine E_block ?_
      refine E_seq (E_region (EL_mv j6 rfl ?_))
      obtain ⟨u9, rC, h⟩ := bsome h
      refine EL_p (ePtr l8 u3 1) (P_indexAddr (α := Int) Tryz.underlying23 Tryz.sizeOf3 r8 l5 j6 rC) rfl ?_
      have kE := PT_idx l5 rC
      refine EL_do .plain rfl (D_load (g := z9) Tryz.isAgg3 Tryz.sizeOf3 rfl kE fun qF lE => ?_)
      obtain rfl := RV_int.1 lE
      refine EL_at (.int .i64 (u3)) rfl rfl ?_
      refine EL_at (.int .i64 (u9)) rfl rfl ?_
      refine EL_nil (thn_n (E_seq (E_region (EL_mw (.int .i64 (u9)) rfl rfl ?_))))
      refine EL_in (.bool ((u9 == (-1 : Int)))) rfl rfl rfl rfl ?_
      refine EL_nil (thn_n ?_)
      rcases csome h with ⟨n9, h⟩ | ⟨n9, h⟩
      ·refine E_ct n9 rfl ?_
       refine E_region (EL_mv d9 rfl ?_)
       refine EL_mv k9 rfl ?_
       refine EL_mw (.int .i64 (u3)) rfl rfl ?_
       have uC : RV z9.m xE (⟨o0, u3⟩ : PayPlace) (.agg (setCh [[.int .i64 0], [.int .i64 0]] [(0, .int .i64 (o0)), (1, .int .i64 (u3))]).flatten.toArray) := RV_build rfl (rep_pair (rfl) (rep_last (rfl)))
       generalize yD : (Value.agg (setCh [[.int .i64 0], [.int .i64 0]] [(0, .int .i64 (o0)), (1, .int .i64 (u3))]).flatten.toArray) = vC at uC
       refine EL_p vC (yD ▸ P_build (vs := [(0, .int .i64 (o0)), (1, .int .i64 (u3))]) [[.int .i64 0], [.int .i64 0]] lay_165 rfl rfl (.cons rfl (.cons rfl .nil)) ⟨⟨_, rfl, rfl⟩, ⟨⟨_, rfl, rfl⟩, trivial⟩⟩) rfl ?_
       refine EL_do .plain rfl (D_buildSlice (g := z9) 3029 (xs := ([(⟨o0, u3⟩ : PayPlace)] : List PayPlace)) (vs := [vC]) Tryz.underlying138 Tryz.sizeOf165 Tryz.zeroValue165 rfl rfl (.cons rfl .nil) (RVs.cons uC RVs.nil) rfl rfl fun mE rF sF hs o104 nE hxt hfl => ?_)
       have hfr := hfr.stp hs
       have m7 := m7.stp hs
       have g8 := g8.stp hs rfl
       have t5 := t5.stp hs
       have l5 := l5.stp hs
       obtain ⟨eC, zD, h⟩ := bsome h
       refine EL_do .plain rfl (D_append (g := mE) (i := 1002) Tryz.underlying138 info_165 rfl rfl g8 m7 rfl nE zD fun oE tF aD hs o105 rE _ => ?_)
       have hfr := hfr.stp hs
       have t5 := t5.stp hs
       have l5 := l5.stp hs
       refine EL_at aD rfl rfl ?_
       refine EL_nil (blk_n ?_)
       obtain rfl := sinj h
       exact hQ _ _ ⟨oE, (aD), hfr, rfl, rE, o105, k9, l9, t5, m8, n8, r8, l5, v8, j6⟩
      ·refine E_cf n9 rfl ?_
       refine E_skip (blk_n ?_)
       obtain rfl := sinj h
       exact hQ _ _ ⟨z9, (lB), hfr, d9, m7, g8, k9, l9, t5, m8, n8, r8, l5, v8, j6⟩
     ·clear hx
      obtain ⟨sE, bD, hfr, cD, eD, gD, iD, jD, lD, mB, nB, oB, tB, vB, yB⟩ := hR
      refine E_region (EL_in (.int .i64 ((w64 (u3 + (1 : Int))))) yB rfl rfl rfl ?_)
      refine EL_mw (.int .i64 ((w64 (u3 + (1 : Int))))) rfl rfl ?_
      exact EL_nil (thn_n (jE (x5, (w64 (u3 + (1 : Int)))) _ _ ⟨sE, (bD), hfr, cD, eD, gD, iD, jD, lD, mB, nB, oB, tB, vB, rfl⟩ h))
    ·refine E_cf rA rfl ?_
     refine E_exit ?_
     refine thn_e ?_
     refine thn_e ?_
     refine blk_hit ?_
     refine blk_n ?_
     obtain rfl := sinj h
     exact hQ _ _ ⟨z9, (lB), hfr, d9, m7, g8, l9, t5, m8, n8⟩
   ·clear hx
    obtain ⟨tE, mD, hfr, nD, oD, sD, tD, uD, zB, cC⟩ := hR
    refine E_region (EL_in (.int .i64 ((w64 (o0 + (1 : Int))))) cC rfl rfl rfl ?_)
    refine EL_mw (.int .i64 ((w64 (o0 + (1 : Int))))) rfl rfl ?_
    exact EL_nil (thn_n (iE (i6, (w64 (o0 + (1 : Int)))) _ _ ⟨tE, (mD), hfr, nD, oD, sD, tD, uD, zB, rfl⟩ h))
  ·refine E_cf iA rfl ?_
   refine E_exit ?_
   refine thn_e ?_
   refine thn_e ?_
   refine blk_hit ?_
   obtain rfl := sinj h
   exact hQ _ _ ⟨mC, (yA), hfr, aB, dB, iB⟩
 ·clear hx
  obtain ⟨uF, bA, hfr, vD, xD, yE⟩ := hR
  refine E_seq (E_region (EL_mv vD rfl ?_))
  refine EL_at bA rfl rfl ?_
  refine EL_nil (thn_n (E_ret ?_))
  obtain rfl := sinj h
  exact end1 rfl rfl (show _ = bA from rfl) ⟨_, hfr, xD⟩
def f89 (x0 : List Int) : Option (Int) :=
 Option.bind (α := Int) (
  lp (σ := Int × Int) (fun x8 (u3, o0) =>
   bif (decide (o0 < ((x0).length : Int))) then
    Option.bind (α := Int) (
     (idx x0 o0).bind fun x5 =>
     some ((w64 (u3 + x5)))
     ) fun t5 =>
    x8 (t5, (w64 (o0 + (1 : Int))))
   else
    some (u3)
   ) big ((0 : Int), (0 : Int))
  ) fun l5 =>
 some (l5)
theorem en89 : Enters Tryz.prog 89 := enters_of Tryz.func89 (by kernel_rfl) rfl
theorem wk89 {gI : Gh} {wI : World} {x0 : List Int} {up0 : Value} (rp0 : RV gI.m wI x0 up0) {r : Int} (h : f89 x0 = some r) : Fn Tryz.prog 89 #[up0] gI wI (fun _ _ v => v = .int .i64 (r)) := by
 unfold f89 at h
 refine fn_of_E Tryz.func89 rfl (Nat.le_of_ble_eq_true rfl) fun g0 hm hfr => ?_
 have rp0 : RV g0.m wI x0 up0 := hm ▸ rp0
 show E _ 16 none _ _ _ _ _
 refine E_seq (E_region (EL_at (.int .i64 (0)) rfl rfl ?_))
 refine EL_nil (thn_n ?_)
 obtain ⟨l5, hx, h⟩ := bsome h
 refine E_join (fun e w => ∃ (g : Gh) , Fr gI wI g w ∧ e 2 = .int .i64 (l5)) (fun Q' hQ => ?_) (fun n9 z9 hR => ?_)
 ·replace h := hx
  clear hx
  refine E_seq (E_region (EL_mw up0 rfl rfl ?_))
  refine EL_p (.int .i64 ((x0).length : Int)) (P_len Tryz.underlying23 rfl rp0) rfl ?_
  refine EL_mw (.int .i64 (0)) rfl rfl ?_
  refine EL_nil (thn_n (E_block ?_))
  refine E_lp h (fun (s : Int × Int) e w => ∃ (g : Gh) , Fr gI wI g w ∧ e 2 = .int .i64 (s.1) ∧ e 5 = up0 ∧ RV g.m w (x0 : List Int) up0 ∧ e 6 = .int .i64 (((x0).length : Int)) ∧ e 7 = .int .i64 (s.2)) ⟨g0, hfr, rfl, rfl, rp0, rfl, rfl⟩ (fun X11 x8 a9 => ?_)
  rintro ⟨u3, o0⟩ u9 bA ⟨m7, hfr, y6, d7, i6, i7, j6⟩ h
  refine E_seq (E_region (EL_in (.bool ((decide (o0 < ((x0).length : Int))))) j6 i7 rfl rfl ?_))
  refine EL_nil (thn_n (E_seq ?_))
  rcases csome h with ⟨x6, h⟩ | ⟨x6, h⟩
  ·refine E_ct x6 rfl ?_
   refine E_skip (thn_n ?_)
   obtain ⟨t5, hx, h⟩ := bsome h
   refine E_join (fun e w => ∃ (g : Gh) , Fr gI wI g w ∧ e 2 = .int .i64 (t5) ∧ e 5 = up0 ∧ RV g.m w (x0 : List Int) up0 ∧ e 6 = .int .i64 (((x0).length : Int)) ∧ e 7 = .int .i64 (o0)) (fun Q' hQ => ?_) (fun y9 iA hR => ?_)
   ·replace h := hx
    clear hx
    refine E_block ?_
    refine E_seq (E_region ?_)
    obtain ⟨x5, g8, h⟩ := bsome h
    refine EL_p (ePtr up0 o0 1) (P_indexAddr (α := Int) Tryz.underlying23 Tryz.sizeOf3 d7 i6 j6 g8) rfl ?_
    have d9 := PT_idx i6 g8
    refine EL_do .plain rfl (D_load (g := m7) Tryz.isAgg3 Tryz.sizeOf3 rfl d9 fun rA k9 => ?_)
    obtain rfl := RV_int.1 k9
    refine EL_at (.int .i64 (x5)) rfl rfl ?_
    refine EL_nil (thn_n (E_region (EL_mv y6 rfl ?_)))
    refine EL_mw (.int .i64 (x5)) rfl rfl ?_
    refine EL_in (.int .i64 ((w64 (u3 + x5)))) rfl rfl rfl rfl ?_
    refine EL_at (.int .i64 ((w64 (u3 + x5)))) rfl rfl ?_
    refine EL_nil (blk_n ?_)
    obtain rfl := sinj h
    exact hQ _ _ ⟨m7, hfr, rfl, d7, i6, i7, j6⟩
   ·clear hx
    obtain ⟨l9, hfr, k8, l8, m8, n8, r8⟩ := hR
    refine E_region (EL_in (.int .i64 ((w64 (o0 + (1 : Int))))) r8 rfl rfl rfl ?_)
    refine EL_mw (.int .i64 ((w64 (o0 + (1 : Int))))) rfl rfl ?_
    exact EL_nil (thn_n (a9 (t5, (w64 (o0 + (1 : Int)))) _ _ ⟨l9, hfr, k8, l8, m8, n8, rfl⟩ h))
  ·refine E_cf x6 rfl ?_
   refine E_exit ?_
   refine thn_e ?_
   refine thn_e ?_
   refine blk_hit ?_
   obtain rfl := sinj h
   exact hQ _ _ ⟨m7, hfr, y6⟩
 ·clear hx
  obtain ⟨yA, hfr, v8⟩ := hR
  refine E_seq (E_region (EL_mv v8 rfl ?_))
  refine EL_at (.int .i64 (l5)) rfl rfl ?_
  refine EL_nil (thn_n (E_ret ?_))
  obtain rfl := sinj h
  exact end1 rfl rfl (show _ = .int .i64 (l5) from rfl) ⟨_, hfr, rfl⟩
def f97 (x0 : PaySheet) (x1 : Int) : Option ((List Int)) :=
 Option.bind (α := (List Int)) (
  lp (σ := (List Int) × Int) (fun aB (x6, o0) =>
   bif (decide (o0 < ((((x0).PayTable).Rows).length : Int))) then
    Option.bind (α := (List Int)) (
     (idx (((x0).PayTable).Rows) o0).bind fun dB =>
     (idx dB x1).bind fun m7 =>
     (apnd 8 x6 (([m7] : List Int))).bind fun iB =>
     some (iB)
     ) fun l5 =>
    aB (l5, (w64 (o0 + (1 : Int))))
   else
    some (x6)
   ) big ([], (0 : Int))
  ) fun t5 =>
 some (t5)
theorem en97 : Enters Tryz.prog 97 := enters_of Tryz.func97 (by kernel_rfl) rfl
theorem wk97 {gI : Gh} {wI : World} {x0 : PaySheet} {x1 : Int} {up0 : Value} (rp0 : RV gI.m wI x0 up0) {r : (List Int)} (h : f97 x0 x1 = some r) : Fn Tryz.prog 97 #[up0, .int .i64 (x1)] gI wI (fun m w v => RV m w (r) v) := by
 unfold f97 at h
 refine fn_of_E Tryz.func97 rfl (Nat.le_of_ble_eq_true rfl) fun g0 hm hfr => ?_
 have rp0 : RV g0.m wI x0 up0 := hm ▸ rp0
 show E _ 24 none _ _ _ _ _
 refine E_seq (E_region (EL_do .plain rfl (D_box (g := g0) rfl rp0 fun g1 w1 p1 hs q1 => ?_)))
 have hfr := hfr.ext hs
 refine EL_at (.slice none 0 0) rfl rfl ?_
 refine EL_nil (thn_n ?_)
 obtain ⟨t5, hx, h⟩ := bsome h
 refine E_join (fun e w => ∃ (g : Gh) (v4 : Value), Fr gI wI g w ∧ e 4 = v4 ∧ RV g.m w (t5 : List Int) v4 ∧ OS 1004 g w 3 (t5 : List Int) v4) (fun Q' hQ => ?_) (fun aD eD hR => ?_)
 ·replace h := hx
  clear hx
  refine E_seq (E_region (EL_p (fPtr p1 0) (P_fieldAddr at_132_0 rfl (PT.ptr q1)) rfl ?_))
  have jB := PT_field (part_PaySheet_0).1 q1
  refine EL_p (fPtr (fPtr p1 0) 0) (P_fieldAddr at_58_0 rfl (PT.ptr jB)) rfl ?_
  have vB := PT_field (part_PayTable_0).1 jB
  refine EL_do .plain rfl (D_load (g := g1) Tryz.isAgg56 Tryz.sizeOf56 rfl vB fun y6 lB => ?_)
  refine EL_p (.int .i64 ((((x0).PayTable).Rows).length : Int)) (P_len Tryz.underlying56 rfl lB) rfl ?_
  refine EL_mw (.int .i64 (0)) rfl rfl ?_
  refine EL_nil (thn_n (E_block ?_))
  refine E_lp h (fun (s : (List Int) × Int) e w => ∃ (g : Gh) (v4 : Value), Fr gI wI g w ∧ e 1 = .int .i64 (x1) ∧ e 4 = v4 ∧ RV g.m w (s.1 : List Int) v4 ∧ OS 1004 g w 3 (s.1 : List Int) v4 ∧ e 9 = y6 ∧ RV g.m w (((x0).PayTable).Rows : List (List Int)) y6 ∧ e 10 = .int .i64 (((((x0).PayTable).Rows).length : Int)) ∧ e 11 = .int .i64 (s.2)) ⟨g1, (.slice none 0 0), hfr, rfl, rfl, RV_nil, OS.nil, rfl, lB, rfl, rfl⟩ (fun X30 aB oB => ?_)
  rintro ⟨x6, o0⟩ bD gD ⟨g8, k9, hfr, k8, l8, x5, i6, m8, u3, d7, j6⟩ h
  refine E_seq (E_region (EL_p (.bool ((decide (o0 < ((((x0).PayTable).Rows).length : Int))))) (P_int j6 d7 rfl) rfl ?_))
  refine EL_nil (thn_n (E_seq ?_))
  rcases csome h with ⟨i7, h⟩ | ⟨i7, h⟩
  ·refine E_ct i7 rfl ?_
   refine E_skip (thn_n ?_)
   obtain ⟨l5, hx, h⟩ := bsome h
   refine E_join (fun e w => ∃ (g : Gh) (v4 : Value), Fr gI wI g w ∧ e 1 = .int .i64 (x1) ∧ e 4 = v4 ∧ RV g.m w (l5 : List Int) v4 ∧ OS 1004 g w 3 (l5 : List Int) v4 ∧ e 9 = y6 ∧ RV g.m w (((x0).PayTable).Rows : List (List Int)) y6 ∧ e 10 = .int .i64 (((((x0).PayTable).Rows).length : Int)) ∧ e 11 = .int .i64 (o0)) (fun Q' hQ => ?_) (fun cD iD hR => ?_)
   ·replace h := hx
    clear hx
    refine E_block ?_
    refine E_seq (E_region ?_)
    obtain ⟨dB, r8, h⟩ := bsome h
    refine EL_p (ePtr y6 o0 1) (P_indexAddr (α := List Int) Tryz.underlying56 Tryz.sizeOf23 m8 u3 j6 r8) rfl ?_
    have yB := PT_idx u3 r8
    refine EL_do .plain rfl (D_load (g := g8) Tryz.isAgg23 Tryz.sizeOf23 rfl yB fun v8 mB => ?_)
    refine EL_at v8 rfl rfl ?_
    refine EL_nil (thn_n (E_region (EL_mv l8 rfl ?_)))
    refine EL_mw v8 rfl rfl ?_
    refine EL_mv k8 rfl ?_
    obtain ⟨m7, x8, h⟩ := bsome h
    refine EL_p (ePtr v8 x1 1) (P_indexAddr (α := Int) Tryz.underlying23 Tryz.sizeOf3 rfl mB rfl x8) rfl ?_
    have zB := PT_idx mB x8
    refine EL_do .plain rfl (D_load (g := g8) Tryz.isAgg3 Tryz.sizeOf3 rfl zB fun jD cC => ?_)
    obtain rfl := RV_int.1 cC
    refine EL_do .plain rfl (D_buildSlice (g := g8) 3020 (xs := ([m7] : List Int)) (vs := [.int .i64 (m7)]) Tryz.underlying23 Tryz.sizeOf3 Tryz.zeroValue3 rfl rfl (.cons rfl .nil) (RVs.cons (RV_int.2 rfl) RVs.nil) rfl rfl fun eC lD mD hs o48 mC hxt hfl => ?_)
    have hfr := hfr.stp hs
    have x5 := x5.stp hs
    have i6 := i6.stp hs rfl
    have u3 := u3.stp hs
    obtain ⟨iB, tB, h⟩ := bsome h
    refine EL_do .plain rfl (D_append (g := eC) (i := 1004) Tryz.underlying23 info_3 rfl rfl i6 x5 rfl mC tB fun qC nD nB hs o49 rC _ => ?_)
    have hfr := hfr.stp hs
    have u3 := u3.stp hs
    refine EL_at nB rfl rfl ?_
    refine EL_nil (blk_n ?_)
    obtain rfl := sinj h
    exact hQ _ _ ⟨qC, (nB), hfr, k8, rfl, rC, o49, m8, u3, d7, j6⟩
   ·clear hx
    obtain ⟨uC, l9, hfr, n9, u9, y9, z9, bA, iA, a9, d9⟩ := hR
    refine E_region (EL_in (.int .i64 ((w64 (o0 + (1 : Int))))) d9 rfl rfl rfl ?_)
    refine EL_mw (.int .i64 ((w64 (o0 + (1 : Int))))) rfl rfl ?_
    exact EL_nil (thn_n (oB (l5, (w64 (o0 + (1 : Int)))) _ _ ⟨uC, (l9), hfr, n9, u9, y9, z9, bA, iA, a9, rfl⟩ h))
  ·refine E_cf i7 rfl ?_
   refine E_exit ?_
   refine thn_e ?_
   refine thn_e ?_
   refine blk_hit ?_
   obtain rfl := sinj h
   exact hQ _ _ ⟨g8, (k9), hfr, l8, x5, i6⟩
 ·clear hx
  obtain ⟨oD, n8, hfr, rA, yA, vC⟩ := hR
  refine E_seq (E_region (EL_mv rA rfl ?_))
  refine EL_at n8 rfl rfl ?_
  refine EL_nil (thn_n (E_ret ?_))
  obtain rfl := sinj h
  exact end1 rfl rfl (show _ = n8 from rfl) ⟨_, hfr, yA⟩
def f98 (x0 : List Int) (x1 : Int → Option Bool) : Option (Int) :=
 jn (σ := Unit) (fun _ =>
  some ((-1 : Int))
  ) fun k18 =>
 lp (σ := Int) (fun k19 o0 =>
  bif (decide (o0 < ((x0).length : Int))) then
   jn (σ := Unit) (fun _ =>
    k19 ((w64 (o0 + (1 : Int))))
    ) fun k28 =>
   (idx x0 o0).bind fun y6 =>
   (x1 y6).bind fun n8 =>
   bif n8 then
    some (o0)
   else
    k28 ()
  else
   k18 ()
  ) big ((0 : Int))
theorem en98 : Enters Tryz.prog 98 := enters_of Tryz.func98 (by kernel_rfl) rfl
theorem wk98 {gI : Gh} {wI : World} {x0 : List Int} {x1 : Int → Option Bool} {up0 : Value} (rp0 : RV gI.m wI x0 up0) {up1 : Value} (rp1 : FnV1 Tryz.prog x1 up1 gI wI) {r : Int} (h : f98 x0 x1 = some r) : Fn Tryz.prog 98 #[up0, up1] gI wI (fun _ _ v => v = .int .i64 (r)) := by
 unfold f98 at h
 refine fn_of_E Tryz.func98 rfl (Nat.le_of_ble_eq_true rfl) fun g0 hm hfr => ?_
 have rp0 : RV g0.m wI x0 up0 := hm ▸ rp0
 obtain ⟨ff1, fa1, fc1, rfl, fen1, fcl1⟩ := rp1
 show E _ 19 none _ _ _ _ _
 refine E_seq (E_region (EL_at (.int .i64 (0)) rfl rfl ?_))
 refine EL_nil (thn_n (E_joinC h (fun (s : Unit) e w => ∃ (g : Gh) , Fr gI wI g w) (fun X18 k18 r8 h => ?_) ?_))
 ·refine E_seq (E_region (EL_mw up0 rfl rfl ?_))
  refine EL_p (.int .i64 ((x0).length : Int)) (P_len Tryz.underlying23 rfl rp0) rfl ?_
  refine EL_mw (.int .i64 (0)) rfl rfl ?_
  refine EL_nil (thn_n (E_block ?_))
  refine E_lp h (fun (s : Int) e w => ∃ (g : Gh) , Fr gI wI g w ∧ e 0 = up0 ∧ RV g.m w (x0 : List Int) up0 ∧ e 1 = (.func (.func ff1) fa1 fc1) ∧ e 7 = .int .i64 (((x0).length : Int)) ∧ e 8 = .int .i64 (s)) ⟨g0, hfr, rfl, rp0, rfl, rfl, rfl⟩ (fun X19 k19 v8 => ?_)
  rintro o0 u9 bA ⟨d7, hfr, i6, u3, j6, x6, l5⟩ h
  refine E_seq (E_region (EL_in (.bool ((decide (o0 < ((x0).length : Int))))) l5 x6 rfl rfl ?_))
  refine EL_nil (thn_n (E_seq ?_))
  rcases csome h with ⟨t5, h⟩ | ⟨t5, h⟩
  ·refine E_ct t5 rfl ?_
   refine E_skip (thn_n (E_joinC h (fun (s : Unit) e w => ∃ (g : Gh) , Fr gI wI g w ∧ e 0 = up0 ∧ RV g.m w (x0 : List Int) up0 ∧ e 1 = (.func (.func ff1) fa1 fc1) ∧ e 7 = .int .i64 (((x0).length : Int)) ∧ e 8 = .int .i64 (o0)) (fun X28 k28 x8 h => ?_) ?_))
   ·refine E_block ?_
    refine E_seq (E_region (EL_mv l5 rfl ?_))
    refine EL_at (.int .i64 (o0)) rfl rfl ?_
    refine EL_nil (thn_n (E_seq (E_region (EL_mv j6 rfl ?_))))
    refine EL_mv i6 rfl ?_
    refine EL_mw (.int .i64 (o0)) rfl rfl ?_
    obtain ⟨y6, i7, h⟩ := bsome h
    refine EL_p (ePtr up0 o0 1) (P_indexAddr (α := Int) Tryz.underlying23 Tryz.sizeOf3 rfl u3 rfl i7) rfl ?_
    have d9 := PT_idx u3 i7
    refine EL_do .plain rfl (D_load (g := d7) Tryz.isAgg3 Tryz.sizeOf3 rfl d9 fun iA k9 => ?_)
    obtain rfl := RV_int.1 k9
    obtain ⟨n8, a9, h⟩ := bsome h
    refine EL_do .plain rfl (D_callv (g := d7) (vs := [.int .i64 (y6)]) rfl fen1 (.cons rfl .nil) (fcl1 _ _ hfr.ch _ _ _  (RV_int.2 rfl) a9) fun l9 rA yA hs hr => ?_)
    have hfr := hfr.ext hs
    have u3 := u3.ext hs
    obtain rfl := RV_bool.1 hr
    refine EL_nil (thn_n ?_)
    rcases csome h with ⟨x5, h⟩ | ⟨x5, h⟩
    ·refine E_ct x5 rfl ?_
     refine E_seq (E_region (EL_mw (.int .i64 (o0)) rfl rfl ?_))
     refine EL_at (.int .i64 (o0)) rfl rfl ?_
     refine EL_nil (thn_n (E_ret (blk_r ?_)))
     refine thn_r ?_
     refine thn_r ?_
     refine blk_r ?_
     refine thn_r ?_
     obtain rfl := sinj h
     exact end1 rfl rfl (show _ = .int .i64 (o0) from rfl) ⟨_, hfr, rfl⟩
    ·refine E_cf x5 rfl ?_
     exact E_skip (blk_n (thn_n (x8 () _ _ ⟨l9, hfr, i6, u3, j6, x6, l5⟩ h)))
   ·rintro _ y9 aB ⟨n9, hfr, m7, g8, k8, l8, m8⟩ h
    refine E_region (EL_in (.int .i64 ((w64 (o0 + (1 : Int))))) m8 rfl rfl rfl ?_)
    refine EL_mw (.int .i64 ((w64 (o0 + (1 : Int))))) rfl rfl ?_
    exact EL_nil (thn_n (v8 ((w64 (o0 + (1 : Int)))) _ _ ⟨n9, hfr, m7, g8, k8, l8, rfl⟩ h))
  ·refine E_cf t5 rfl ?_
   refine E_exit ?_
   refine thn_e ?_
   refine thn_e ?_
   refine blk_hit ?_
   exact thn_n (r8 () _ _ ⟨d7, hfr⟩ h)
 ·rintro _ z9 dB ⟨iB, hfr⟩ h
  refine E_seq (E_region (EL_at (.int .i64 (-1)) rfl rfl ?_))
  refine EL_nil (thn_n (E_ret ?_))
  obtain rfl := sinj h
  exact end1 rfl rfl (show _ = .int .i64 (-1) from rfl) ⟨_, hfr, rfl⟩
def f99 (x1 : Int) : Option ((List Int)) :=
 Option.bind (α := Unit) (
  bif (decide (x1 < (0 : Int))) then
   none
  else
   some ()
  ) fun (_ : Unit) =>
 Option.bind (α := (List Int)) (
  bif (decide ((w64 (x1 - (w64 (((0 : Nat) : Int) - ((([] : List Int)).length : Int))))) > (0 : Int))) then
   (grwz 8 ((w64 (x1 - (w64 (((0 : Nat) : Int) - ((([] : List Int)).length : Int))))))).bind fun _ =>
   some (([] : List Int))
  else
   some (([] : List Int))
  ) fun l5 =>
 some (l5)
theorem en99 : Enters Tryz.prog 99 := enters_of Tryz.func99 (by kernel_rfl) rfl
theorem wk99 {iO : Nat} {gI : Gh} {wI : World} {x1 : Int}  {r : (List Int)} (h : f99 x1 = some r) : FnG Tryz.prog 99 #[.slice none 0 0, .int .i64 (x1)] gI wI (fun g w v => OS iO g w 3 r v ∧ RV g.m w r v) := by
 unfold f99 at h
 refine fnG_of_E Tryz.func99 rfl (Nat.le_of_ble_eq_true rfl) fun g0 hm hfr => ?_
 show E _ 27 none _ _ _ _ _
 refine E_seq (E_region (EL_at (.slice none 0 0) rfl rfl ?_))
 refine EL_nil (thn_n ?_)
 obtain ⟨_, hx, h⟩ := bsome h
 refine E_join (fun e w => ∃ (g : Gh) , Fr gI wI g w ∧ e 0 = .slice none 0 0 ∧ RV g.m w (([] : List Int) : List Int) (Value.slice none 0 0) ∧ e 1 = .int .i64 (x1)) (fun Q' hQ => ?_) (fun i7 w3 hR => ?_)
 ·replace h := hx
  clear hx
  refine E_seq (E_region (EL_mw (.int .i64 (x1)) rfl rfl ?_))
  refine EL_in (.bool ((decide (x1 < (0 : Int))))) rfl rfl rfl rfl ?_
  refine EL_nil (thn_n ?_)
  rcases csome h with ⟨hc2, h⟩ | ⟨hc2, h⟩
  ·refine E_ct hc2 rfl ?_
   refine E_region ?_
   cases h
  ·refine E_cf hc2 rfl ?_
   refine E_skip ?_
   obtain rfl := sinj h
   exact hQ _ _ ⟨g0, hfr, rfl, RV_nil, rfl⟩
 ·clear hx
  obtain ⟨g3, hfr, o0, u3, i6⟩ := hR
  obtain ⟨l5, hx, h⟩ := bsome h
  refine E_join (fun e w => ∃ (g : Gh) (v0 : Value), Fr gI wI g w ∧ e 0 = v0 ∧ RV g.m w (l5 : List Int) v0 ∧ OS 4022 g w 3 (l5 : List Int) v0) (fun Q' hQ => ?_) (fun k8 w8 hR => ?_)
  ·replace h := hx
   clear hx
   refine E_seq (E_region (EL_mv i6 rfl ?_))
   refine EL_mv o0 rfl ?_
   refine EL_p (.int .i64 ((0 : Nat) : Int)) (P_cap Tryz.underlying23 rfl) rfl ?_
   refine EL_mv o0 rfl ?_
   refine EL_p (.int .i64 ((([] : List Int)).length : Int)) (P_len Tryz.underlying23 rfl u3) rfl ?_
   refine EL_p (.int .i64 ((w64 (((0 : Nat) : Int) - ((([] : List Int)).length : Int))))) (P_int rfl rfl rfl) rfl ?_
   refine EL_p (.int .i64 ((w64 (x1 - (w64 (((0 : Nat) : Int) - ((([] : List Int)).length : Int))))))) (P_int rfl rfl rfl) rfl ?_
   refine EL_p (.int .i64 ((w64 (x1 - (w64 (((0 : Nat) : Int) - ((([] : List Int)).length : Int))))))) (P_assign rfl) rfl ?_
   refine EL_nil (thn_n (E_seq (E_region (EL_p (.int .i64 ((w64 (x1 - (w64 (((0 : Nat) : Int) - ((([] : List Int)).length : Int))))))) (P_move rfl) rfl ?_))))
   refine EL_p (.bool ((decide ((w64 (x1 - (w64 (((0 : Nat) : Int) - ((([] : List Int)).length : Int))))) > (0 : Int))))) (P_int rfl rfl rfl) rfl ?_
   refine EL_nil (thn_n ?_)
   rcases csome h with ⟨t5, h⟩ | ⟨t5, h⟩
   ·refine E_ct t5 rfl ?_
    refine E_region (EL_mv o0 rfl ?_)
    refine EL_mv o0 rfl ?_
    refine EL_p (.int .i64 ((0 : Nat) : Int)) (P_cap Tryz.underlying23 rfl) rfl ?_
    refine EL_p (.slice none 0 0) (P_cutN Tryz.underlying23 Tryz.sizeOf3 rfl rfl (fun p hp => by cases hp)) rfl ?_
    refine EL_p (.int .i64 ((w64 (x1 - (w64 (((0 : Nat) : Int) - ((([] : List Int)).length : Int))))))) (P_move rfl) rfl ?_
    obtain ⟨y7, d7, h⟩ := bsome h
    refine EL_do .plain rfl (D_growZ (g := g3) (α := Int) 4022 Tryz.underlying23 Tryz.underlying3 info_3 rfl (Nat.le_of_ble_eq_true rfl) rfl rfl d7 fun g7 w7 b7 c7 m7 hs o7 r7 => ?_)
    have hfr := hfr.stp hs
    have u3 := u3.stp hs
    refine EL_mv o0 rfl ?_
    refine EL_p (.int .i64 ((([] : List Int)).length : Int)) (P_len Tryz.underlying23 rfl u3) rfl ?_
    refine EL_p ((.slice (some ⟨b7, 0, none⟩) 0 c7)) (P_cutN Tryz.underlying23 Tryz.sizeOf3 rfl rfl (fun p hp => by cases hp; rfl)) rfl ?_
    refine EL_at ((.slice (some ⟨b7, 0, none⟩) 0 c7)) rfl rfl ?_
    refine EL_nil ?_
    obtain rfl := sinj h
    exact hQ _ _ ⟨g7, ((.slice (some ⟨b7, 0, none⟩) 0 c7)), hfr, rfl, r7, o7⟩
   ·refine E_cf t5 rfl ?_
    refine E_skip ?_
    obtain rfl := sinj h
    exact hQ _ _ ⟨g3, (.slice none 0 0), hfr, o0, u3, OS.nil⟩
  ·clear hx
   obtain ⟨g8, x5, hfr, j6, x6, y6⟩ := hR
   refine E_seq (E_region (EL_mv j6 rfl ?_))
   refine EL_at x5 rfl rfl ?_
   refine EL_nil (thn_n (E_ret ?_))
   obtain rfl := sinj h
   obtain ⟨gh, hxh, homh, hrvh⟩ := OS.handn (i := iO) hfr y6 x6
   exact end1 rfl rfl (show _ = x5 from rfl) ⟨gh, hxh, homh, hrvh⟩
def f109 (x0 : List Int) : Option (Bool) :=
 some ((decide (((x0).length : Int) > (6 : Int))))
theorem en109 : Enters Tryz.prog 109 := enters_of Tryz.func109 (by kernel_rfl) rfl
theorem wk109 {gI : Gh} {wI : World} {x0 : List Int} {up0 : Value} (rp0 : RV gI.m wI x0 up0) {r : Bool} (h : f109 x0 = some r) : Fn Tryz.prog 109 #[up0] gI wI (fun _ _ v => v = .bool (r)) := by
 unfold f109 at h
 refine fn_of_E Tryz.func109 rfl (Nat.le_of_ble_eq_true rfl) fun g0 hm hfr => ?_
 have rp0 : RV g0.m wI x0 up0 := hm ▸ rp0
 show E _ 6 none _ _ _ _ _
 refine E_seq (E_region (EL_at (.bool false) rfl rfl ?_))
 refine EL_nil (thn_n (E_seq (E_region (EL_mw up0 rfl rfl ?_))))
 refine EL_p (.int .i64 ((x0).length : Int)) (P_len Tryz.underlying23 rfl rp0) rfl ?_
 refine EL_in (.bool ((decide (((x0).length : Int) > (6 : Int))))) rfl rfl rfl rfl ?_
 refine EL_at (.bool ((decide (((x0).length : Int) > (6 : Int))))) rfl rfl ?_
 refine EL_nil (thn_n (E_ret ?_))
 obtain rfl := sinj h
 exact end1 rfl rfl (show _ = .bool ((decide (((x0).length : Int) > (6 : Int)))) from rfl) ⟨_, hfr, rfl⟩
def f110 (x0 : List Int) (z0 : PaySheet) : Option (Bool) :=
 some ((((x0).length : Int) != ((((z0).PayTable).Down).length : Int)))
theorem en110 : Enters Tryz.prog 110 := enters_of Tryz.func110 (by kernel_rfl) rfl
theorem wk110 {gI : Gh} {wI : World} {x0 : List Int} {z0 : PaySheet} {up0 : Value} (rp0 : RV gI.m wI x0 up0) {pf0 : Value} (qf0 : PT gI.m wI z0 pf0) {r : Bool} (h : f110 x0 z0 = some r) : Fn Tryz.prog 110 #[up0, pf0] gI wI (fun _ _ v => v = .bool (r)) := by
 unfold f110 at h
 refine fn_of_E Tryz.func110 rfl (Nat.le_of_ble_eq_true rfl) fun g0 hm hfr => ?_
 have qf0 : PT g0.m wI z0 pf0 := hm ▸ qf0
 have rp0 : RV g0.m wI x0 up0 := hm ▸ rp0
 show E _ 11 none _ _ _ _ _
 refine E_seq (E_region (EL_at (.bool false) rfl rfl ?_))
 refine EL_nil (thn_n (E_seq (E_region (EL_mw up0 rfl rfl ?_))))
 refine EL_p (.int .i64 ((x0).length : Int)) (P_len Tryz.underlying23 rfl rp0) rfl ?_
 refine EL_p (fPtr pf0 0) (P_fieldAddr at_132_0 rfl (PT.ptr qf0)) rfl ?_
 have q1 := PT_field (part_PaySheet_0).1 qf0
 refine EL_p (fPtr (fPtr pf0 0) 2) (P_fieldAddr at_58_2 rfl (PT.ptr q1)) rfl ?_
 have q2 := PT_field (part_PayTable_2).1 q1
 refine EL_do .plain rfl (D_load (g := g0) Tryz.isAgg23 Tryz.sizeOf23 rfl q2 fun v3 r3 => ?_)
 refine EL_p (.int .i64 ((((z0).PayTable).Down).length : Int)) (P_len Tryz.underlying23 rfl r3) rfl ?_
 refine EL_p (.bool ((((x0).length : Int) != ((((z0).PayTable).Down).length : Int)))) (P_int rfl rfl rfl) rfl ?_
 refine EL_p (.bool ((((x0).length : Int) != ((((z0).PayTable).Down).length : Int)))) (P_assign rfl) rfl ?_
 refine EL_nil (thn_n (E_ret ?_))
 obtain rfl := sinj h
 exact end1 rfl rfl (show _ = .bool ((((x0).length : Int) != ((((z0).PayTable).Down).length : Int))) from rfl) ⟨_, hfr, rfl⟩
def f129 (x0 : List (List Int)) (x1 : (List Int) → Option Bool) : Option (Int) :=
 jn (σ := Unit) (fun _ =>
  some ((-1 : Int))
  ) fun k18 =>
 lp (σ := Int) (fun k19 o0 =>
  bif (decide (o0 < ((x0).length : Int))) then
   jn (σ := Unit) (fun _ =>
    k19 ((w64 (o0 + (1 : Int))))
    ) fun k28 =>
   (idx x0 o0).bind fun m8 =>
   (x1 m8).bind fun n8 =>
   bif n8 then
    some (o0)
   else
    k28 ()
  else
   k18 ()
  ) big ((0 : Int))
theorem en129 : Enters Tryz.prog 129 := enters_of Tryz.func129 (by kernel_rfl) rfl
theorem wk129 {gI : Gh} {wI : World} {x0 : List (List Int)} {x1 : (List Int) → Option Bool} {up0 : Value} (rp0 : RV gI.m wI x0 up0) {up1 : Value} (rp1 : FnV1 Tryz.prog x1 up1 gI wI) {r : Int} (h : f129 x0 x1 = some r) : Fn Tryz.prog 129 #[up0, up1] gI wI (fun _ _ v => v = .int .i64 (r)) := by
 unfold f129 at h
 refine fn_of_E Tryz.func129 rfl (Nat.le_of_ble_eq_true rfl) fun g0 hm hfr => ?_
 have rp0 : RV g0.m wI x0 up0 := hm ▸ rp0
 obtain ⟨ff1, fa1, fc1, rfl, fen1, fcl1⟩ := rp1
 show E _ 19 none _ _ _ _ _
 refine E_seq (E_region (EL_at (.int .i64 (0)) rfl rfl ?_))
 refine EL_nil (thn_n (E_joinC h (fun (s : Unit) e w => ∃ (g : Gh) , Fr gI wI g w) (fun X18 k18 r8 h => ?_) ?_))
 ·refine E_seq (E_region (EL_mw up0 rfl rfl ?_))
  refine EL_p (.int .i64 ((x0).length : Int)) (P_len Tryz.underlying56 rfl rp0) rfl ?_
  refine EL_mw (.int .i64 (0)) rfl rfl ?_
  refine EL_nil (thn_n (E_block ?_))
  refine E_lp h (fun (s : Int) e w => ∃ (g : Gh) , Fr gI wI g w ∧ e 0 = up0 ∧ RV g.m w (x0 : List (List Int)) up0 ∧ e 1 = (.func (.func ff1) fa1 fc1) ∧ e 7 = .int .i64 (((x0).length : Int)) ∧ e 8 = .int .i64 (s)) ⟨g0, hfr, rfl, rp0, rfl, rfl, rfl⟩ (fun X19 k19 v8 => ?_)
  rintro o0 y9 iA ⟨y6, hfr, i6, u3, j6, x6, l5⟩ h
  refine E_seq (E_region (EL_in (.bool ((decide (o0 < ((x0).length : Int))))) l5 x6 rfl rfl ?_))
  refine EL_nil (thn_n (E_seq ?_))
  rcases csome h with ⟨t5, h⟩ | ⟨t5, h⟩
  ·refine E_ct t5 rfl ?_
   refine E_skip (thn_n (E_joinC h (fun (s : Unit) e w => ∃ (g : Gh) , Fr gI wI g w ∧ e 0 = up0 ∧ RV g.m w (x0 : List (List Int)) up0 ∧ e 1 = (.func (.func ff1) fa1 fc1) ∧ e 7 = .int .i64 (((x0).length : Int)) ∧ e 8 = .int .i64 (o0)) (fun X28 k28 x8 h => ?_) ?_))
   ·refine E_block ?_
    refine E_seq (E_region (EL_mv l5 rfl ?_))
    refine EL_at (.int .i64 (o0)) rfl rfl ?_
    refine EL_nil (thn_n (E_seq (E_region (EL_mv j6 rfl ?_))))
    refine EL_mv i6 rfl ?_
    refine EL_mw (.int .i64 (o0)) rfl rfl ?_
    obtain ⟨m8, d7, h⟩ := bsome h
    refine EL_p (ePtr up0 o0 1) (P_indexAddr (α := List Int) Tryz.underlying56 Tryz.sizeOf23 rfl u3 rfl d7) rfl ?_
    have d9 := PT_idx u3 d7
    refine EL_do .plain rfl (D_load (g := y6) Tryz.isAgg23 Tryz.sizeOf23 rfl d9 fun k9 l9 => ?_)
    obtain ⟨n8, a9, h⟩ := bsome h
    refine EL_do .plain rfl (D_callv (g := y6) (vs := [k9]) rfl fen1 (.cons rfl .nil) (fcl1 _ _ hfr.ch _ _ _  l9 a9) fun n9 rA yA hs hr => ?_)
    have hfr := hfr.ext hs
    have u3 := u3.ext hs
    obtain rfl := RV_bool.1 hr
    refine EL_nil (thn_n ?_)
    rcases csome h with ⟨x5, h⟩ | ⟨x5, h⟩
    ·refine E_ct x5 rfl ?_
     refine E_seq (E_region (EL_mw (.int .i64 (o0)) rfl rfl ?_))
     refine EL_at (.int .i64 (o0)) rfl rfl ?_
     refine EL_nil (thn_n (E_ret (blk_r ?_)))
     refine thn_r ?_
     refine thn_r ?_
     refine blk_r ?_
     refine thn_r ?_
     obtain rfl := sinj h
     exact end1 rfl rfl (show _ = .int .i64 (o0) from rfl) ⟨_, hfr, rfl⟩
    ·refine E_cf x5 rfl ?_
     exact E_skip (blk_n (thn_n (x8 () _ _ ⟨n9, hfr, i6, u3, j6, x6, l5⟩ h)))
   ·rintro _ z9 aB ⟨u9, hfr, i7, m7, g8, k8, l8⟩ h
    refine E_region (EL_in (.int .i64 ((w64 (o0 + (1 : Int))))) l8 rfl rfl rfl ?_)
    refine EL_mw (.int .i64 ((w64 (o0 + (1 : Int))))) rfl rfl ?_
    exact EL_nil (thn_n (v8 ((w64 (o0 + (1 : Int)))) _ _ ⟨u9, hfr, i7, m7, g8, k8, rfl⟩ h))
  ·refine E_cf t5 rfl ?_
   refine E_exit ?_
   refine thn_e ?_
   refine thn_e ?_
   refine blk_hit ?_
   exact thn_n (r8 () _ _ ⟨y6, hfr⟩ h)
 ·rintro _ bA dB ⟨iB, hfr⟩ h
  refine E_seq (E_region (EL_at (.int .i64 (-1)) rfl rfl ?_))
  refine EL_nil (thn_n (E_ret ?_))
  obtain rfl := sinj h
  exact end1 rfl rfl (show _ = .int .i64 (-1) from rfl) ⟨_, hfr, rfl⟩
end Go.Proofs.YtkmbkaoolacofaaGreat
