import Derived.Test.YtkfdjkkbnfohjaaDoorCode1
set_option maxRecDepth 8000
set_option maxHeartbeats 4000000
namespace Go.Proofs.YtkfdjkkbnfohjaaDoor
open Go.RowKit
def f63 (x0 : Int) (x1 : List TieGroup) : Option (TieHarness × Int × Int) :=
 jn (σ := TieHarness) (fun yD =>
  jn (σ := TieHarness × (List Int)) (fun (eF, y9) =>
   some ((⟨x0, y9⟩ : TieHarness), (0 : Int), (0 : Int))
   ) fun rF =>
  lp (σ := TieHarness × (List Int) × Int) (fun sF (m7, g8, u3) =>
   bif (decide (u3 < ((x1).length : Int))) then
    jn (σ := TieHarness × (List Int)) (fun (aB, dB) =>
     sF (aB, dB, (w64 (u3 + (1 : Int))))
     ) fun tF =>
    (idx x1 u3).bind fun l5 =>
    jn (σ := TieHarness) (fun z9 =>
     (f111 ((⟨l5⟩ : TieTieGroup))).bind fun rA =>
     (f110 rA ((l5).Times)).bind fun iB =>
     (apnd 8 g8 iB).bind fun yA =>
     bif (decide (((yA).length : Int) > (96 : Int))) then
      some (z9, u3, (8 : Int))
     else
      tF (z9, yA)
     ) fun uF =>
    Option.bind (α := Bool) (
     (f98 ((0 : Int)) ((w64 (x0 - (1 : Int)))) (([(l5).First, (l5).Last] : List Int))).bind fun u9 =>
     bif (!u9) then
      some (true)
     else
      bif ((l5).Way != (1 : Int)) then
       bif ((l5).Way != (2 : Int)) then
        some (true)
       else
        (f98 ((1 : Int)) ((8 : Int)) (([(l5).Times] : List Int))).bind fun mC =>
        some ((!mC))
      else
       (f98 ((1 : Int)) ((8 : Int)) (([(l5).Times] : List Int))).bind fun qC =>
       some ((!qC))
     ) fun r8 =>
    bif r8 then
     some (m7, u3, (2 : Int))
    else
     uF (m7)
   else
    rF (m7, g8)
   ) big (yD, [], (0 : Int))
  ) fun qI =>
 (f98 ((1 : Int)) ((24 : Int)) (([x0] : List Int))).bind fun zD =>
 bif (!zD) then
  some ((⟨0, []⟩ : TieHarness), (0 : Int), (2 : Int))
 else
  bif (decide (((x1).length : Int) > (8 : Int))) then
   some ((⟨0, []⟩ : TieHarness), (0 : Int), (5 : Int))
  else
   bif (((x1).length : Int) == (0 : Int)) then
    some ((⟨0, []⟩ : TieHarness), (0 : Int), (7 : Int))
   else
    qI ((⟨0, []⟩ : TieHarness))
theorem en63 : Enters Tryd.prog 63 := enters_of Tryd.func63 (by kernel_rfl) rfl
theorem wk63 {gI : Gh} {wI : World} {x0 : Int} {x1 : List TieGroup} {up1 : Value} (rp1 : RV gI.m wI x1 up1) {r : TieHarness × Int × Int} (h : f63 x0 x1 = some r) : Fn Tryd.prog 63 #[.int .i64 (x0), up1] gI wI (fun m w v => ∃ y0 y1 y2, v = .tuple #[y0, y1, y2] ∧ RV m w (r.1) y0 ∧ y1 = .int .i64 (r.2.1) ∧ y2 = .int .i64 (r.2.2)) := by
 unfold f63 at h
 refine fn_of_E Tryd.func63 rfl (Nat.le_of_ble_eq_true rfl) fun g0 hm hfr => ?_
 have rp1 : RV g0.m wI x1 up1 := hm ▸ rp1
 show E _ 78 none _ _ _ _ _
 refine E_seq (E_region (EL_do .plain rfl (D_allocOc (g := g0) 2004 (⟨0, []⟩ : TieHarness) Tryd.zeroValue52 (fun m w => ⟨_, (rep_two rep_int rep_nil), rfl⟩) fun g1 w1 p1 hs b1 cb => ?_)))
 have hfr := hfr.stp hs
 have rp1 := rp1.stp hs
 have lB : OSF 2004 60401 1 g1 w1 3 52 ([] : List Int) p1 := cb.osf (by rfl)
 clear cb
 refine EL_at (.int .i64 (0)) rfl rfl ?_
 refine EL_at (.int .i64 (0)) rfl rfl ?_
 refine EL_nil (thn_n (E_joinC h (fun (s : TieHarness) e w => ∃ (g : Gh) , Fr gI wI g w ∧ e 0 = .int .i64 (x0) ∧ e 1 = up1 ∧ RV g.m w (x1 : List TieGroup) up1 ∧ e 4 = p1 ∧ OB 2004 g w 52 (s : TieHarness) p1 ∧ OSF 2004 60401 1 g w 3 52 ((s).Warps) p1) (fun X17 qI sI h => ?_) ?_))
 ·refine E_block ?_
  refine E_seq (E_region (EL_mw (.int .i64 (x0)) rfl rfl ?_))
  refine EL_do .plain rfl (D_buildSlice (g := g1) 3012 (xs := ([x0] : List Int)) (vs := [.int .i64 (x0)]) Tryd.underlying34 Tryd.sizeOf3 Tryd.zeroValue3 rfl rfl (.cons rfl .nil) (RVs.cons (RV_int.2 rfl) RVs.nil) rfl rfl fun xK jN yK hs o18 zK hxt hfl => ?_)
  have hfr := hfr.stp hs
  have rp1 := rp1.stp hs
  have lB := lB.stp hs rfl
  have b1 := b1.stp hs rfl
  obtain ⟨zD, hy20, h⟩ := bsome h
  refine EL_do .plain rfl (D_call (g := xK) (vs := [.int .i64 (1), .int .i64 (24), yK]) en98 (.cons rfl (.cons rfl (.cons rfl .nil))) (wk98 zK hy20) fun mB vL kN hs hr => ?_)
  have hfr := hfr.ext hs
  have rp1 := rp1.ext hs
  have lB := lB.ext hs
  have b1 := b1.ext hs
  subst hr
  refine EL_p (.bool (!zD)) (P_not rfl) rfl ?_
  refine EL_at (.bool (!zD)) rfl rfl ?_
  refine EL_nil (thn_n ?_)
  rcases csome h with ⟨gD, h⟩ | ⟨gD, h⟩
  ·refine E_ct gD rfl ?_
   refine E_seq (E_region (EL_do .plain rfl (D_loadO (g := mB) Tryd.isAgg52 Tryd.sizeOf52 rfl b1 fun aL bL => ?_)))
   refine EL_do .plain rfl (D_storeOc (g := mB) (v := aL) Tryd.sizeOf52 rfl b1 rfl bL fun lN mN hs b23 cb => ?_)
   clear cb
   have hfr := hfr.stp hs
   refine EL_at (.int .i64 (0)) rfl rfl ?_
   refine EL_at (.int .i64 (2)) rfl rfl ?_
   refine EL_nil (thn_n (E_ret (blk_r ?_)))
   refine thn_r ?_
   obtain rfl := sinj h
   obtain ⟨ad24, cv24, hp24, tI, cr24⟩ := ob_read Tryd.isAgg52 Tryd.sizeOf52 b23
   exact endm_ctt rfl rfl ((show _ = p1 from rfl).trans hp24) tI (show _ = .int .i64 (0) from rfl) (show _ = .int .i64 (2) from rfl) ⟨_, hfr, _, _, _, rfl, cr24, rfl, rfl⟩
  ·refine E_cf gD rfl ?_
   refine E_seq (E_region (EL_mw up1 rfl rfl ?_))
   refine EL_p (.int .i64 ((x1).length : Int)) (P_len Tryd.underlying149 rfl rp1) rfl ?_
   refine EL_in (.bool ((decide (((x1).length : Int) > (8 : Int))))) rfl rfl rfl rfl ?_
   refine EL_at (.bool ((decide (((x1).length : Int) > (8 : Int))))) rfl rfl ?_
   refine EL_nil (thn_n ?_)
   rcases csome h with ⟨iD, h⟩ | ⟨iD, h⟩
   ·refine E_ct iD rfl ?_
    refine E_seq (E_region (EL_do .plain rfl (D_loadO (g := mB) Tryd.isAgg52 Tryd.sizeOf52 rfl b1 fun dL eL => ?_)))
    refine EL_do .plain rfl (D_storeOc (g := mB) (v := dL) Tryd.sizeOf52 rfl b1 rfl eL fun nN oN hs b27 cb => ?_)
    clear cb
    have hfr := hfr.stp hs
    refine EL_at (.int .i64 (0)) rfl rfl ?_
    refine EL_at (.int .i64 (5)) rfl rfl ?_
    refine EL_nil (thn_n (E_ret (blk_r ?_)))
    refine thn_r ?_
    obtain rfl := sinj h
    obtain ⟨ad28, cv28, hp28, uI, cr28⟩ := ob_read Tryd.isAgg52 Tryd.sizeOf52 b27
    exact endm_ctt rfl rfl ((show _ = p1 from rfl).trans hp28) uI (show _ = .int .i64 (0) from rfl) (show _ = .int .i64 (5) from rfl) ⟨_, hfr, _, _, _, rfl, cr28, rfl, rfl⟩
   ·refine E_cf iD rfl ?_
    refine E_seq (E_region (EL_mw up1 rfl rfl ?_))
    refine EL_p (.int .i64 ((x1).length : Int)) (P_len Tryd.underlying149 rfl rp1) rfl ?_
    refine EL_in (.bool ((((x1).length : Int) == (0 : Int)))) rfl rfl rfl rfl ?_
    refine EL_at (.bool ((((x1).length : Int) == (0 : Int)))) rfl rfl ?_
    refine EL_nil (thn_n ?_)
    rcases csome h with ⟨jD, h⟩ | ⟨jD, h⟩
    ·refine E_ct jD rfl ?_
     refine E_seq (E_region (EL_do .plain rfl (D_loadO (g := mB) Tryd.isAgg52 Tryd.sizeOf52 rfl b1 fun gL iL => ?_)))
     refine EL_do .plain rfl (D_storeOc (g := mB) (v := gL) Tryd.sizeOf52 rfl b1 rfl iL fun pN qN hs b31 cb => ?_)
     clear cb
     have hfr := hfr.stp hs
     refine EL_at (.int .i64 (0)) rfl rfl ?_
     refine EL_at (.int .i64 (7)) rfl rfl ?_
     refine EL_nil (thn_n (E_ret (blk_r ?_)))
     refine thn_r ?_
     obtain rfl := sinj h
     obtain ⟨ad32, cv32, hp32, vI, cr32⟩ := ob_read Tryd.isAgg52 Tryd.sizeOf52 b31
     exact endm_ctt rfl rfl ((show _ = p1 from rfl).trans hp32) vI (show _ = .int .i64 (0) from rfl) (show _ = .int .i64 (7) from rfl) ⟨_, hfr, _, _, _, rfl, cr32, rfl, rfl⟩
    ·refine E_cf jD rfl ?_
     exact E_skip (blk_n (thn_n (sI ((⟨0, []⟩ : TieHarness)) _ _ ⟨mB, hfr, rfl, rfl, rp1, rfl, b1, lB⟩ h)))
 ·rintro yD xL rN ⟨jL, hfr, nH, oH, aE, pH, qH, u4_1_33⟩ h
  refine E_seq (E_region (EL_at (.slice none 0 0) rfl rfl ?_))
  refine EL_nil (thn_n (E_joinC h (fun (s : TieHarness × (List Int)) e w => ∃ (g : Gh) (v7 : Value), Fr gI wI g w ∧ e 0 = .int .i64 (x0) ∧ e 4 = p1 ∧ OB 2004 g w 52 (s.1 : TieHarness) p1 ∧ OSF 2004 60401 1 g w 3 52 ((s.1).Warps) p1 ∧ e 7 = v7 ∧ RV g.m w (s.2 : List Int) v7 ∧ OS 1007 g w 3 (s.2 : List Int) v7) (fun X326 rF sH h => ?_) ?_))
  ·refine E_seq (E_region (EL_mv oH rfl ?_))
   refine EL_p (.int .i64 ((x1).length : Int)) (P_len Tryd.underlying149 rfl aE) rfl ?_
   refine EL_mw (.int .i64 (0)) rfl rfl ?_
   refine EL_nil (thn_n (E_block ?_))
   refine E_lp h (fun (s : TieHarness × (List Int) × Int) e w => ∃ (g : Gh) (v7 : Value), Fr gI wI g w ∧ e 0 = .int .i64 (x0) ∧ e 4 = p1 ∧ OB 2004 g w 52 (s.1 : TieHarness) p1 ∧ OSF 2004 60401 1 g w 3 52 ((s.1).Warps) p1 ∧ e 7 = v7 ∧ RV g.m w (s.2.1 : List Int) v7 ∧ OS 1007 g w 3 (s.2.1 : List Int) v7 ∧ e 26 = up1 ∧ RV g.m w (x1 : List TieGroup) up1 ∧ e 27 = .int .i64 (((x1).length : Int)) ∧ e 28 = .int .i64 (s.2.2)) ⟨jL, (.slice none 0 0), hfr, nH, pH, qH, u4_1_33, rfl, RV_nil, OS.nil, rfl, aE, rfl, rfl⟩ (fun X327 sF tH => ?_)
   rintro ⟨m7, g8, u3⟩ mL yL ⟨lD, k8, hfr, v8, k9, t5, u4_1_328, l9, x5, i6, x8, o0, a9, y6⟩ h
   refine E_seq (E_region (EL_in (.bool ((decide (u3 < ((x1).length : Int))))) y6 a9 rfl rfl ?_))
   refine EL_nil (thn_n (E_seq ?_))
   rcases csome h with ⟨rC, h⟩ | ⟨rC, h⟩
   ·refine E_ct rC rfl ?_
    refine E_skip (thn_n (E_joinC h (fun (s : TieHarness × (List Int)) e w => ∃ (g : Gh) (v7 : Value), Fr gI wI g w ∧ e 0 = .int .i64 (x0) ∧ e 4 = p1 ∧ OB 2004 g w 52 (s.1 : TieHarness) p1 ∧ OSF 2004 60401 1 g w 3 52 ((s.1).Warps) p1 ∧ e 7 = v7 ∧ RV g.m w (s.2 : List Int) v7 ∧ OS 1007 g w 3 (s.2 : List Int) v7 ∧ e 26 = up1 ∧ RV g.m w (x1 : List TieGroup) up1 ∧ e 27 = .int .i64 (((x1).length : Int)) ∧ e 28 = .int .i64 (u3)) (fun X473 tF uH h => ?_) ?_))
    ·refine E_block ?_
     refine E_seq (E_region (EL_mv y6 rfl ?_))
     obtain ⟨l5, bE, h⟩ := bsome h
     refine EL_p (ePtr up1 u3 4) (P_indexAddr (α := TieGroup) Tryd.underlying149 Tryd.sizeOf148 x8 o0 y6 bE) rfl ?_
     have yI := PT_idx o0 bE
     refine EL_do .plain rfl (D_load (g := lD) Tryd.isAgg148 Tryd.sizeOf148 rfl yI fun zI nD => ?_)
     refine EL_do .plain rfl (D_allocOc (g := lD) 2009 (⟨0, 0, 0, 0⟩ : TieGroup) Tryd.zeroValue148 (fun m w => ⟨_, (rep_two rep_int (rep_two rep_int (rep_two rep_int rep_int))), rfl⟩) fun eJ zL m8 hs b477 cb => ?_)
     have hfr := hfr.stp hs
     have u4_1_328 := u4_1_328.stp hs rfl
     have t5 := t5.stp hs rfl
     have x5 := x5.stp hs
     have i6 := i6.stp hs rfl
     have o0 := o0.stp hs
     have nD := nD.stp hs
     clear cb
     refine EL_at (.int .i64 (u3)) rfl rfl ?_
     refine EL_do .plain rfl (D_storeOc (g := eJ) (v := zI) Tryd.sizeOf148 rfl b477 rfl nD fun oD aM hs b478 cb => ?_)
     clear cb
     have hfr := hfr.stp hs
     have u4_1_328 := u4_1_328.stp hs rfl
     have t5 := t5.stp hs rfl
     have x5 := x5.stp hs
     have i6 := i6.stp hs rfl
     have o0 := o0.stp hs
     refine EL_nil (thn_n (E_joinC h (fun (s : TieHarness) e w => ∃ (g : Gh) , Fr gI wI g w ∧ e 0 = .int .i64 (x0) ∧ e 4 = p1 ∧ OB 2004 g w 52 (s : TieHarness) p1 ∧ OSF 2004 60401 1 g w 3 52 ((s).Warps) p1 ∧ e 7 = k8 ∧ RV g.m w (g8 : List Int) k8 ∧ OS 1007 g w 3 (g8 : List Int) k8 ∧ e 8 = .int .i64 (u3) ∧ e 9 = m8 ∧ OB 2009 g w 148 (l5 : TieGroup) m8 ∧ e 26 = up1 ∧ RV g.m w (x1 : List TieGroup) up1 ∧ e 27 = .int .i64 (((x1).length : Int)) ∧ e 28 = .int .i64 (u3)) (fun X532 uF xH h => ?_) ?_))
     ·obtain ⟨r8, hx, h⟩ := bsome h
      refine E_join (fun e w => ∃ (g : Gh) , Fr gI wI g w ∧ e 0 = .int .i64 (x0) ∧ e 4 = p1 ∧ OB 2004 g w 52 (m7 : TieHarness) p1 ∧ OSF 2004 60401 1 g w 3 52 ((m7).Warps) p1 ∧ e 7 = k8 ∧ RV g.m w (g8 : List Int) k8 ∧ OS 1007 g w 3 (g8 : List Int) k8 ∧ e 8 = .int .i64 (u3) ∧ e 9 = m8 ∧ OB 2009 g w 148 (l5 : TieGroup) m8 ∧ e 26 = up1 ∧ RV g.m w (x1 : List TieGroup) up1 ∧ e 27 = .int .i64 (((x1).length : Int)) ∧ e 28 = .int .i64 (u3) ∧ e 58 = .bool (r8)) (fun Q' hQ => ?_) (fun nL bM hR => ?_)
      ·replace h := hx
       clear hx
       refine E_region (EL_mv v8 rfl ?_)
       refine EL_in (.int .i64 ((w64 (x0 - (1 : Int))))) rfl rfl rfl rfl ?_
       refine EL_p (fPtr m8 0) (P_fieldAddr at_148_0 rfl (OB.ptr b478)) rfl ?_
       refine EL_do .plain rfl (D_loadF (g := oD) part_TieGroup_0.1 Tryd.isAgg3 Tryd.sizeOf3 rfl b478 fun cM gJ => ?_)
       obtain rfl := RV_int.1 gJ
       refine EL_p (fPtr m8 1) (P_fieldAddr at_148_1 rfl (OB.ptr b478)) rfl ?_
       refine EL_do .plain rfl (D_loadF (g := oD) part_TieGroup_1.1 Tryd.isAgg3 Tryd.sizeOf3 rfl b478 fun dM iJ => ?_)
       obtain rfl := RV_int.1 iJ
       refine EL_do .plain rfl (D_buildSlice (g := oD) 3039 (xs := ([(l5).First, (l5).Last] : List Int)) (vs := [.int .i64 ((l5).First), .int .i64 ((l5).Last)]) Tryd.underlying34 Tryd.sizeOf3 Tryd.zeroValue3 rfl rfl (.cons rfl (.cons rfl .nil)) (RVs.cons (RV_int.2 rfl) (RVs.cons (RV_int.2 rfl) RVs.nil)) rfl rfl fun jJ eM kJ hs o561 lJ hxt hfl => ?_)
       have hfr := hfr.stp hs
       have u4_1_328 := u4_1_328.stp hs rfl
       have t5 := t5.stp hs rfl
       have x5 := x5.stp hs
       have i6 := i6.stp hs rfl
       have o0 := o0.stp hs
       have b478 := b478.stp hs rfl
       obtain ⟨u9, yH, h⟩ := bsome h
       refine EL_do .plain rfl (D_call (g := jJ) (vs := [.int .i64 (0), .int .i64 ((w64 (x0 - (1 : Int)))), kJ]) en98 (.cons rfl (.cons rfl (.cons rfl .nil))) (wk98 lJ yH) fun n9 oL iM hs hr => ?_)
       have hfr := hfr.ext hs
       have u4_1_328 := u4_1_328.ext hs
       have t5 := t5.ext hs
       have x5 := x5.ext hs
       have i6 := i6.ext hs
       have o0 := o0.ext hs
       have b478 := b478.ext hs
       subst hr
       refine EL_p (.bool (!u9)) (P_not rfl) rfl ?_
       refine EL_mw (.bool (!u9)) rfl rfl ?_
       rcases csome h with ⟨x6, h⟩ | ⟨x6, h⟩
       ·refine EL_s rfl rfl x6 rfl rfl ?_
        iterate 3 refine EL_s rfl rfl x6 rfl rfl ?_
        refine EL_dead 3 rfl ?_
        refine EL_s rfl rfl x6 rfl rfl ?_
        refine EL_p (.bool true) (P_pick (b := (!u9)) rfl (pick_t x6 rfl)) rfl ?_
        refine EL_dead 7 rfl ?_
        refine EL_nil ?_
        obtain rfl := sinj h
        exact hQ _ _ ⟨n9, hfr, v8, k9, t5, u4_1_328, l9, x5, i6, rfl, rfl, b478, x8, o0, a9, y6, rfl⟩
       ·refine EL_y (fPtr m8 2) (P_fieldAddr at_148_2 rfl (OB.ptr b478)) rfl rfl x6 rfl ?_
        refine EL_do (.yes2 rfl rfl x6) rfl (D_loadF (g := n9) part_TieGroup_2.1 Tryd.isAgg146 Tryd.sizeOf146 rfl b478 fun jM mJ => ?_)
        obtain rfl := RV_int.1 mJ
        refine EL_y (.bool (((l5).Way != (1 : Int)))) (P_int rfl rfl rfl) rfl rfl x6 rfl ?_
        refine EL_y (.bool (((l5).Way != (1 : Int)))) (P_move rfl) rfl rfl x6 rfl ?_
        rcases csome h with ⟨l8, h⟩ | ⟨l8, h⟩
        ·refine EL_y (fPtr m8 2) (P_fieldAddr at_148_2 rfl (OB.ptr b478)) rfl rfl l8 rfl ?_
         refine EL_do (.yes2 rfl rfl l8) rfl (D_loadF (g := n9) part_TieGroup_2.1 Tryd.isAgg146 Tryd.sizeOf146 rfl b478 fun kM nJ => ?_)
         obtain rfl := RV_int.1 nJ
         refine EL_y (.bool (((l5).Way != (2 : Int)))) (P_int rfl rfl rfl) rfl rfl l8 rfl ?_
         refine EL_y (.bool (((l5).Way != (2 : Int)))) (P_pick (b := ((l5).Way != (1 : Int))) rfl (pick_t l8 rfl)) rfl rfl x6 rfl ?_
         refine EL_p (.bool (((l5).Way != (2 : Int)))) (P_pick (b := (!u9)) rfl (pick_f x6 rfl)) rfl ?_
         refine EL_mw (.bool (((l5).Way != (2 : Int)))) rfl rfl ?_
         rcases csome h with ⟨i7, h⟩ | ⟨i7, h⟩
         ·refine EL_s rfl rfl i7 rfl rfl ?_
          iterate 4 refine EL_s rfl rfl i7 rfl rfl ?_
          refine EL_p (.bool true) (P_pick (b := ((l5).Way != (2 : Int))) rfl (pick_t i7 rfl)) rfl ?_
          refine EL_nil ?_
          obtain rfl := sinj h
          exact hQ _ _ ⟨n9, hfr, v8, k9, t5, u4_1_328, l9, x5, i6, rfl, rfl, b478, x8, o0, a9, y6, rfl⟩
         ·refine EL_y (fPtr m8 3) (P_fieldAddr at_148_3 rfl (OB.ptr b478)) rfl rfl i7 rfl ?_
          refine EL_do (.yes2 rfl rfl i7) rfl (D_loadF (g := n9) part_TieGroup_3.1 Tryd.isAgg3 Tryd.sizeOf3 rfl b478 fun mM oJ => ?_)
          obtain rfl := RV_int.1 oJ
          refine EL_do (.yes2 rfl rfl i7) rfl (D_buildSlice (g := n9) 3055 (xs := ([(l5).Times] : List Int)) (vs := [.int .i64 ((l5).Times)]) Tryd.underlying34 Tryd.sizeOf3 Tryd.zeroValue3 rfl rfl (.cons rfl .nil) (RVs.cons (RV_int.2 rfl) RVs.nil) rfl rfl fun pJ nM qJ hs o573 rJ hxt hfl => ?_)
          have hfr := hfr.stp hs
          have u4_1_328 := u4_1_328.stp hs rfl
          have t5 := t5.stp hs rfl
          have x5 := x5.stp hs
          have i6 := i6.stp hs rfl
          have o0 := o0.stp hs
          have b478 := b478.stp hs rfl
          obtain ⟨mC, zH, h⟩ := bsome h
          refine EL_do (.yes2 rfl rfl i7) rfl (D_call (g := pJ) (vs := [.int .i64 (1), .int .i64 (8), qJ]) en98 (.cons rfl (.cons rfl (.cons rfl .nil))) (wk98 rJ zH) fun sJ pL oM hs hr => ?_)
          have hfr := hfr.ext hs
          have u4_1_328 := u4_1_328.ext hs
          have t5 := t5.ext hs
          have x5 := x5.ext hs
          have i6 := i6.ext hs
          have o0 := o0.ext hs
          have b478 := b478.ext hs
          subst hr
          refine EL_y (.bool (!mC)) (P_not rfl) rfl rfl i7 rfl ?_
          refine EL_p (.bool (!mC)) (P_pick (b := ((l5).Way != (2 : Int))) rfl (pick_f i7 rfl)) rfl ?_
          refine EL_nil ?_
          obtain rfl := sinj h
          exact hQ _ _ ⟨sJ, hfr, v8, k9, t5, u4_1_328, l9, x5, i6, rfl, rfl, b478, x8, o0, a9, y6, rfl⟩
        ·refine EL_s rfl rfl l8 rfl rfl ?_
         refine EL_s rfl rfl l8 rfl rfl ?_
         refine EL_s rfl rfl l8 rfl rfl ?_
         refine EL_y (.bool false) (P_pick (b := ((l5).Way != (1 : Int))) rfl (pick_f l8 rfl)) rfl rfl x6 rfl ?_
         refine EL_p (.bool false) (P_pick (b := (!u9)) rfl (pick_f x6 rfl)) rfl ?_
         refine EL_mw (.bool false) rfl rfl ?_
         refine EL_y (fPtr m8 3) (P_fieldAddr at_148_3 rfl (OB.ptr b478)) rfl rfl rfl rfl ?_
         refine EL_do (.yes2 rfl rfl rfl) rfl (D_loadF (g := n9) part_TieGroup_3.1 Tryd.isAgg3 Tryd.sizeOf3 rfl b478 fun pM vJ => ?_)
         obtain rfl := RV_int.1 vJ
         refine EL_do (.yes2 rfl rfl rfl) rfl (D_buildSlice (g := n9) 3055 (xs := ([(l5).Times] : List Int)) (vs := [.int .i64 ((l5).Times)]) Tryd.underlying34 Tryd.sizeOf3 Tryd.zeroValue3 rfl rfl (.cons rfl .nil) (RVs.cons (RV_int.2 rfl) RVs.nil) rfl rfl fun xJ qM yJ hs o578 zJ hxt hfl => ?_)
         have hfr := hfr.stp hs
         have u4_1_328 := u4_1_328.stp hs rfl
         have t5 := t5.stp hs rfl
         have x5 := x5.stp hs
         have i6 := i6.stp hs rfl
         have o0 := o0.stp hs
         have b478 := b478.stp hs rfl
         obtain ⟨qC, aI, h⟩ := bsome h
         refine EL_do (.yes2 rfl rfl rfl) rfl (D_call (g := xJ) (vs := [.int .i64 (1), .int .i64 (8), yJ]) en98 (.cons rfl (.cons rfl (.cons rfl .nil))) (wk98 zJ aI) fun aK qL rM hs hr => ?_)
         have hfr := hfr.ext hs
         have u4_1_328 := u4_1_328.ext hs
         have t5 := t5.ext hs
         have x5 := x5.ext hs
         have i6 := i6.ext hs
         have o0 := o0.ext hs
         have b478 := b478.ext hs
         subst hr
         refine EL_y (.bool (!qC)) (P_not rfl) rfl rfl rfl rfl ?_
         refine EL_p (.bool (!qC)) (P_pick (b := false) rfl (pick_f rfl rfl)) rfl ?_
         refine EL_nil ?_
         obtain rfl := sinj h
         exact hQ _ _ ⟨aK, hfr, v8, k9, t5, u4_1_328, l9, x5, i6, rfl, rfl, b478, x8, o0, a9, y6, rfl⟩
      ·clear hx
       obtain ⟨sD, hfr, vF, bA, nB, u4_1_581, xF, yF, zF, bD, aG, bG, lE, mE, oE, rE, cC⟩ := hR
       rcases csome h with ⟨uC, h⟩ | ⟨uC, h⟩
       ·refine E_cond_true (Eq.trans (show ev _ _ = .bool (r8) from cC) (congrArg Value.bool uC)) ?_
        refine E_seq (E_region (EL_do .plain rfl (D_loadO (g := sD) Tryd.isAgg52 Tryd.sizeOf52 bA nB fun bK cK => ?_)))
        refine EL_mv bD rfl ?_
        refine EL_do .plain rfl (D_storeOc (g := sD) (v := bK) Tryd.sizeOf52 bA nB rfl cK fun sM tM hs b584 cb => ?_)
        clear cb
        have hfr := hfr.stp hs
        refine EL_at (.int .i64 (u3)) rfl rfl ?_
        refine EL_at (.int .i64 (2)) rfl rfl ?_
        refine EL_nil (thn_n (E_ret (thn_r ?_)))
        refine blk_r ?_
        refine thn_r ?_
        refine thn_r ?_
        refine blk_r ?_
        refine thn_r ?_
        obtain rfl := sinj h
        obtain ⟨ad585, cv585, hp585, bI, cr585⟩ := ob_read Tryd.isAgg52 Tryd.sizeOf52 b584
        exact endm_ctt rfl rfl ((show _ = p1 from bA).trans hp585) bI (show _ = .int .i64 (u3) from rfl) (show _ = .int .i64 (2) from rfl) ⟨_, hfr, _, _, _, rfl, cr585, rfl, rfl⟩
       ·refine E_cond_false (Eq.trans (show ev _ _ = .bool (r8) from cC) (congrArg Value.bool uC)) ?_
        exact E_skip (thn_n (xH (m7) _ _ ⟨sD, hfr, vF, bA, nB, u4_1_581, xF, yF, zF, bD, aG, bG, lE, mE, oE, rE⟩ h))
     ·rintro z9 rL uM ⟨cG, hfr, eG, iA, n8, u4_1_586, gG, oB, tB, hG, cD, vB, uE, d9, vE, xE⟩ h
      refine E_seq (L_loadO0 (x := .tmp 9) Tryd.isAgg148 Tryd.sizeOf148 vB fun vC iG dI => ?_)
      have jG : RV cG.m _ (⟨l5⟩ : TieTieGroup) (.agg (setCh [[.int .i64 0, .int .i64 0, .int .i64 0, .int .i64 0]] [(0, vC)]).flatten.toArray) := RV_build rfl (rep_last (RV.cells iG))
      generalize iI : (Value.agg (setCh [[.int .i64 0, .int .i64 0, .int .i64 0, .int .i64 0]] [(0, vC)]).flatten.toArray) = kG at jG
      obtain ⟨rA, jI, h⟩ := bsome h
      refine L_loadO (x := .tmp 65) part_TieGroup_3.1 Tryd.isAgg3 Tryd.sizeOf3 vB fun vM dK kI => ?_
      obtain rfl := RV_int.1 dK
      obtain ⟨iB, lI, h⟩ := bsome h
      refine E_drawL (g := cG) (n := 7) [(3, (fun v g w => RV g.m w rA v)), (6, (fun v g w => RV g.m w iB v))] [0, 1, 2, 3, 4, 5, 6] rfl mixed (by kernel_rfl) (⟨fun _ => up_rv, fun _ => up_rv, trivial⟩) ?_
      refine L_p k8 rfl rfl (P_move gG) ?_
      refine L_ld (c := vC) rfl rfl .plain (fun _ _ h => ⟨h.ch, fun b hb _ => h.below.block b hb⟩) dI cD ?_
      refine L_p kG rfl rfl (iI ▸ P_build (vs := [(0, vC)]) [[.int .i64 0, .int .i64 0, .int .i64 0, .int .i64 0]] lay_218 rfl rfl (.cons rfl .nil) ⟨⟨_, rfl, cells_size iG⟩, trivial⟩) ?_
      refine L_do (φ := fun v g w => RV g.m w rA v) rfl rfl .plain (fun g w hd => D_call (g := g) (vs := [kG]) en111 (.cons rfl .nil) (wk111 (jG.ext hd.1) jI) fun g' w' v hs hr => ⟨g', hs, hr⟩) (fun tD hv => ?_)
      obtain ⟨_, _, _, rq589⟩ := hv
      refine L_p (fPtr m8 3) rfl rfl (P_fieldAddr at_148_3 cD (OB.ptr vB)) ?_
      refine L_ld (c := .int .i64 ((l5).Times)) rfl rfl .plain (fun _ _ h => ⟨h.ch, fun b hb _ => h.below.block b hb⟩) kI rfl ?_
      refine L_do (φ := fun v g w => RV g.m w iB v) rfl rfl .plain (fun g w hd => D_call (g := g) (vs := [tD, .int .i64 ((l5).Times)]) en110 (.cons rfl (.cons rfl .nil)) (wk110 (word (A := fun g w => RV g.m w rA tD) 3 rfl rfl (deps_of hd)) lI) fun g' w' v hs hr => ⟨g', hs, hr⟩) (fun lK hv => ?_)
      obtain ⟨_, _, _, rq593⟩ := hv
      refine L_nil fun mK xM hall => ?_
      have hs := hall.1
      have hfr := hfr.ext hs
      have u4_1_586 := u4_1_586.ext hs
      have n8 := n8.ext hs
      have oB := oB.ext hs
      have tB := tB.ext hs
      have d9 := d9.ext hs
      have bN := (word_all (A := fun g w => RV g.m w rA tD) 3 rfl hall)
      have nK := (word_all (A := fun g w => RV g.m w iB lK) 6 rfl hall)
      clear hs hall
      obtain ⟨yA, mI, h⟩ := bsome h
      refine EL_do .plain rfl (D_append (g := mK) (i := 1007) Tryd.underlying34 info_3 rfl rfl tB oB rfl nK mI fun uD cN vD hs o611 lG _ => ?_)
      have hfr := hfr.stp hs
      have u4_1_586 := u4_1_586.stp hs rfl
      have n8 := n8.stp hs rfl
      have d9 := d9.stp hs
      refine EL_at vD rfl rfl ?_
      refine EL_nil (thn_n (E_seq (E_region (EL_mw vD rfl rfl ?_))))
      refine EL_p (.int .i64 ((yA).length : Int)) (P_len Tryd.underlying34 rfl lG) rfl ?_
      refine EL_in (.bool ((decide (((yA).length : Int) > (96 : Int))))) rfl rfl rfl rfl ?_
      refine EL_nil (thn_n ?_)
      rcases csome h with ⟨aD, h⟩ | ⟨aD, h⟩
      ·refine E_ct aD rfl ?_
       refine E_seq (E_region (EL_do .plain rfl (D_loadO (g := uD) Tryd.isAgg52 Tryd.sizeOf52 iA n8 fun oK pK => ?_)))
       refine EL_mv hG rfl ?_
       refine EL_do .plain rfl (D_storeOc (g := uD) (v := oK) Tryd.sizeOf52 iA n8 rfl pK fun dN eN hs b615 cb => ?_)
       clear cb
       have hfr := hfr.stp hs
       refine EL_at (.int .i64 (u3)) rfl rfl ?_
       refine EL_at (.int .i64 (8)) rfl rfl ?_
       refine EL_nil (thn_n (E_ret (blk_r ?_)))
       refine thn_r ?_
       refine thn_r ?_
       refine blk_r ?_
       refine thn_r ?_
       obtain rfl := sinj h
       obtain ⟨ad616, cv616, hp616, nI, cr616⟩ := ob_read Tryd.isAgg52 Tryd.sizeOf52 b615
       exact endm_ctt rfl rfl ((show _ = p1 from iA).trans hp616) nI (show _ = .int .i64 (u3) from rfl) (show _ = .int .i64 (8) from rfl) ⟨_, hfr, _, _, _, rfl, cr616, rfl, rfl⟩
      ·refine E_cf aD rfl ?_
       exact E_skip (blk_n (thn_n (uH (z9, yA) _ _ ⟨uD, (vD), hfr, eG, iA, n8, u4_1_586, rfl, lG, o611, uE, d9, vE, xE⟩ h)))
    ·rintro ⟨aB, dB⟩ tL gN ⟨qK, mG, hfr, sG, xG, yG, u4_1_617, zG, aH, cH, yE, zE, cF, dF⟩ h
     refine E_region (EL_in (.int .i64 ((w64 (u3 + (1 : Int))))) dF rfl rfl rfl ?_)
     refine EL_mw (.int .i64 ((w64 (u3 + (1 : Int))))) rfl rfl ?_
     exact EL_nil (thn_n (tH (aB, dB, (w64 (u3 + (1 : Int)))) _ _ ⟨qK, (mG), hfr, sG, xG, yG, u4_1_617, zG, aH, cH, yE, zE, cF, rfl⟩ h))
   ·refine E_cf rC rfl ?_
    refine E_exit ?_
    refine thn_e ?_
    refine thn_e ?_
    refine blk_hit ?_
    exact thn_n (sH (m7, g8) _ _ ⟨lD, (k8), hfr, v8, k9, t5, u4_1_328, l9, x5, i6⟩ h)
  ·rintro ⟨eF, y9⟩ uL iN ⟨dH, yB, hfr, gH, eD, iH, u4_1_618, jH, zB, kH⟩ h
   refine E_seq (E_region (EL_mv gH rfl ?_))
   refine EL_mv jH rfl ?_
   have lH : RV dH.m _ (⟨x0, y9⟩ : TieHarness) (.agg (setCh [[.int .i64 0], [.slice none 0 0]] [(0, .int .i64 (x0)), (1, yB)]).flatten.toArray) := RV_build rfl (rep_pair (rfl) (rep_last (RV.cells zB)))
   generalize iE : (Value.agg (setCh [[.int .i64 0], [.slice none 0 0]] [(0, .int .i64 (x0)), (1, yB)]).flatten.toArray) = mH at lH
   refine EL_p mH (iE ▸ P_build (vs := [(0, .int .i64 (x0)), (1, yB)]) [[.int .i64 0], [.slice none 0 0]] lay_52 rfl rfl (.cons rfl (.cons rfl .nil)) ⟨⟨_, rfl, rfl⟩, ⟨⟨_, rfl, cells_size zB⟩, trivial⟩⟩) rfl ?_
   refine EL_do .plain rfl (D_storeOc (g := dH) (v := mH) Tryd.sizeOf52 eD iH rfl lH fun sK tK hs b620 cb => ?_)
   obtain ⟨uK, vK, xD, _, _⟩ := RV_list zB
   have lL : OSF 2004 1007 1 sK tK 3 52 (y9 : List Int) p1 := cb.osfv (by rw [← iE, xD]; rfl) (kH.stp hs rfl)
   clear cb
   have hfr := hfr.stp hs
   refine EL_at (.int .i64 (0)) rfl rfl ?_
   refine EL_at (.int .i64 (0)) rfl rfl ?_
   refine EL_nil (thn_n (E_ret ?_))
   obtain rfl := sinj h
   obtain ⟨ad621, cv621, hp621, pI, cr621⟩ := ob_read Tryd.isAgg52 Tryd.sizeOf52 b620
   exact endm_ctt rfl rfl ((show _ = p1 from eD).trans hp621) pI (show _ = .int .i64 (0) from rfl) (show _ = .int .i64 (0) from rfl) ⟨_, hfr, _, _, _, rfl, cr621, rfl, rfl⟩
def f105 (x0 : Int) (x1 : List ChainCard) : Option (Bool) :=
 Option.bind (α := Bool) (
  bif (decide (((x1).length : Int) > (0 : Int))) then
   (f158 x1 ((fun a0 => f157 a0 x0))).bind fun y7 =>
   some ((!y7))
  else
   some (false)
  ) fun o0 =>
 some (o0)
theorem en105 : Enters Tryd.prog 105 := enters_of Tryd.func105 (by kernel_rfl) rfl
theorem wk105 {gI : Gh} {wI : World} {x0 : Int} {x1 : List ChainCard} {up1 : Value} (rp1 : RV gI.m wI x1 up1) {r : Bool} (h : f105 x0 x1 = some r) : Fn Tryd.prog 105 #[.int .i64 (x0), up1] gI wI (fun _ _ v => v = .bool (r)) := by
 unfold f105 at h
 refine fn_of_E Tryd.func105 rfl (Nat.le_of_ble_eq_true rfl) fun g0 hm hfr => ?_
 have rp1 : RV g0.m wI x1 up1 := hm ▸ rp1
 show E _ 16 none _ _ _ _ _
 refine E_seq (E_region (EL_do .plain rfl (D_box (g := g0) rfl (RV_int.2 rfl) fun g1 w1 p1 hs q1 => ?_)))
 have hfr := hfr.ext hs
 have rp1 := rp1.ext hs
 refine EL_at (.bool false) rfl rfl ?_
 refine EL_nil (thn_n (E_seq (E_region (EL_p ((.func (.func 157) #[] #[p1])) (P_makeFunc (capf_0_1 (show ev _ _ = p1 from rfl))) rfl ?_))))
 refine EL_at ((.func (.func 157) #[] #[p1])) rfl rfl ?_
 refine EL_nil (thn_n ?_)
 obtain ⟨o0, hx, h⟩ := bsome h
 refine E_join (fun e w => ∃ (g : Gh) , Fr gI wI g w ∧ e 4 = .bool (o0)) (fun Q' hQ => ?_) (fun t5 w8 hR => ?_)
 ·replace h := hx
  clear hx
  refine E_region (EL_mw up1 rfl rfl ?_)
  refine EL_p (.int .i64 ((x1).length : Int)) (P_len Tryd.underlying65 rfl rp1) rfl ?_
  refine EL_in (.bool ((decide (((x1).length : Int) > (0 : Int))))) rfl rfl rfl rfl ?_
  refine EL_mw (.bool ((decide (((x1).length : Int) > (0 : Int))))) rfl rfl ?_
  rcases csome h with ⟨hc5, h⟩ | ⟨hc5, h⟩
  ·refine EL_y up1 (P_move rfl) rfl rfl hc5 rfl ?_
   refine EL_y ((.func (.func 157) #[] #[p1])) (P_move rfl) rfl rfl hc5 rfl ?_
   obtain ⟨y7, l5, h⟩ := bsome h
   refine EL_do (.yes2 rfl rfl hc5) rfl (D_call (g := g1) (vs := [up1, (.func (.func 157) #[] #[p1])]) en158 (.cons rfl (.cons rfl .nil)) (wk158 rp1 ⟨157, #[], #[p1], rfl, en157, fun g' w' hch a0 b0 r hu0 hr => by exact Fn.mono (wk157 hu0 (q1.ch hch) hr) fun _ _ _ h => RV_bool.2 h⟩ l5) fun g6 w6_ v6 hs hr => ?_)
   have hfr := hfr.ext hs
   subst hr
   refine EL_y (.bool (!y7)) (P_not rfl) rfl rfl hc5 rfl ?_
   refine EL_p (.bool (!y7)) (P_pick (b := (decide (((x1).length : Int) > (0 : Int)))) rfl (pick_t hc5 rfl)) rfl ?_
   refine EL_at (.bool (!y7)) rfl rfl ?_
   refine EL_nil ?_
   obtain rfl := sinj h
   exact hQ _ _ ⟨g6, hfr, rfl⟩
  ·refine EL_s rfl rfl hc5 rfl rfl ?_
   iterate 3 refine EL_s rfl rfl hc5 rfl rfl ?_
   refine EL_p (.bool false) (P_pick (b := (decide (((x1).length : Int) > (0 : Int)))) rfl (pick_f hc5 rfl)) rfl ?_
   refine EL_at (.bool false) rfl rfl ?_
   refine EL_nil ?_
   obtain rfl := sinj h
   exact hQ _ _ ⟨g1, hfr, rfl⟩
 ·clear hx
  obtain ⟨g8, hfr, u3⟩ := hR
  refine E_ret ?_
  obtain rfl := sinj h
  exact end1 rfl rfl (show _ = .bool (o0) from u3) ⟨_, hfr, rfl⟩
def f18 (x0 : List Str) : Option (TieHarness × Design × Int) :=
 jn (σ := TieHarness × Design) (fun (l5, k8) =>
  (f55 ((⟨l5⟩ : TieTieHarness)) x0).bind fun y6 =>
  some (l5, y6, (0 : Int))
  ) fun k28 =>
 (f54 x0).bind fun o0 =>
 bif (o0.2 != (0 : Int)) then
  some (o0.1, (⟨0, []⟩ : Design), o0.2)
 else
  k28 (o0.1, (⟨0, []⟩ : Design))
theorem en18 : Enters Tryd.prog 18 := enters_of Tryd.func18 (by kernel_rfl) rfl
theorem wk18 {gI : Gh} {wI : World} {x0 : List Str} {up0 : Value} (rp0 : RV gI.m wI x0 up0) {r : TieHarness × Design × Int} (h : f18 x0 = some r) : Fn Tryd.prog 18 #[up0] gI wI (fun m w v => ∃ y0 y1 y2, v = .tuple #[y0, y1, y2] ∧ RV m w (r.1) y0 ∧ RV m w (r.2.1) y1 ∧ y2 = .int .i64 (r.2.2)) := by
 unfold f18 at h
 refine fn_of_E Tryd.func18 rfl (Nat.le_of_ble_eq_true rfl) fun g0 hm hfr => ?_
 have rp0 : RV g0.m wI x0 up0 := hm ▸ rp0
 show E _ 20 none _ _ _ _ _
 refine E_seq (E_region (EL_do .plain rfl (D_allocOc (g := g0) 2002 (⟨0, []⟩ : TieHarness) Tryd.zeroValue52 (fun m w => ⟨_, (rep_two rep_int rep_nil), rfl⟩) fun g1 w1 p1 hs b1 cb => ?_)))
 have hfr := hfr.stp hs
 have rp0 := rp0.stp hs
 have qC : OSF 2002 60201 1 g1 w1 3 52 ([] : List Int) p1 := cb.osf (by rfl)
 clear cb
 refine EL_do .plain rfl (D_allocOc (g := g1) 2003 (⟨0, []⟩ : Design) Tryd.zeroValue55 (fun m w => ⟨_, (rep_two rep_int rep_nil), rfl⟩) fun g2 w2 p2 hs b2 cb => ?_)
 have hfr := hfr.stp hs
 have rp0 := rp0.stp hs
 have b1 := b1.stp hs rfl
 have x5 : OSF 2003 60301 1 g2 w2 3 55 ([] : List Int) p2 := cb.osf (by rfl)
 clear cb
 refine EL_at (.int .i64 (0)) rfl rfl ?_
 refine EL_nil (thn_n (E_joinC h (fun (s : TieHarness × Design) e w => ∃ (g : Gh) , Fr gI wI g w ∧ e 0 = up0 ∧ RV g.m w (x0 : List Str) up0 ∧ e 2 = p1 ∧ OB 2002 g w 52 (s.1 : TieHarness) p1 ∧ e 3 = p2 ∧ OB 2003 g w 55 (s.2 : Design) p2 ∧ OSF 2003 60301 1 g w 3 55 ((s.2).Rows) p2) (fun X28 k28 l9 h => ?_) ?_))
 ·refine E_seq (E_region (EL_mw up0 rfl rfl ?_))
  obtain ⟨o0, n9, h⟩ := bsome h
  refine EL_do .plain rfl (D_call (g := g2) (vs := [up0]) en54 (.cons rfl .nil) (wk54 rp0 n9) fun oB rC vC hs hr => ?_)
  have hfr := hfr.ext hs
  have rp0 := rp0.ext hs
  have b1 := b1.ext hs
  have x5 := x5.ext hs
  have b2 := b2.ext hs
  obtain ⟨i6, mC, rfl, l8, rfl⟩ := hr
  refine EL_mw (.tuple #[i6, .int .i64 (o0.2)]) rfl rfl ?_
  refine EL_p i6 (P_extract rfl rfl) rfl ?_
  refine EL_p (.int .i64 (o0.2)) (P_extract rfl rfl) rfl ?_
  refine EL_do .plain rfl (D_storeOc (g := oB) (v := i6) Tryd.sizeOf52 rfl b1 rfl l8 fun r8 aD hs b31 cb => ?_)
  clear cb
  have hfr := hfr.stp hs
  have rp0 := rp0.stp hs
  have x5 := x5.stp hs rfl
  have b2 := b2.stp hs rfl
  refine EL_at (.int .i64 (o0.2)) rfl rfl ?_
  refine EL_nil (thn_n (E_seq (E_region (EL_mw (.int .i64 (o0.2)) rfl rfl ?_))))
  refine EL_in (.bool ((o0.2 != (0 : Int)))) rfl rfl rfl rfl ?_
  refine EL_nil (thn_n ?_)
  rcases csome h with ⟨i7, h⟩ | ⟨i7, h⟩
  ·refine E_ct i7 rfl ?_
   refine E_seq (L_selfO Tryd.isAgg52 Tryd.sizeOf52 rfl b31 fun tB u9 y9 => ?_)
   refine L_selfO Tryd.isAgg55 Tryd.sizeOf55 rfl b2 fun vB z9 bA => ?_
   refine E_drawL (g := r8) (n := 6) [(3, (fun _ _ _ => True)), (4, (fun _ _ _ => True))] [0, 1, 2, 3, 4, 5] rfl mixed (by kernel_rfl) (⟨fun _ => (fun _ _ _ _ _ _ => trivial), fun _ => (fun _ _ _ _ _ _ => trivial), trivial⟩) ?_
   refine L_ld (c := tB) rfl rfl .plain (fun _ _ h => ⟨h.ch, fun b hb _ => h.below.block b hb⟩) (u9 _) rfl ?_
   refine L_ld (c := vB) rfl rfl .plain (fun _ _ h => ⟨h.ch, fun b hb _ => h.below.block b hb⟩) (z9 _) rfl ?_
   refine L_p (.int .i64 (o0.2)) rfl rfl (P_move rfl) ?_
   refine L_do (φ := fun _ _ _ => True) rfl rfl .plain (fun g w hd => y9 _ _ _ g w ⟨hd.1.ch, fun b hb _ => hd.1.below.block b hb⟩ rfl rfl) (fun bD hv => ?_)
   clear hv
   refine L_do (φ := fun _ _ _ => True) rfl rfl .plain (fun g w hd => bA _ _ _ g w ⟨hd.1.ch, fun b hb _ => hd.1.below.block b hb⟩ rfl rfl) (fun cD hv => ?_)
   clear hv
   refine L_p (.int .i64 (o0.2)) rfl rfl (P_assign rfl) ?_
   refine L_nl fun eD gD hs => ?_
   have hfr := hfr.ext hs
   have b31 := b31.ext hs
   have b2 := b2.ext hs
   clear hs
   refine EL_nil (thn_n (E_ret (thn_r ?_)))
   obtain rfl := sinj h
   obtain ⟨ad52, cv52, hp52, iA, cr52⟩ := ob_read Tryd.isAgg52 Tryd.sizeOf52 b31
   obtain ⟨ad53, cv53, hp53, rA, cr53⟩ := ob_read Tryd.isAgg55 Tryd.sizeOf55 b2
   exact endm_cct rfl rfl ((show _ = p1 from rfl).trans hp52) iA ((show _ = p2 from rfl).trans hp53) rA (show _ = .int .i64 (o0.2) from rfl) ⟨_, hfr, _, _, _, rfl, cr52, cr53, rfl⟩
  ·refine E_cf i7 rfl ?_
   exact E_skip (thn_n (l9 (o0.1, (⟨0, []⟩ : Design)) _ _ ⟨r8, hfr, rfl, rp0, rfl, b31, rfl, b2, x5⟩ h))
 ·rintro ⟨l5, k8⟩ uC iD ⟨v8, hfr, m8, n8, t5, u3, m7, x6, u3_1_54⟩ h
  refine E_seq (L_selfO Tryd.isAgg52 Tryd.sizeOf52 rfl u3 fun yB yA aB => ?_)
  refine L_loadO0 (x := .tmp 2) Tryd.isAgg52 Tryd.sizeOf52 u3 fun g8 x8 dB => ?_
  have a9 : RV v8.m _ (⟨l5⟩ : TieTieHarness) (.agg (setCh [[.int .i64 0, .slice none 0 0]] [(0, g8)]).flatten.toArray) := RV_build rfl (rep_last (RV.cells x8))
  generalize iB : (Value.agg (setCh [[.int .i64 0, .slice none 0 0]] [(0, g8)]).flatten.toArray) = d9 at a9
  obtain ⟨y6, lB, h⟩ := bsome h
  refine E_drawL (g := v8) (n := 6) [(4, (fun v g w => RV g.m w y6 v)), (5, (fun _ _ _ => True))] [0, 1, 2, 3, 4, 5] rfl mixed (by kernel_rfl) (⟨fun _ => up_rv, fun _ => (fun _ _ _ _ _ _ => trivial), trivial⟩) ?_
  refine L_ld (c := yB) rfl rfl .plain (fun _ _ h => ⟨h.ch, fun b hb _ => h.below.block b hb⟩) (yA _) t5 ?_
  refine L_ld (c := g8) rfl rfl .plain (fun _ _ h => ⟨h.ch, fun b hb _ => h.below.block b hb⟩) dB t5 ?_
  refine L_p d9 rfl rfl (iB ▸ P_build (vs := [(0, g8)]) [[.int .i64 0, .slice none 0 0]] lay_129 rfl rfl (.cons rfl .nil) ⟨⟨_, rfl, cells_size x8⟩, trivial⟩) ?_
  refine L_p up0 rfl rfl (P_move m8) ?_
  refine L_do (φ := fun v g w => RV g.m w y6 v) rfl rfl .plain (fun g w hd => D_call (g := g) (vs := [d9, up0]) en55 (.cons rfl (.cons rfl .nil)) (wk55 (a9.ext hd.1) (n8.ext hd.1) lB) fun g' w' v hs hr => ⟨g', hs, hr⟩) (fun k9 hv => ?_)
  obtain ⟨_, _, _, rq58⟩ := hv
  refine L_do (φ := fun _ _ _ => True) rfl rfl .plain (fun g w hd => aB _ _ _ g w ⟨hd.1.ch, fun b hb _ => hd.1.below.block b hb⟩ t5 rfl) (fun jD hv => ?_)
  clear hv
  refine L_nil fun zB lD hall => ?_
  have hs := hall.1
  have hfr := hfr.ext hs
  have u3 := u3.ext hs
  have x6 := x6.ext hs
  have cC := (word_all (A := fun g w => RV g.m w y6 k9) 4 rfl hall)
  clear hs hall
  refine EL_do .plain rfl (D_storeOc (g := zB) (v := k9) Tryd.sizeOf55 m7 x6 rfl cC fun nD oD hs b71 cb => ?_)
  clear cb
  have hfr := hfr.stp hs
  have u3 := u3.stp hs rfl
  refine EL_at (.int .i64 (0)) rfl rfl ?_
  refine EL_nil (thn_n (E_ret ?_))
  obtain rfl := sinj h
  obtain ⟨ad72, cv72, hp72, mB, cr72⟩ := ob_read Tryd.isAgg52 Tryd.sizeOf52 u3
  obtain ⟨ad73, cv73, hp73, nB, cr73⟩ := ob_read Tryd.isAgg55 Tryd.sizeOf55 b71
  exact endm_cct rfl rfl ((show _ = p1 from t5).trans hp72) mB ((show _ = p2 from m7).trans hp73) nB (show _ = .int .i64 (0) from rfl) ⟨_, hfr, _, _, _, rfl, cr72, cr73, rfl⟩
def f25  : Option (Bool) :=
 (f63 ((4 : Int)) (([(⟨0, (3 : Int), (2 : Int), (1 : Int)⟩ : TieGroup)] : List TieGroup))).bind fun y4 =>
 (f15 (y4.1) ((⟨(4 : Int), ([(1 : Int), (6 : Int)] : List Int)⟩ : Design))).bind fun y11 =>
 Option.bind (α := Bool) (
  bif (y4.2.2 == (0 : Int)) then
   bif (y11.2 == (0 : Int)) then
    (f23 (y11.1) (([(⟨[120, 46, 46, 46, 46, 46]⟩ : Str), (⟨[46, 120, 120, 46, 120, 120]⟩ : Str)] : List Str))).bind fun y6 =>
    some (y6)
   else
    some (false)
  else
   some (false)
  ) fun t5 =>
 some (t5)
theorem en25 : Enters Tryd.prog 25 := enters_of Tryd.func25 (by kernel_rfl) rfl
theorem wk25 {gI : Gh} {wI : World}   {r : Bool} (h : f25  = some r) : Fn Tryd.prog 25 #[] gI wI (fun _ _ v => v = .bool (r)) := by
 unfold f25 at h
 refine fn_of_E Tryd.func25 rfl (Nat.le_of_ble_eq_true rfl) fun g0 hm hfr => ?_
 show E _ 31 none _ _ _ _ _
 refine E_seq (E_region (EL_at (.bool false) rfl rfl ?_))
 refine EL_nil (thn_n (E_seq (E_region ?_)))
 have r1 : RV g0.m wI (⟨0, (3 : Int), (2 : Int), (1 : Int)⟩ : TieGroup) (.agg (setCh [[.int .i64 0], [.int .i64 0], [.int .i64 0], [.int .i64 0]] [(1, .int .i64 (3)), (2, .int .i64 (2)), (3, .int .i64 (1))]).flatten.toArray) := RV_build rfl (rep_pair (rep_int) (rep_pair (rfl) (rep_pair (rfl) (rep_last (rfl)))))
 generalize hv1 : (Value.agg (setCh [[.int .i64 0], [.int .i64 0], [.int .i64 0], [.int .i64 0]] [(1, .int .i64 (3)), (2, .int .i64 (2)), (3, .int .i64 (1))]).flatten.toArray) = v1 at r1
 refine EL_p v1 (hv1 ▸ P_build (vs := [(1, .int .i64 (3)), (2, .int .i64 (2)), (3, .int .i64 (1))]) [[.int .i64 0], [.int .i64 0], [.int .i64 0], [.int .i64 0]] lay_148 rfl rfl (.cons rfl (.cons rfl (.cons rfl .nil))) ⟨⟨_, rfl, rfl⟩, ⟨⟨_, rfl, rfl⟩, ⟨⟨_, rfl, rfl⟩, trivial⟩⟩⟩) rfl ?_
 refine EL_do .plain rfl (D_buildSlice (g := g0) 3008 (xs := ([(⟨0, (3 : Int), (2 : Int), (1 : Int)⟩ : TieGroup)] : List TieGroup)) (vs := [v1]) Tryd.underlying149 Tryd.sizeOf148 Tryd.zeroValue148 rfl rfl (.cons rfl .nil) (RVs.cons r1 RVs.nil) rfl rfl fun g2 w2 v2 hs o2 r2 hxt hfl => ?_)
 have hfr := hfr.stp hs
 obtain ⟨y4, m8, h⟩ := bsome h
 refine EL_do .plain rfl (D_call (g := g2) (vs := [.int .i64 (4), v2]) en63 (.cons rfl (.cons rfl .nil)) (wk63 r2 m8) fun g3 w3_ v3 hs hr => ?_)
 have hfr := hfr.ext hs
 obtain ⟨i6, n9, u9, rfl, x6, rfl, rfl⟩ := hr
 refine EL_mw (.tuple #[i6, .int .i64 (y4.2.1), .int .i64 (y4.2.2)]) rfl rfl ?_
 refine EL_p i6 (P_extract rfl rfl) rfl ?_
 refine EL_p (.int .i64 (y4.2.1)) (P_extract rfl rfl) rfl ?_
 refine EL_p (.int .i64 (y4.2.2)) (P_extract rfl rfl) rfl ?_
 refine EL_do .plain rfl (D_allocOc (g := g3) 2001 (⟨0, []⟩ : TieHarness) Tryd.zeroValue52 (fun m w => ⟨_, (rep_two rep_int rep_nil), rfl⟩) fun g5 w5 p5 hs b5 cb => ?_)
 have hfr := hfr.stp hs
 have x6 := x6.stp hs
 have y9 : OSF 2001 60101 1 g5 w5 3 52 ([] : List Int) p5 := cb.osf (by rfl)
 clear cb
 refine EL_do .plain rfl (D_storeOc (g := g5) (v := i6) Tryd.sizeOf52 rfl b5 rfl x6 fun g6 w6 hs b6 cb => ?_)
 clear cb
 have hfr := hfr.stp hs
 refine EL_at (.int .i64 (y4.2.1)) rfl rfl ?_
 refine EL_at (.int .i64 (y4.2.2)) rfl rfl ?_
 refine EL_nil (thn_n (E_seq (E_region (EL_do .plain rfl (D_loadO (g := g6) Tryd.isAgg52 Tryd.sizeOf52 rfl b6 fun v7 r7 => ?_)))))
 refine EL_do .plain rfl (D_buildSlice (g := g6) 3015 (xs := ([(1 : Int), (6 : Int)] : List Int)) (vs := [.int .i64 (1), .int .i64 (6)]) Tryd.underlying34 Tryd.sizeOf3 Tryd.zeroValue3 rfl rfl (.cons rfl (.cons rfl .nil)) (RVs.cons (RV_int.2 rfl) (RVs.cons (RV_int.2 rfl) RVs.nil)) rfl rfl fun g8 w8 v8 hs o8 r8 hxt hfl => ?_)
 have hfr := hfr.stp hs
 have r7 := r7.stp hs
 have r9 : RV g8.m _ (⟨(4 : Int), ([(1 : Int), (6 : Int)] : List Int)⟩ : Design) (.agg (setCh [[.int .i64 0], [.slice none 0 0]] [(0, .int .i64 (4)), (1, v8)]).flatten.toArray) := RV_build rfl (rep_pair (rfl) (rep_last (RV.cells r8)))
 generalize n8 : (Value.agg (setCh [[.int .i64 0], [.slice none 0 0]] [(0, .int .i64 (4)), (1, v8)]).flatten.toArray) = v9 at r9
 refine EL_p v9 (n8 ▸ P_build (vs := [(0, .int .i64 (4)), (1, v8)]) [[.int .i64 0], [.slice none 0 0]] lay_55 rfl rfl (.cons rfl (.cons rfl .nil)) ⟨⟨_, rfl, rfl⟩, ⟨⟨_, rfl, cells_size r8⟩, trivial⟩⟩) rfl ?_
 obtain ⟨y11, k8, h⟩ := bsome h
 refine EL_do .plain rfl (D_call (g := g8) (vs := [v7, v9]) en15 (.cons rfl (.cons rfl .nil)) (wk15 r7 r9 k8) fun i7 z9 rA hs hr => ?_)
 have hfr := hfr.ext hs
 obtain ⟨l5, l9, rfl, x5, rfl⟩ := hr
 refine EL_mw (.tuple #[l5, .int .i64 (y11.2)]) rfl rfl ?_
 refine EL_p l5 (P_extract rfl rfl) rfl ?_
 refine EL_p (.int .i64 (y11.2)) (P_extract rfl rfl) rfl ?_
 refine EL_at l5 rfl rfl ?_
 refine EL_at (.int .i64 (y11.2)) rfl rfl ?_
 refine EL_nil (thn_n ?_)
 obtain ⟨t5, hx, h⟩ := bsome h
 refine E_join (fun e w => ∃ (g : Gh) , Fr gI wI g w ∧ e 0 = .bool (t5)) (fun Q' hQ => ?_) (fun bA yA hR => ?_)
 ·replace h := hx
  clear hx
  refine E_region (EL_mw (.int .i64 (y4.2.2)) rfl rfl ?_)
  refine EL_in (.bool ((y4.2.2 == (0 : Int)))) rfl rfl rfl rfl ?_
  refine EL_mw (.bool ((y4.2.2 == (0 : Int)))) rfl rfl ?_
  rcases csome h with ⟨u3, h⟩ | ⟨u3, h⟩
  ·refine EL_y (.int .i64 (y11.2)) (P_move rfl) rfl rfl u3 rfl ?_
   refine EL_y (.bool ((y11.2 == (0 : Int)))) (P_int rfl rfl rfl) rfl rfl u3 rfl ?_
   refine EL_p (.bool ((y11.2 == (0 : Int)))) (P_pick (b := (y4.2.2 == (0 : Int))) rfl (pick_t u3 rfl)) rfl ?_
   refine EL_mw (.bool ((y11.2 == (0 : Int)))) rfl rfl ?_
   rcases csome h with ⟨o0, h⟩ | ⟨o0, h⟩
   ·refine EL_y l5 (P_move rfl) rfl rfl o0 rfl ?_
    refine EL_do (.yes2 rfl rfl o0) rfl (D_buildSlice (g := i7) 3028 (xs := ([(⟨[120, 46, 46, 46, 46, 46]⟩ : Str), (⟨[46, 120, 120, 46, 120, 120]⟩ : Str)] : List Str)) (vs := [Str.v (⟨[120, 46, 46, 46, 46, 46]⟩ : Str), Str.v (⟨[46, 120, 120, 46, 120, 120]⟩ : Str)]) Tryd.underlying57 Tryd.sizeOf9 Tryd.zeroValue9 rfl rfl (.cons rfl (.cons rfl .nil)) (RVs.cons (RV_str.2 rfl) (RVs.cons (RV_str.2 rfl) RVs.nil)) rfl rfl fun x8 aB a9 hs o19 d9 hxt hfl => ?_)
    have hfr := hfr.stp hs
    have x5 := x5.stp hs
    obtain ⟨y6, l8, h⟩ := bsome h
    refine EL_do (.yes2 rfl rfl o0) rfl (D_call (g := x8) (vs := [l5, a9]) en23 (.cons rfl (.cons rfl .nil)) (wk23 x5 d9 l8) fun k9 iA dB hs hr => ?_)
    have hfr := hfr.ext hs
    subst hr
    refine EL_p (.bool (y6)) (P_pick (b := (y11.2 == (0 : Int))) rfl (pick_t o0 rfl)) rfl ?_
    refine EL_at (.bool (y6)) rfl rfl ?_
    refine EL_nil ?_
    obtain rfl := sinj h
    exact hQ _ _ ⟨k9, hfr, rfl⟩
   ·refine EL_s rfl rfl o0 rfl rfl ?_
    refine EL_s rfl rfl o0 rfl rfl ?_
    refine EL_s rfl rfl o0 rfl rfl ?_
    refine EL_p (.bool false) (P_pick (b := (y11.2 == (0 : Int))) rfl (pick_f o0 rfl)) rfl ?_
    refine EL_at (.bool false) rfl rfl ?_
    refine EL_nil ?_
    obtain rfl := sinj h
    exact hQ _ _ ⟨i7, hfr, rfl⟩
  ·refine EL_s rfl rfl u3 rfl rfl ?_
   refine EL_s rfl rfl u3 rfl rfl ?_
   refine EL_p (.bool false) (P_pick (b := (y4.2.2 == (0 : Int))) rfl (pick_f u3 rfl)) rfl ?_
   refine EL_dead 5 rfl ?_
   refine EL_at (.bool false) rfl rfl ?_
   refine EL_nil ?_
   obtain rfl := sinj h
   exact hQ _ _ ⟨i7, hfr, rfl⟩
 ·clear hx
  obtain ⟨iB, hfr, m7⟩ := hR
  refine E_ret ?_
  obtain rfl := sinj h
  exact end1 rfl rfl (show _ = .bool (t5) from m7) ⟨_, hfr, rfl⟩
def f58 (x0 : ChainBelt) : Option (ChainChainBelt × Int) :=
 jn (σ := ChainChainBelt) (fun m7 =>
  some ((⟨x0, (x0).Hooks⟩ : ChainChainBelt), (0 : Int))
  ) fun k33 =>
 (f56 ((x0).Hooks)).bind fun i6 =>
 bif (!i6) then
  some ((⟨x0, (x0).Hooks⟩ : ChainChainBelt), (3 : Int))
 else
  bif (decide ((((x0).Cards).length : Int) > (60 : Int))) then
   some ((⟨x0, (x0).Hooks⟩ : ChainChainBelt), (5 : Int))
  else
   (f105 ((x0).Hooks) ((x0).Cards)).bind fun x6 =>
   bif (!x6) then
    some ((⟨x0, (x0).Hooks⟩ : ChainChainBelt), (2 : Int))
   else
    k33 ((⟨⟨0, []⟩, 0⟩ : ChainChainBelt))
theorem en58 : Enters Tryd.prog 58 := enters_of Tryd.func58 (by kernel_rfl) rfl
theorem wk58 {gI : Gh} {wI : World} {x0 : ChainBelt} {up0 : Value} (rp0 : RV gI.m wI x0 up0) {r : ChainChainBelt × Int} (h : f58 x0 = some r) : Fn Tryd.prog 58 #[up0] gI wI (fun m w v => ∃ y0 y1, v = .tuple #[y0, y1] ∧ RV m w (r.1) y0 ∧ y1 = .int .i64 (r.2)) := by
 unfold f58 at h
 refine fn_of_E Tryd.func58 rfl (Nat.le_of_ble_eq_true rfl) fun g0 hm hfr => ?_
 have rp0 : RV g0.m wI x0 up0 := hm ▸ rp0
 show E _ 30 none _ _ _ _ _
 refine E_seq (E_region (EL_do .plain rfl (D_box (g := g0) rfl rp0 fun g1 w1 p1 hs q1 => ?_)))
 have hfr := hfr.ext hs
 refine EL_do .plain rfl (D_allocOc (g := g1) 2002 (⟨⟨0, []⟩, 0⟩ : ChainChainBelt) Tryd.zeroValue139 (fun m w => ⟨_, (rep_two (rep_two rep_int rep_nil) rep_int), rfl⟩) fun g2 w2 p2 hs b2 cb => ?_)
 have hfr := hfr.stp hs
 have q1 := q1.stp hs
 have o0 : OSF 2002 60201 1 g2 w2 137 139 ([] : List ChainCard) p2 := cb.osf (by rfl)
 clear cb
 refine EL_at (.int .i64 (0)) rfl rfl ?_
 refine EL_nil (thn_n (E_seq (E_region (EL_do .plain rfl (D_load (g := g2) Tryd.isAgg67 Tryd.sizeOf67 rfl q1 fun v3 r3 => ?_)))))
 refine EL_p (fPtr p1 0) (P_fieldAddr at_67_0 rfl (PT.ptr q1)) rfl ?_
 have q4 := PT_field (part_ChainBelt_0).1 q1
 refine EL_do .plain rfl (D_load (g := g2) Tryd.isAgg3 Tryd.sizeOf3 rfl q4 fun v5 r5 => ?_)
 obtain rfl := RV_int.1 r5
 have r6 : RV g2.m _ (⟨x0, (x0).Hooks⟩ : ChainChainBelt) (.agg (setCh [[.int .i64 0, .slice none 0 0], [.int .i64 0]] [(0, v3), (1, .int .i64 ((x0).Hooks))]).flatten.toArray) := RV_build rfl (rep_pair (RV.cells r3) (rep_last (rfl)))
 generalize n9 : (Value.agg (setCh [[.int .i64 0, .slice none 0 0], [.int .i64 0]] [(0, v3), (1, .int .i64 ((x0).Hooks))]).flatten.toArray) = v6 at r6
 refine EL_p v6 (n9 ▸ P_build (vs := [(0, v3), (1, .int .i64 ((x0).Hooks))]) [[.int .i64 0, .slice none 0 0], [.int .i64 0]] lay_139 rfl rfl (.cons rfl (.cons rfl .nil)) ⟨⟨_, rfl, cells_size r3⟩, ⟨⟨_, rfl, rfl⟩, trivial⟩⟩) rfl ?_
 refine EL_do .plain rfl (D_allocOc (g := g2) 2004 (⟨⟨0, []⟩, 0⟩ : ChainChainBelt) Tryd.zeroValue139 (fun m w => ⟨_, (rep_two (rep_two rep_int rep_nil) rep_int), rfl⟩) fun g7 w7 p7 hs b7 cb => ?_)
 have hfr := hfr.stp hs
 have q1 := q1.stp hs
 have o0 := o0.stp hs rfl
 have b2 := b2.stp hs rfl
 have r6 := r6.stp hs
 have vB : OSF 2004 60401 1 g7 w7 137 139 ([] : List ChainCard) p7 := cb.osf (by rfl)
 clear cb
 refine EL_do .plain rfl (D_storeOc (g := g7) (v := v6) Tryd.sizeOf139 rfl b7 rfl r6 fun g8 w8 hs b8 cb => ?_)
 clear cb
 have hfr := hfr.stp hs
 have q1 := q1.stp hs
 have o0 := o0.stp hs rfl
 have b2 := b2.stp hs rfl
 refine EL_nil (thn_n (E_joinC h (fun (s : ChainChainBelt) e w => ∃ (g : Gh) , Fr gI wI g w ∧ e 2 = p2 ∧ OB 2002 g w 139 (s : ChainChainBelt) p2 ∧ OSF 2002 60201 1 g w 137 139 (((s).ChainBelt).Cards) p2 ∧ e 4 = p7 ∧ OB 2004 g w 139 ((⟨x0, (x0).Hooks⟩ : ChainChainBelt) : ChainChainBelt) p7) (fun X33 k33 r8 h => ?_) ?_))
 ·refine E_block ?_
  refine E_seq (E_region (EL_p (fPtr p7 2) (P_fieldAddr at_139_1 rfl (OB.ptr b8)) rfl ?_))
  refine EL_do .plain rfl (D_loadF (g := g8) part_ChainChainBelt_1.1 Tryd.isAgg134 Tryd.sizeOf134 rfl b8 fun mC u9 => ?_)
  obtain rfl := RV_int.1 u9
  obtain ⟨i6, v8, h⟩ := bsome h
  refine EL_do .plain rfl (D_call (g := g8) (vs := [.int .i64 ((x0).Hooks)]) en56 (.cons rfl .nil) (wk56  v8) fun u3 yB qC hs hr => ?_)
  have hfr := hfr.ext hs
  have q1 := q1.ext hs
  have o0 := o0.ext hs
  have b2 := b2.ext hs
  have b8 := b8.ext hs
  subst hr
  refine EL_p (.bool (!i6)) (P_not rfl) rfl ?_
  refine EL_at (.bool (!i6)) rfl rfl ?_
  refine EL_nil (thn_n ?_)
  rcases csome h with ⟨l5, h⟩ | ⟨l5, h⟩
  ·refine E_ct l5 rfl ?_
   refine E_seq (E_region (EL_do .plain rfl (D_loadO (g := u3) Tryd.isAgg139 Tryd.sizeOf139 rfl b8 fun y9 z9 => ?_)))
   refine EL_do .plain rfl (D_storeOc (g := u3) (v := y9) Tryd.sizeOf139 rfl b2 rfl z9 fun rC uC hs b40 cb => ?_)
   clear cb
   have hfr := hfr.stp hs
   refine EL_at (.int .i64 (3)) rfl rfl ?_
   refine EL_nil (thn_n (E_ret (blk_r ?_)))
   refine thn_r ?_
   obtain rfl := sinj h
   obtain ⟨ad41, cv41, hp41, x8, cr41⟩ := ob_read Tryd.isAgg139 Tryd.sizeOf139 b40
   exact endm_ct rfl rfl ((show _ = p2 from rfl).trans hp41) x8 (show _ = .int .i64 (3) from rfl) ⟨_, hfr, _, _, rfl, cr41, rfl⟩
  ·refine E_cf l5 rfl ?_
   refine E_seq (E_region (EL_p (fPtr p1 1) (P_fieldAddr at_67_1 rfl (PT.ptr q1)) rfl ?_))
   have bA := PT_field (part_ChainBelt_1).1 q1
   refine EL_do .plain rfl (D_load (g := u3) Tryd.isAgg65 Tryd.sizeOf65 rfl bA fun vC iA => ?_)
   refine EL_p (.int .i64 (((x0).Cards).length : Int)) (P_len Tryd.underlying65 rfl iA) rfl ?_
   refine EL_p (.bool ((decide ((((x0).Cards).length : Int) > (60 : Int))))) (P_int rfl rfl rfl) rfl ?_
   refine EL_p (.bool ((decide ((((x0).Cards).length : Int) > (60 : Int))))) (P_assign rfl) rfl ?_
   refine EL_nil (thn_n ?_)
   rcases csome h with ⟨t5, h⟩ | ⟨t5, h⟩
   ·refine E_ct t5 rfl ?_
    refine E_seq (E_region (EL_do .plain rfl (D_loadO (g := u3) Tryd.isAgg139 Tryd.sizeOf139 rfl b8 fun rA yA => ?_)))
    refine EL_do .plain rfl (D_storeOc (g := u3) (v := rA) Tryd.sizeOf139 rfl b2 rfl yA fun aD bD hs b46 cb => ?_)
    clear cb
    have hfr := hfr.stp hs
    refine EL_at (.int .i64 (5)) rfl rfl ?_
    refine EL_nil (thn_n (E_ret (blk_r ?_)))
    refine thn_r ?_
    obtain rfl := sinj h
    obtain ⟨ad47, cv47, hp47, a9, cr47⟩ := ob_read Tryd.isAgg139 Tryd.sizeOf139 b46
    exact endm_ct rfl rfl ((show _ = p2 from rfl).trans hp47) a9 (show _ = .int .i64 (5) from rfl) ⟨_, hfr, _, _, rfl, cr47, rfl⟩
   ·refine E_cf t5 rfl ?_
    refine E_seq (E_region (EL_p (fPtr p7 2) (P_fieldAddr at_139_1 rfl (OB.ptr b8)) rfl ?_))
    refine EL_do .plain rfl (D_loadF (g := u3) part_ChainChainBelt_1.1 Tryd.isAgg134 Tryd.sizeOf134 rfl b8 fun cD aB => ?_)
    obtain rfl := RV_int.1 aB
    refine EL_p (fPtr p1 1) (P_fieldAddr at_67_1 rfl (PT.ptr q1)) rfl ?_
    have dB := PT_field (part_ChainBelt_1).1 q1
    refine EL_do .plain rfl (D_load (g := u3) Tryd.isAgg65 Tryd.sizeOf65 rfl dB fun iB lB => ?_)
    obtain ⟨x6, d9, h⟩ := bsome h
    refine EL_do .plain rfl (D_call (g := u3) (vs := [.int .i64 ((x0).Hooks), iB]) en105 (.cons rfl (.cons rfl .nil)) (wk105 lB d9) fun i7 zB eD hs hr => ?_)
    have hfr := hfr.ext hs
    have o0 := o0.ext hs
    have b2 := b2.ext hs
    have b8 := b8.ext hs
    subst hr
    refine EL_p (.bool (!x6)) (P_not rfl) rfl ?_
    refine EL_at (.bool (!x6)) rfl rfl ?_
    refine EL_nil (thn_n ?_)
    rcases csome h with ⟨x5, h⟩ | ⟨x5, h⟩
    ·refine E_ct x5 rfl ?_
     refine E_seq (E_region (EL_do .plain rfl (D_loadO (g := i7) Tryd.isAgg139 Tryd.sizeOf139 rfl b8 fun mB nB => ?_)))
     refine EL_do .plain rfl (D_storeOc (g := i7) (v := mB) Tryd.sizeOf139 rfl b2 rfl nB fun gD iD hs b56 cb => ?_)
     clear cb
     have hfr := hfr.stp hs
     refine EL_at (.int .i64 (2)) rfl rfl ?_
     refine EL_nil (thn_n (E_ret (blk_r ?_)))
     refine thn_r ?_
     obtain rfl := sinj h
     obtain ⟨ad57, cv57, hp57, k9, cr57⟩ := ob_read Tryd.isAgg139 Tryd.sizeOf139 b56
     exact endm_ct rfl rfl ((show _ = p2 from rfl).trans hp57) k9 (show _ = .int .i64 (2) from rfl) ⟨_, hfr, _, _, rfl, cr57, rfl⟩
    ·refine E_cf x5 rfl ?_
     exact E_skip (blk_n (thn_n (r8 ((⟨⟨0, []⟩, 0⟩ : ChainChainBelt)) _ _ ⟨i7, hfr, rfl, b2, o0, rfl, b8⟩ h)))
 ·rintro m7 cC jD ⟨n8, hfr, y6, k8, u2_1_58, l8, m8⟩ h
  refine E_seq (E_region (EL_do .plain rfl (D_loadO (g := n8) Tryd.isAgg139 Tryd.sizeOf139 l8 m8 fun oB tB => ?_)))
  refine EL_do .plain rfl (D_storeOc (g := n8) (v := oB) Tryd.sizeOf139 y6 k8 rfl tB fun lD nD hs b60 cb => ?_)
  clear cb
  have hfr := hfr.stp hs
  refine EL_at (.int .i64 (0)) rfl rfl ?_
  refine EL_nil (thn_n (E_ret ?_))
  obtain rfl := sinj h
  obtain ⟨ad61, cv61, hp61, l9, cr61⟩ := ob_read Tryd.isAgg139 Tryd.sizeOf139 b60
  exact endm_ct rfl rfl ((show _ = p2 from y6).trans hp61) l9 (show _ = .int .i64 (0) from rfl) ⟨_, hfr, _, _, rfl, cr61, rfl⟩
def f21 (x0 : ChainBelt) (x1 : Int) (x2 : List Int) : Option ((List Int) × Int × Int) :=
 (f58 x0).bind fun y4 =>
 jn (σ := (List Int)) (fun y9 =>
  Option.bind (α := (List Int) × Int) (
   lp (σ := (List Int) × Int × Int) (fun sD (k8, t5, u3) =>
    bif (decide (u3 < ((x2).length : Int))) then
     Option.bind (α := (List Int) × Int) (
      (idx x2 u3).bind fun n8 =>
      (f60 (y4.1) t5).bind fun y80 =>
      (apnd 8 k8 (([y80] : List Int))).bind fun tD =>
      (f61 (y4.1) t5 n8).bind fun dB =>
      some (tD, dB)
      ) fun (x6, i7) =>
     sD (x6, i7, (w64 (u3 + (1 : Int))))
    else
     some (k8, t5)
    ) big (y9, x1, (0 : Int))
   ) fun (m7, y6) =>
  some (m7, y6, (0 : Int))
  ) fun k18 =>
 bif (y4.2 != (0 : Int)) then
  some ([], (0 : Int), y4.2)
 else
  (f59 ((0 : Int)) ((w64 ((((x0).Cards).length : Int) - (1 : Int)))) (([x1] : List Int))).bind fun z9 =>
  bif (!z9) then
   some ([], (0 : Int), (7 : Int))
  else
   bif (decide (((x2).length : Int) > (60 : Int))) then
    some ([], (0 : Int), (5 : Int))
   else
    (f59 ((0 : Int)) ((2 : Int)) x2).bind fun bA =>
    bif (!bA) then
     some ([], (0 : Int), (2 : Int))
    else
     k18 ([])
theorem en21 : Enters Tryd.prog 21 := enters_of Tryd.func21 (by kernel_rfl) rfl
theorem wk21 {gI : Gh} {wI : World} {x0 : ChainBelt} {x1 : Int} {x2 : List Int} {up0 : Value} (rp0 : RV gI.m wI x0 up0) {up2 : Value} (rp2 : RV gI.m wI x2 up2) {r : (List Int) × Int × Int} (h : f21 x0 x1 x2 = some r) : Fn Tryd.prog 21 #[up0, .int .i64 (x1), up2] gI wI (fun m w v => ∃ y0 y1 y2, v = .tuple #[y0, y1, y2] ∧ RV m w (r.1) y0 ∧ y1 = .int .i64 (r.2.1) ∧ y2 = .int .i64 (r.2.2)) := by
 unfold f21 at h
 refine fn_of_E Tryd.func21 rfl (Nat.le_of_ble_eq_true rfl) fun g0 hm hfr => ?_
 have rp0 : RV g0.m wI x0 up0 := hm ▸ rp0
 have rp2 : RV g0.m wI x2 up2 := hm ▸ rp2
 show E _ 58 none _ _ _ _ _
 refine E_seq (E_region (EL_do .plain rfl (D_box (g := g0) rfl rp0 fun g1 w1 p1 hs q1 => ?_)))
 have hfr := hfr.ext hs
 have rp2 := rp2.ext hs
 refine EL_at (.slice none 0 0) rfl rfl ?_
 refine EL_at (.int .i64 (0)) rfl rfl ?_
 refine EL_at (.int .i64 (0)) rfl rfl ?_
 refine EL_nil (thn_n (E_seq (E_region (EL_do .plain rfl (D_load (g := g1) Tryd.isAgg67 Tryd.sizeOf67 rfl q1 fun v2 r2 => ?_)))))
 obtain ⟨y4, mE, h⟩ := bsome h
 refine EL_do .plain rfl (D_call (g := g1) (vs := [v2]) en58 (.cons rfl .nil) (wk58 r2 mE) fun g3 w3_ v3 hs hr => ?_)
 have hfr := hfr.ext hs
 have rp2 := rp2.ext hs
 have q1 := q1.ext hs
 obtain ⟨x8, cG, rfl, a9, rfl⟩ := hr
 refine EL_mw (.tuple #[x8, .int .i64 (y4.2)]) rfl rfl ?_
 refine EL_p x8 (P_extract rfl rfl) rfl ?_
 refine EL_p (.int .i64 (y4.2)) (P_extract rfl rfl) rfl ?_
 refine EL_do .plain rfl (D_allocOc (g := g3) 2009 (⟨⟨0, []⟩, 0⟩ : ChainChainBelt) Tryd.zeroValue139 (fun m w => ⟨_, (rep_two (rep_two rep_int rep_nil) rep_int), rfl⟩) fun g5 w5 p5 hs b5 cb => ?_)
 have hfr := hfr.stp hs
 have rp2 := rp2.stp hs
 have q1 := q1.stp hs
 have a9 := a9.stp hs
 have eG : OSF 2009 60901 1 g5 w5 137 139 ([] : List ChainCard) p5 := cb.osf (by rfl)
 clear cb
 refine EL_do .plain rfl (D_storeOc (g := g5) (v := x8) Tryd.sizeOf139 rfl b5 rfl a9 fun g6 w6 hs b6 cb => ?_)
 clear cb
 have hfr := hfr.stp hs
 have rp2 := rp2.stp hs
 have q1 := q1.stp hs
 refine EL_at (.int .i64 (y4.2)) rfl rfl ?_
 refine EL_nil (thn_n (E_joinC h (fun (s : (List Int)) e w => ∃ (g : Gh) (v6 : Value), Fr gI wI g w ∧ e 1 = .int .i64 (x1) ∧ e 2 = up2 ∧ RV g.m w (x2 : List Int) up2 ∧ e 6 = v6 ∧ RV g.m w (s : List Int) v6 ∧ OS 1006 g w 3 (s : List Int) v6 ∧ e 9 = p5 ∧ OB 2009 g w 139 (y4.1 : ChainChainBelt) p5) (fun X18 k18 xD h => ?_) ?_))
 ·refine E_block ?_
  refine E_seq (E_region (EL_mw (.int .i64 (y4.2)) rfl rfl ?_))
  refine EL_in (.bool ((y4.2 != (0 : Int)))) rfl rfl rfl rfl ?_
  refine EL_at (.bool ((y4.2 != (0 : Int)))) rfl rfl ?_
  refine EL_nil (thn_n ?_)
  rcases csome h with ⟨d9, h⟩ | ⟨d9, h⟩
  ·refine E_ct d9 rfl ?_
   refine E_seq (E_region (EL_mw (.int .i64 (y4.2)) rfl rfl ?_))
   refine EL_at (.slice none 0 0) rfl rfl ?_
   refine EL_at (.int .i64 (0)) rfl rfl ?_
   refine EL_at (.int .i64 (y4.2)) rfl rfl ?_
   refine EL_nil (thn_n (E_ret (blk_r ?_)))
   refine thn_r ?_
   obtain rfl := sinj h
   exact end3 rfl rfl (show _ = .slice none 0 0 from rfl) (show _ = .int .i64 (0) from rfl) (show _ = .int .i64 (y4.2) from rfl) ⟨_, hfr, _, _, _, rfl, RV_nil, rfl, rfl⟩
  ·refine E_cf d9 rfl ?_
   refine E_seq (E_region (EL_p (fPtr p1 1) (P_fieldAddr at_67_1 rfl (PT.ptr q1)) rfl ?_))
   have oE := PT_field (part_ChainBelt_1).1 q1
   refine EL_do .plain rfl (D_load (g := g6) Tryd.isAgg65 Tryd.sizeOf65 rfl oE fun xG rE => ?_)
   refine EL_p (.int .i64 (((x0).Cards).length : Int)) (P_len Tryd.underlying65 rfl rE) rfl ?_
   refine EL_p (.int .i64 ((w64 ((((x0).Cards).length : Int) - (1 : Int))))) (P_int rfl rfl rfl) rfl ?_
   refine EL_mw (.int .i64 (x1)) rfl rfl ?_
   refine EL_do .plain rfl (D_buildSlice (g := g6) 3027 (xs := ([x1] : List Int)) (vs := [.int .i64 (x1)]) Tryd.underlying34 Tryd.sizeOf3 Tryd.zeroValue3 rfl rfl (.cons rfl .nil) (RVs.cons (RV_int.2 rfl) RVs.nil) rfl rfl fun uE yG vE hs o22 xE hxt hfl => ?_)
   have hfr := hfr.stp hs
   have rp2 := rp2.stp hs
   have b6 := b6.stp hs rfl
   obtain ⟨z9, yD, h⟩ := bsome h
   refine EL_do .plain rfl (D_call (g := uE) (vs := [.int .i64 (0), .int .i64 ((w64 ((((x0).Cards).length : Int) - (1 : Int)))), vE]) en59 (.cons rfl (.cons rfl (.cons rfl .nil))) (wk59 xE yD) fun yE gG zG hs hr => ?_)
   have hfr := hfr.ext hs
   have rp2 := rp2.ext hs
   have b6 := b6.ext hs
   subst hr
   refine EL_p (.bool (!z9)) (P_not rfl) rfl ?_
   refine EL_at (.bool (!z9)) rfl rfl ?_
   refine EL_nil (thn_n ?_)
   rcases csome h with ⟨k9, h⟩ | ⟨k9, h⟩
   ·refine E_ct k9 rfl ?_
    refine E_seq (E_region (EL_at (.slice none 0 0) rfl rfl ?_))
    refine EL_at (.int .i64 (0)) rfl rfl ?_
    refine EL_at (.int .i64 (7)) rfl rfl ?_
    refine EL_nil (thn_n (E_ret (blk_r ?_)))
    refine thn_r ?_
    obtain rfl := sinj h
    exact end3 rfl rfl (show _ = .slice none 0 0 from rfl) (show _ = .int .i64 (0) from rfl) (show _ = .int .i64 (7) from rfl) ⟨_, hfr, _, _, _, rfl, RV_nil, rfl, rfl⟩
   ·refine E_cf k9 rfl ?_
    refine E_seq (E_region (EL_mw up2 rfl rfl ?_))
    refine EL_p (.int .i64 ((x2).length : Int)) (P_len Tryd.underlying34 rfl rp2) rfl ?_
    refine EL_in (.bool ((decide (((x2).length : Int) > (60 : Int))))) rfl rfl rfl rfl ?_
    refine EL_at (.bool ((decide (((x2).length : Int) > (60 : Int))))) rfl rfl ?_
    refine EL_nil (thn_n ?_)
    rcases csome h with ⟨l9, h⟩ | ⟨l9, h⟩
    ·refine E_ct l9 rfl ?_
     refine E_seq (E_region (EL_at (.slice none 0 0) rfl rfl ?_))
     refine EL_at (.int .i64 (0)) rfl rfl ?_
     refine EL_at (.int .i64 (5)) rfl rfl ?_
     refine EL_nil (thn_n (E_ret (blk_r ?_)))
     refine thn_r ?_
     obtain rfl := sinj h
     exact end3 rfl rfl (show _ = .slice none 0 0 from rfl) (show _ = .int .i64 (0) from rfl) (show _ = .int .i64 (5) from rfl) ⟨_, hfr, _, _, _, rfl, RV_nil, rfl, rfl⟩
    ·refine E_cf l9 rfl ?_
     refine E_seq (E_region (EL_mw up2 rfl rfl ?_))
     obtain ⟨bA, zD, h⟩ := bsome h
     refine EL_do .plain rfl (D_call (g := yE) (vs := [.int .i64 (0), .int .i64 (2), up2]) en59 (.cons rfl (.cons rfl (.cons rfl .nil))) (wk59 rp2 zD) fun zE hG aH hs hr => ?_)
     have hfr := hfr.ext hs
     have rp2 := rp2.ext hs
     have b6 := b6.ext hs
     subst hr
     refine EL_p (.bool (!bA)) (P_not rfl) rfl ?_
     refine EL_at (.bool (!bA)) rfl rfl ?_
     refine EL_nil (thn_n ?_)
     rcases csome h with ⟨n9, h⟩ | ⟨n9, h⟩
     ·refine E_ct n9 rfl ?_
      refine E_seq (E_region (EL_at (.slice none 0 0) rfl rfl ?_))
      refine EL_at (.int .i64 (0)) rfl rfl ?_
      refine EL_at (.int .i64 (2)) rfl rfl ?_
      refine EL_nil (thn_n (E_ret (blk_r ?_)))
      refine thn_r ?_
      obtain rfl := sinj h
      exact end3 rfl rfl (show _ = .slice none 0 0 from rfl) (show _ = .int .i64 (0) from rfl) (show _ = .int .i64 (2) from rfl) ⟨_, hfr, _, _, _, rfl, RV_nil, rfl, rfl⟩
     ·refine E_cf n9 rfl ?_
      exact E_skip (blk_n (thn_n (xD ([]) _ _ ⟨zE, (.slice none 0 0), hfr, rfl, rfl, rp2, rfl, RV_nil, OS.nil, rfl, b6⟩ h)))
 ·rintro y9 iG cH ⟨cF, vB, hfr, yB, zB, iA, cC, mC, qC, rC, uC⟩ h
  refine E_seq (E_region (EL_mv yB rfl ?_))
  refine EL_at (.int .i64 (x1)) rfl rfl ?_
  refine EL_nil (thn_n ?_)
  obtain ⟨⟨m7, y6⟩, hx, h⟩ := bsome h
  refine E_join (fun e w => ∃ (g : Gh) (v6 : Value), Fr gI wI g w ∧ e 6 = v6 ∧ RV g.m w (m7 : List Int) v6 ∧ OS 1006 g w 3 (m7 : List Int) v6 ∧ e 7 = .int .i64 (y6)) (fun Q' hQ => ?_) (fun jG dH hR => ?_)
  ·replace h := hx
   clear hx
   refine E_seq (E_region (EL_mv zB rfl ?_))
   refine EL_p (.int .i64 ((x2).length : Int)) (P_len Tryd.underlying34 rfl iA) rfl ?_
   refine EL_mw (.int .i64 (0)) rfl rfl ?_
   refine EL_nil (thn_n (E_block ?_))
   refine E_lp h (fun (s : (List Int) × Int × Int) e w => ∃ (g : Gh) (v6 : Value), Fr gI wI g w ∧ e 6 = v6 ∧ RV g.m w (s.1 : List Int) v6 ∧ OS 1006 g w 3 (s.1 : List Int) v6 ∧ e 7 = .int .i64 (s.2.1) ∧ e 9 = p5 ∧ OB 2009 g w 139 (y4.1 : ChainChainBelt) p5 ∧ e 39 = up2 ∧ RV g.m w (x2 : List Int) up2 ∧ e 40 = .int .i64 (((x2).length : Int)) ∧ e 41 = .int .i64 (s.2.2)) ⟨cF, (vB), hfr, cC, mC, qC, rfl, rC, uC, rfl, iA, rfl, rfl⟩ (fun X59 sD aE => ?_)
   rintro ⟨k8, t5, u3⟩ kG gH ⟨rA, vC, hfr, yA, x5, i6, l8, m8, l5, r8, o0, v8, g8⟩ h
   refine E_seq (E_region (EL_in (.bool ((decide (u3 < ((x2).length : Int))))) g8 v8 rfl rfl ?_))
   refine EL_nil (thn_n (E_seq ?_))
   rcases csome h with ⟨u9, h⟩ | ⟨u9, h⟩
   ·refine E_ct u9 rfl ?_
    refine E_skip (thn_n ?_)
    obtain ⟨⟨x6, i7⟩, hx, h⟩ := bsome h
    refine E_join (fun e w => ∃ (g : Gh) (v6 : Value), Fr gI wI g w ∧ e 6 = v6 ∧ RV g.m w (x6 : List Int) v6 ∧ OS 1006 g w 3 (x6 : List Int) v6 ∧ e 7 = .int .i64 (i7) ∧ e 9 = p5 ∧ OB 2009 g w 139 (y4.1 : ChainChainBelt) p5 ∧ e 39 = up2 ∧ RV g.m w (x2 : List Int) up2 ∧ e 40 = .int .i64 (((x2).length : Int)) ∧ e 41 = .int .i64 (u3)) (fun Q' hQ => ?_) (fun lG iH hR => ?_)
    ·replace h := hx
     clear hx
     refine E_block ?_
     refine E_seq (E_region ?_)
     obtain ⟨n8, iB, h⟩ := bsome h
     refine EL_p (ePtr up2 u3 1) (P_indexAddr (α := Int) Tryd.underlying34 Tryd.sizeOf3 r8 o0 g8 iB) rfl ?_
     have dF := PT_idx o0 iB
     refine EL_do .plain rfl (D_load (g := rA) Tryd.isAgg3 Tryd.sizeOf3 rfl dF fun jH eF => ?_)
     obtain rfl := RV_int.1 eF
     refine EL_at (.int .i64 (n8)) rfl rfl ?_
     refine EL_nil (thn_n (E_seq (E_region (EL_mv yA rfl ?_))))
     refine EL_do .plain rfl (D_loadO (g := rA) Tryd.isAgg139 Tryd.sizeOf139 m8 l5 fun rF sF => ?_)
     refine EL_mv l8 rfl ?_
     obtain ⟨y80, bE, h⟩ := bsome h
     refine EL_do .plain rfl (D_call (g := rA) (vs := [rF, .int .i64 (t5)]) en60 (.cons rfl (.cons rfl .nil)) (wk60 sF bE) fun tF mG kH hs hr => ?_)
     have hfr := hfr.ext hs
     have x5 := x5.ext hs
     have i6 := i6.ext hs
     have l5 := l5.ext hs
     have o0 := o0.ext hs
     subst hr
     refine EL_do .plain rfl (D_buildSlice (g := tF) 3049 (xs := ([y80] : List Int)) (vs := [.int .i64 (y80)]) Tryd.underlying34 Tryd.sizeOf3 Tryd.zeroValue3 rfl rfl (.cons rfl .nil) (RVs.cons (RV_int.2 rfl) RVs.nil) rfl rfl fun uF lH mH hs o81 vF hxt hfl => ?_)
     have hfr := hfr.stp hs
     have x5 := x5.stp hs
     have i6 := i6.stp hs rfl
     have l5 := l5.stp hs rfl
     have o0 := o0.stp hs
     obtain ⟨tD, iE, h⟩ := bsome h
     refine EL_do .plain rfl (D_append (g := uF) (i := 1006) Tryd.underlying34 info_3 rfl rfl i6 x5 rfl vF iE fun uD nH vD hs o82 lB _ => ?_)
     have hfr := hfr.stp hs
     have l5 := l5.stp hs rfl
     have o0 := o0.stp hs
     refine EL_at vD rfl rfl ?_
     refine EL_nil (thn_n (E_region (EL_do .plain rfl (D_loadO (g := uD) Tryd.isAgg139 Tryd.sizeOf139 m8 l5 fun xF yF => ?_))))
     refine EL_mv l8 rfl ?_
     refine EL_mw (.int .i64 (n8)) rfl rfl ?_
     obtain ⟨dB, lE, h⟩ := bsome h
     refine EL_do .plain rfl (D_call (g := uD) (vs := [xF, .int .i64 (t5), .int .i64 (n8)]) en61 (.cons rfl (.cons rfl (.cons rfl .nil))) (wk61 yF lE) fun zF sG oH hs hr => ?_)
     have hfr := hfr.ext hs
     have lB := lB.ext hs
     have o82 := o82.ext hs
     have l5 := l5.ext hs
     have o0 := o0.ext hs
     subst hr
     refine EL_at (.int .i64 (dB)) rfl rfl ?_
     refine EL_nil (blk_n ?_)
     obtain ⟨rfl, rfl⟩ := pairs2 h
     exact hQ _ _ ⟨zF, (vD), hfr, rfl, lB, o82, rfl, m8, l5, r8, o0, v8, g8⟩
    ·clear hx
     obtain ⟨aG, aD, hfr, bD, cD, eD, gD, iD, jD, mB, nB, oB, tB⟩ := hR
     refine E_region (EL_in (.int .i64 ((w64 (u3 + (1 : Int))))) tB rfl rfl rfl ?_)
     refine EL_mw (.int .i64 ((w64 (u3 + (1 : Int))))) rfl rfl ?_
     exact EL_nil (thn_n (aE (x6, i7, (w64 (u3 + (1 : Int)))) _ _ ⟨aG, (aD), hfr, bD, cD, eD, gD, iD, jD, mB, nB, oB, rfl⟩ h))
   ·refine E_cf u9 rfl ?_
    refine E_exit ?_
    refine thn_e ?_
    refine thn_e ?_
    refine blk_hit ?_
    obtain ⟨rfl, rfl⟩ := pairs2 h
    exact hQ _ _ ⟨rA, (vC), hfr, yA, x5, i6, l8⟩
  ·clear hx
   obtain ⟨pH, aB, hfr, lD, nD, bG, oD⟩ := hR
   refine E_seq (E_region (EL_mv lD rfl ?_))
   refine EL_mv oD rfl ?_
   refine EL_at aB rfl rfl ?_
   refine EL_at (.int .i64 (y6)) rfl rfl ?_
   refine EL_at (.int .i64 (0)) rfl rfl ?_
   refine EL_nil (thn_n (E_ret ?_))
   obtain rfl := sinj h
   exact end3 rfl rfl (show _ = aB from rfl) (show _ = .int .i64 (y6) from rfl) (show _ = .int .i64 (0) from rfl) ⟨_, hfr, _, _, _, rfl, nD, rfl, rfl⟩
def f4 (x0 : Loom) : Option (Bool) :=
 (f13 x0).bind fun y4 =>
 (f14 x0).bind fun y7 =>
 (f16 y4).bind fun xF =>
 (f17 y7).bind fun yF =>
 (f15 xF yF).bind fun x6 =>
 (f19 ((x6.1 : List Str))).bind fun gQ =>
 (f18 gQ).bind fun u3 =>
 jn (σ := Unit) (fun _ =>
  (f20 (u3.2.1)).bind fun y6 =>
  jn (σ := Unit) (fun _ =>
   (f22 ((((y7).Rows).length : Int)) ((1 : Int))).bind fun aE =>
   (f21 (y6.1) ((0 : Int)) aE).bind fun y158 =>
   (f15 (u3.1) ((⟨(u3.1).Hooks, (y158.1 : List Int)⟩ : Design))).bind fun i6 =>
   Option.bind (α := (List ((Vector Bool 10) × Bool))) (
    lp (σ := (List ((Vector Bool 10) × Bool)) × Int) (fun qL (r8, t5) =>
     jn (σ := Unit) (fun _ =>
      Option.bind (α := (List ((Vector Bool 10) × Bool))) (
       Option.bind (α := (Vector Bool 10)) (
        lp (σ := (Vector Bool 10) × Int) (fun rL (dB, x5) =>
         jn (σ := Unit) (fun _ =>
          Option.bind (α := (Vector Bool 10)) (
           (idx ((y7).Rows) x5).bind fun qI =>
           (idx ((y4).Warps) t5).bind fun jH =>
           (shr64 qI ((wu64 jH))).bind fun rE =>
           (idx (dB).toList x5).bind fun nQ =>
           some ((vset dB x5 (((bit64 .and rE (1 : Int)) == (1 : Int)))))
           ) fun cD =>
          rL (cD, (w64 (x5 + (1 : Int))))
          ) fun tL =>
         bif (decide (x5 < (((y7).Rows).length : Int))) then
          tL ()
         else
          some (dB)
         ) big ((⟨List.toArray [false, false, false, false, false, false, false, false, false, false], rfl⟩ : Vector Bool 10), (0 : Int))
        ) fun bE =>
       some ((mset r8 bE true))
       ) fun eD =>
      qL (eD, (w64 (t5 + (1 : Int))))
      ) fun uL =>
     bif (decide (t5 < (((y4).Warps).length : Int))) then
      uL ()
     else
      some (r8)
     ) big (([] : List ((Vector Bool 10) × Bool)), (0 : Int))
    ) fun x8 =>
   Option.bind (α := Bool) (
    bif (y158.2.2 == (0 : Int)) then
     bif (i6.2 == (0 : Int)) then
      (f23 (i6.1) ((x6.1 : List Str))).bind fun gD =>
      bif gD then
       bif (((x8).length : Int) == (u3.1).Hooks) then
        (f24).bind fun iD =>
        bif iD then
         (f25).bind fun oE =>
         some (oE)
        else
         some (false)
       else
        some (false)
      else
       some (false)
     else
      some (false)
    else
     some (false)
    ) fun jD =>
   some (jD)
   ) fun vL =>
  Option.bind (α := Bool) (
   bif (y6.2 != (0 : Int)) then
    some (true)
   else
    bif ((((y6.1).Cards).length : Int) != (((y7).Rows).length : Int)) then
     some (true)
    else
     some (((y6.1).Hooks != (u3.1).Hooks))
   ) fun iB =>
  bif iB then
   some (false)
  else
   vL ()
  ) fun iQ =>
 Option.bind (α := Bool) (
  bif (x6.2 != (0 : Int)) then
   some (true)
  else
   bif (u3.2.2 != (0 : Int)) then
    some (true)
   else
    bif (decide ((u3.1).Hooks < (1 : Int))) then
     some (true)
    else
     some ((decide ((u3.1).Hooks > (y4).Hooks)))
  ) fun zB =>
 bif zB then
  some (false)
 else
  iQ ()
theorem wk4 {gI : Gh} {wI : World} {x0 : Loom} {up0 : Value} (rp0 : RV gI.m wI x0 up0) {r : Bool} (h : f4 x0 = some r) : Fn Tryd.prog 4 #[up0] gI wI (fun _ _ v => v = .bool (r)) := by
 unfold f4 at h
 refine fn_of_E Tryd.func4 rfl (Nat.le_of_ble_eq_true rfl) fun g0 hm hfr => ?_
 have rp0 : RV g0.m wI x0 up0 := hm ▸ rp0
 show E _ 158 none _ _ _ _ _
 refine E_seq (E_region (EL_do .plain rfl (D_box (g := g0) rfl rp0 fun g1 w1 p1 hs q1 => ?_)))
 have hfr := hfr.ext hs
 refine EL_at (.bool false) rfl rfl ?_
 refine EL_nil (thn_n (E_seq (L_load (x := .tmp 1) Tryd.isAgg50 Tryd.sizeOf50 q1 fun v2 r2 hl2 => ?_)))
 obtain ⟨y4, oS, h⟩ := bsome h
 refine L_load (x := .tmp 1) Tryd.isAgg50 Tryd.sizeOf50 q1 fun v5 r5 pS => ?_
 obtain ⟨y7, qS, h⟩ := bsome h
 refine E_drawL (g := g1) (n := 6) [(1, (fun v g w => RV g.m w y4 v)), (3, (fun v g w => RV g.m w y7 v)), (4, (fun v g w => OB 2003 g w 52 (⟨0, []⟩ : TieHarness) v)), (5, (fun v g w => OB 2004 g w 55 (⟨0, []⟩ : Design) v))] [0, 1, 2, 3, 4, 5] rfl mixed (by kernel_rfl) (⟨fun _ => up_rv, fun _ => up_rv, fun _ => up_ob, fun _ => up_ob, trivial⟩) ?_
 refine L_ld (c := v2) rfl rfl .plain (fun _ _ h => h.ch) hl2 rfl ?_
 refine L_do (φ := fun v g w => RV g.m w y4 v) rfl rfl .plain (fun g w hd => D_call (g := g) (vs := [v2]) en13 (.cons rfl .nil) (wk13 (r2.ext hd.1) oS) fun g' w' v hs hr => ⟨g', hs, hr⟩) (fun v3 hv => ?_)
 obtain ⟨_, _, _, rq3⟩ := hv
 refine L_ld (c := v5) rfl rfl .plain (fun _ _ h => h.ch) pS rfl ?_
 refine L_do (φ := fun v g w => RV g.m w y7 v) rfl rfl .plain (fun g w hd => D_call (g := g) (vs := [v5]) en14 (.cons rfl .nil) (wk14 (r5.ext hd.1) qS) fun g' w' v hs hr => ⟨g', hs, hr⟩) (fun v6 hv => ?_)
 obtain ⟨_, _, _, rq6⟩ := hv
 refine L_do (φ := fun v g w => OB 2003 g w 52 (⟨0, []⟩ : TieHarness) v) rfl rfl .plain (fun g w hd => D_allocX (g := g) 2003 (⟨0, []⟩ : TieHarness) Tryd.zeroValue52 (fun m w => ⟨_, (rep_two rep_int rep_nil), rfl⟩) fun g' w' v hs b => ⟨g', hs, b⟩) (fun v8 hv => ?_)
 clear hv
 refine L_do (φ := fun v g w => OB 2004 g w 55 (⟨0, []⟩ : Design) v) rfl rfl .plain (fun g w hd => D_allocX (g := g) 2004 (⟨0, []⟩ : Design) Tryd.zeroValue55 (fun m w => ⟨_, (rep_two rep_int rep_nil), rfl⟩) fun g' w' v hs b => ⟨g', hs, b⟩) (fun v9 hv => ?_)
 clear hv
 refine L_nil fun rS vW hall => ?_
 have hs := hall.1
 have hfr := hfr.ext hs
 have sS := (word_all (A := fun g w => RV g.m w y4 v3) 1 rfl hall)
 have xL := (word_all (A := fun g w => RV g.m w y7 v6) 3 rfl hall)
 have b18 := (word_all (A := fun g w => OB 2003 g w 52 (⟨0, []⟩ : TieHarness) v8) 4 rfl hall)
 have b19 := (word_all (A := fun g w => OB 2004 g w 55 (⟨0, []⟩ : Design) v9) 5 rfl hall)
 clear hs hall
 refine EL_do .plain rfl (D_storeOc (g := rS) (v := v3) Tryd.sizeOf52 rfl b18 rfl sS fun tS xW hs b20 cb => ?_)
 clear cb
 have hfr := hfr.stp hs
 have xL := xL.stp hs
 have b19 := b19.stp hs rfl
 refine EL_do .plain rfl (D_storeOc (g := tS) (v := v6) Tryd.sizeOf55 rfl b19 rfl xL fun uS yW hs b21 cb => ?_)
 clear cb
 have hfr := hfr.stp hs
 have b20 := b20.stp hs rfl
 refine EL_nil (thn_n (E_seq (L_loadO0 (x := .tmp 3) Tryd.isAgg52 Tryd.sizeOf52 b20 fun jQ vS oQ => ?_)))
 obtain ⟨xF, pQ, h⟩ := bsome h
 refine L_loadO0 (x := .tmp 4) Tryd.isAgg55 Tryd.sizeOf55 b21 fun kQ xS qQ => ?_
 obtain ⟨yF, rQ, h⟩ := bsome h
 obtain ⟨x6, sQ, h⟩ := bsome h
 refine E_drawL (g := uS) (n := 10) [(1, (fun v g w => RV g.m w xF v)), (3, (fun v g w => RV g.m w yF v)), (4, (fun v g w => ∃ y0 y1 : Value, v = .tuple #[y0, y1] ∧ RV g.m w (x6.1 : List Str) y0 ∧ y1 = .int .i64 (x6.2)))] [0, 1, 2, 3, 4, 5, 6, 7, 8, 9] rfl mixed (by kernel_rfl) (⟨fun _ => up_rv, fun _ => up_rv, fun _ => (up_ex fun _ => (up_ex fun _ => (up_and (up_eq _) (up_and up_rv (up_eq _))))), trivial⟩) ?_
 refine L_ld (c := jQ) rfl rfl .plain (fun _ _ h => ⟨h.ch, fun b hb _ => h.below.block b hb⟩) oQ rfl ?_
 refine L_do (φ := fun v g w => RV g.m w xF v) rfl rfl .plain (fun g w hd => D_call (g := g) (vs := [jQ]) en16 (.cons rfl .nil) (wk16 (vS.ext hd.1) pQ) fun g' w' v hs hr => ⟨g', hs, hr⟩) (fun yL hv => ?_)
 obtain ⟨_, _, _, rq23⟩ := hv
 refine L_ld (c := kQ) rfl rfl .plain (fun _ _ h => ⟨h.ch, fun b hb _ => h.below.block b hb⟩) qQ rfl ?_
 refine L_do (φ := fun v g w => RV g.m w yF v) rfl rfl .plain (fun g w hd => D_call (g := g) (vs := [kQ]) en17 (.cons rfl .nil) (wk17 (xS.ext hd.1) rQ) fun g' w' v hs hr => ⟨g', hs, hr⟩) (fun zL hv => ?_)
 obtain ⟨_, _, _, rq26⟩ := hv
 refine L_do (φ := fun v g w => ∃ y0 y1 : Value, v = .tuple #[y0, y1] ∧ RV g.m w (x6.1 : List Str) y0 ∧ y1 = .int .i64 (x6.2)) rfl rfl .plain (fun g w hd => D_call (g := g) (vs := [yL, zL]) en15 (.cons rfl (.cons rfl .nil)) (wk15 (word (A := fun g w => RV g.m w xF yL) 1 rfl rfl (deps_of hd)) (word (A := fun g w => RV g.m w yF zL) 3 rfl rfl (deps_of hd)) sQ) fun g' w' v hs hr => ⟨g', hs, hr⟩) (fun zW hv => ?_)
 obtain ⟨_, _, _, o0, _, rfl, yS, rfl⟩ := hv
 refine L_p (.tuple #[o0, .int .i64 (x6.2)]) rfl rfl (P_move rfl) ?_
 refine L_p o0 rfl rfl (P_extract rfl rfl) ?_
 refine L_p (.int .i64 (x6.2)) rfl rfl (P_extract rfl rfl) ?_
 refine L_p o0 rfl rfl (P_assign rfl) ?_
 refine L_p (.int .i64 (x6.2)) rfl rfl (P_assign rfl) ?_
 refine L_nil fun zS aX hall => ?_
 have hs := hall.1
 have hfr := hfr.ext hs
 have b20 := b20.ext hs
 have b21 := b21.ext hs
 have bX := (word_all (A := fun g w => RV g.m w xF yL) 1 rfl hall)
 have cX := (word_all (A := fun g w => RV g.m w yF zL) 3 rfl hall)
 have dX := (tup2_0 (word_all (A := fun g w => ∃ y0 y1 : Value, Value.tuple #[o0, .int .i64 (x6.2)] = .tuple #[y0, y1] ∧ RV g.m w (x6.1 : List Str) y0 ∧ y1 = .int .i64 (x6.2)) 4 rfl hall))
 have y9 := (tup2_0 (word_all (A := fun g w => ∃ y0 y1 : Value, Value.tuple #[o0, .int .i64 (x6.2)] = .tuple #[y0, y1] ∧ RV g.m w (x6.1 : List Str) y0 ∧ y1 = .int .i64 (x6.2)) 4 rfl hall))
 clear hs hall
 refine EL_nil (thn_n (E_seq (E_region (EL_mw o0 rfl rfl ?_))))
 obtain ⟨gQ, tQ, h⟩ := bsome h
 refine EL_do .plain rfl (D_call (g := zS) (vs := [o0]) en19 (.cons rfl .nil) (wk19 y9 tQ) fun eT gV lT hs hr => ?_)
 have hfr := hfr.ext hs
 have b20 := b20.ext hs
 have b21 := b21.ext hs
 have y9 := y9.ext hs
 have mT := hr
 obtain ⟨u3, uQ, h⟩ := bsome h
 refine EL_do .plain rfl (D_call (g := eT) (vs := [lT]) en18 (.cons rfl .nil) (wk18 mT uQ) fun nT iV eX hs hr => ?_)
 have hfr := hfr.ext hs
 have b20 := b20.ext hs
 have b21 := b21.ext hs
 have y9 := y9.ext hs
 obtain ⟨kH, lH, iU, rfl, tD, tB, rfl⟩ := hr
 refine EL_mw (.tuple #[kH, lH, .int .i64 (u3.2.2)]) rfl rfl ?_
 refine EL_p kH (P_extract rfl rfl) rfl ?_
 refine EL_p lH (P_extract rfl rfl) rfl ?_
 refine EL_p (.int .i64 (u3.2.2)) (P_extract rfl rfl) rfl ?_
 refine EL_do .plain rfl (D_allocOc (g := nT) 2007 (⟨0, []⟩ : TieHarness) Tryd.zeroValue52 (fun m w => ⟨_, (rep_two rep_int rep_nil), rfl⟩) fun lQ oT i7 hs b54 cb => ?_)
 have hfr := hfr.stp hs
 have b20 := b20.stp hs rfl
 have b21 := b21.stp hs rfl
 have y9 := y9.stp hs
 have tD := tD.stp hs
 have tB := tB.stp hs
 have jU : OSF 2007 60701 1 lQ oT 3 52 ([] : List Int) i7 := cb.osf (by rfl)
 clear cb
 refine EL_do .plain rfl (D_allocOc (g := lQ) 2008 (⟨0, []⟩ : Design) Tryd.zeroValue55 (fun m w => ⟨_, (rep_two rep_int rep_nil), rfl⟩) fun mQ pT sH hs b55 cb => ?_)
 have hfr := hfr.stp hs
 have b20 := b20.stp hs rfl
 have b21 := b21.stp hs rfl
 have y9 := y9.stp hs
 have tD := tD.stp hs
 have tB := tB.stp hs
 have b54 := b54.stp hs rfl
 have kU : OSF 2008 60801 1 mQ pT 3 55 ([] : List Int) sH := cb.osf (by rfl)
 clear cb
 refine EL_do .plain rfl (D_storeOc (g := mQ) (v := kH) Tryd.sizeOf52 rfl b54 rfl tD fun sT gX hs b56 cb => ?_)
 clear cb
 have hfr := hfr.stp hs
 have b20 := b20.stp hs rfl
 have b21 := b21.stp hs rfl
 have y9 := y9.stp hs
 have tB := tB.stp hs
 have b55 := b55.stp hs rfl
 refine EL_do .plain rfl (D_storeOc (g := sT) (v := lH) Tryd.sizeOf55 rfl b55 rfl tB fun uE iX hs b57 cb => ?_)
 clear cb
 have hfr := hfr.stp hs
 have b20 := b20.stp hs rfl
 have b21 := b21.stp hs rfl
 have y9 := y9.stp hs
 have b56 := b56.stp hs rfl
 refine EL_at (.int .i64 (u3.2.2)) rfl rfl ?_
 refine EL_nil (thn_n (E_joinC h (fun (s : Unit) e w => ∃ (g : Gh) , Fr gI wI g w ∧ e 3 = v8 ∧ OB 2003 g w 52 (y4 : TieHarness) v8 ∧ e 4 = v9 ∧ OB 2004 g w 55 (y7 : Design) v9 ∧ e 5 = o0 ∧ RV g.m w ((x6.1 : List Str) : List Str) o0 ∧ e 7 = i7 ∧ OB 2007 g w 52 (u3.1 : TieHarness) i7 ∧ e 8 = sH ∧ OB 2008 g w 55 (u3.2.1 : Design) sH) (fun X79 iQ vQ h => ?_) ?_))
 ·obtain ⟨zB, hx, h⟩ := bsome h
  refine E_join (fun e w => ∃ (g : Gh) , Fr gI wI g w ∧ e 3 = v8 ∧ OB 2003 g w 52 (y4 : TieHarness) v8 ∧ e 4 = v9 ∧ OB 2004 g w 55 (y7 : Design) v9 ∧ e 5 = o0 ∧ RV g.m w ((x6.1 : List Str) : List Str) o0 ∧ e 7 = i7 ∧ OB 2007 g w 52 (u3.1 : TieHarness) i7 ∧ e 8 = sH ∧ OB 2008 g w 55 (u3.2.1 : Design) sH ∧ e 57 = .bool (zB)) (fun Q' hQ => ?_) (fun jV jX hR => ?_)
  ·replace h := hx
   clear hx
   refine E_region (EL_mw (.int .i64 (x6.2)) rfl rfl ?_)
   refine EL_in (.bool ((x6.2 != (0 : Int)))) rfl rfl rfl rfl ?_
   refine EL_mw (.bool ((x6.2 != (0 : Int)))) rfl rfl ?_
   rcases csome h with ⟨nD, h⟩ | ⟨nD, h⟩
   ·refine EL_s rfl rfl nD rfl rfl ?_
    refine EL_s rfl rfl nD rfl rfl ?_
    refine EL_p (.bool true) (P_pick (b := (x6.2 != (0 : Int))) rfl (pick_t nD rfl)) rfl ?_
    refine EL_dead 12 rfl ?_
    refine EL_nil ?_
    obtain rfl := sinj h
    exact hQ _ _ ⟨uE, hfr, rfl, b20, rfl, b21, rfl, y9, rfl, b56, rfl, b57, rfl⟩
   ·refine EL_y (.int .i64 (u3.2.2)) (P_move rfl) rfl rfl nD rfl ?_
    refine EL_y (.bool ((u3.2.2 != (0 : Int)))) (P_int rfl rfl rfl) rfl rfl nD rfl ?_
    refine EL_p (.bool ((u3.2.2 != (0 : Int)))) (P_pick (b := (x6.2 != (0 : Int))) rfl (pick_f nD rfl)) rfl ?_
    refine EL_mw (.bool ((u3.2.2 != (0 : Int)))) rfl rfl ?_
    rcases csome h with ⟨vB, h⟩ | ⟨vB, h⟩
    ·refine EL_s rfl rfl vB rfl rfl ?_
     refine EL_s rfl rfl vB rfl rfl ?_
     refine EL_s rfl rfl vB rfl rfl ?_
     refine EL_p (.bool true) (P_pick (b := (u3.2.2 != (0 : Int))) rfl (pick_t vB rfl)) rfl ?_
     refine EL_dead 7 rfl ?_
     refine EL_nil ?_
     obtain rfl := sinj h
     exact hQ _ _ ⟨uE, hfr, rfl, b20, rfl, b21, rfl, y9, rfl, b56, rfl, b57, rfl⟩
    ·refine EL_y (fPtr i7 0) (P_fieldAddr at_52_0 rfl (OB.ptr b56)) rfl rfl vB rfl ?_
     refine EL_do (.yes2 rfl rfl vB) rfl (D_loadF (g := uE) part_TieHarness_0.1 Tryd.isAgg3 Tryd.sizeOf3 rfl b56 fun kX tT => ?_)
     obtain rfl := RV_int.1 tT
     refine EL_y (.bool ((decide ((u3.1).Hooks < (1 : Int))))) (P_int rfl rfl rfl) rfl rfl vB rfl ?_
     refine EL_p (.bool ((decide ((u3.1).Hooks < (1 : Int))))) (P_pick (b := (u3.2.2 != (0 : Int))) rfl (pick_f vB rfl)) rfl ?_
     refine EL_mw (.bool ((decide ((u3.1).Hooks < (1 : Int))))) rfl rfl ?_
     rcases csome h with ⟨aB, h⟩ | ⟨aB, h⟩
     ·refine EL_s rfl rfl aB rfl rfl ?_
      iterate 4 refine EL_s rfl rfl aB rfl rfl ?_
      refine EL_p (.bool true) (P_pick (b := (decide ((u3.1).Hooks < (1 : Int)))) rfl (pick_t aB rfl)) rfl ?_
      refine EL_nil ?_
      obtain rfl := sinj h
      exact hQ _ _ ⟨uE, hfr, rfl, b20, rfl, b21, rfl, y9, rfl, b56, rfl, b57, rfl⟩
     ·refine EL_y (fPtr i7 0) (P_fieldAddr at_52_0 rfl (OB.ptr b56)) rfl rfl aB rfl ?_
      refine EL_do (.yes2 rfl rfl aB) rfl (D_loadF (g := uE) part_TieHarness_0.1 Tryd.isAgg3 Tryd.sizeOf3 rfl b56 fun lX uT => ?_)
      obtain rfl := RV_int.1 uT
      refine EL_y (fPtr v8 0) (P_fieldAddr at_52_0 rfl (OB.ptr b20)) rfl rfl aB rfl ?_
      refine EL_do (.yes2 rfl rfl aB) rfl (D_loadF (g := uE) part_TieHarness_0.1 Tryd.isAgg3 Tryd.sizeOf3 rfl b20 fun mX xT => ?_)
      obtain rfl := RV_int.1 xT
      refine EL_y (.bool ((decide ((u3.1).Hooks > (y4).Hooks)))) (P_int rfl rfl rfl) rfl rfl aB rfl ?_
      refine EL_p (.bool ((decide ((u3.1).Hooks > (y4).Hooks)))) (P_pick (b := (decide ((u3.1).Hooks < (1 : Int)))) rfl (pick_f aB rfl)) rfl ?_
      refine EL_nil ?_
      obtain rfl := sinj h
      exact hQ _ _ ⟨uE, hfr, rfl, b20, rfl, b21, rfl, y9, rfl, b56, rfl, b57, rfl⟩
  ·clear hx
   obtain ⟨yT, hfr, uO, vO, xO, yO, zO, aP, bP, cP, dP, eP, tH⟩ := hR
   rcases csome h with ⟨sI, h⟩ | ⟨sI, h⟩
   ·refine E_cond_true (Eq.trans (show ev _ _ = .bool (zB) from tH) (congrArg Value.bool sI)) ?_
    refine E_seq (E_region (EL_at (.bool false) rfl rfl ?_))
    refine EL_nil (thn_n (E_ret (thn_r ?_)))
    obtain rfl := sinj h
    exact end1 rfl rfl (show _ = .bool false from rfl) ⟨_, hfr, rfl⟩
   ·refine E_cond_false (Eq.trans (show ev _ _ = .bool (zB) from tH) (congrArg Value.bool sI)) ?_
    exact E_skip (thn_n (vQ () _ _ ⟨yT, hfr, uO, vO, xO, yO, zO, aP, bP, cP, dP, eP⟩ h))
 ·rintro _ lU kV ⟨aM, hfr, vE, a9, uD, g8, xE, d9, vD, k8, bM, cM⟩ h
  refine E_seq (E_region (EL_do .plain rfl (D_loadO (g := aM) Tryd.isAgg55 Tryd.sizeOf55 bM cM fun xQ yQ => ?_)))
  obtain ⟨y6, gP, h⟩ := bsome h
  refine EL_do .plain rfl (D_call (g := aM) (vs := [xQ]) en20 (.cons rfl .nil) (wk20 yQ gP) fun zQ mU lV hs hr => ?_)
  have hfr := hfr.ext hs
  have a9 := a9.ext hs
  have g8 := g8.ext hs
  have d9 := d9.ext hs
  have k8 := k8.ext hs
  obtain ⟨yE, zT, rfl, zE, rfl⟩ := hr
  refine EL_mw (.tuple #[yE, .int .i64 (y6.2)]) rfl rfl ?_
  refine EL_p yE (P_extract rfl rfl) rfl ?_
  refine EL_p (.int .i64 (y6.2)) (P_extract rfl rfl) rfl ?_
  refine EL_do .plain rfl (D_allocOc (g := zQ) 2010 (⟨0, []⟩ : ChainBelt) Tryd.zeroValue67 (fun m w => ⟨_, (rep_two rep_int rep_nil), rfl⟩) fun dM aR oD hs b104 cb => ?_)
  have hfr := hfr.stp hs
  have a9 := a9.stp hs rfl
  have g8 := g8.stp hs rfl
  have d9 := d9.stp hs
  have k8 := k8.stp hs rfl
  have zE := zE.stp hs
  have aU : OSF 2010 61001 1 dM aR 137 67 ([] : List ChainCard) oD := cb.osf (by rfl)
  clear cb
  refine EL_do .plain rfl (D_storeOc (g := dM) (v := yE) Tryd.sizeOf67 rfl b104 rfl zE fun sD mV hs b105 cb => ?_)
  clear cb
  have hfr := hfr.stp hs
  have a9 := a9.stp hs rfl
  have g8 := g8.stp hs rfl
  have d9 := d9.stp hs
  have k8 := k8.stp hs rfl
  refine EL_at (.int .i64 (y6.2)) rfl rfl ?_
  refine EL_nil (thn_n (E_joinC h (fun (s : Unit) e w => ∃ (g : Gh) , Fr gI wI g w ∧ e 3 = v8 ∧ OB 2003 g w 52 (y4 : TieHarness) v8 ∧ e 4 = v9 ∧ OB 2004 g w 55 (y7 : Design) v9 ∧ e 5 = o0 ∧ RV g.m w ((x6.1 : List Str) : List Str) o0 ∧ e 7 = i7 ∧ OB 2007 g w 52 (u3.1 : TieHarness) i7 ∧ e 10 = oD ∧ OB 2010 g w 67 (y6.1 : ChainBelt) oD) (fun X128 vL iP h => ?_) ?_))
  ·obtain ⟨iB, hx, h⟩ := bsome h
   refine E_join (fun e w => ∃ (g : Gh) , Fr gI wI g w ∧ e 3 = v8 ∧ OB 2003 g w 52 (y4 : TieHarness) v8 ∧ e 4 = v9 ∧ OB 2004 g w 55 (y7 : Design) v9 ∧ e 5 = o0 ∧ RV g.m w ((x6.1 : List Str) : List Str) o0 ∧ e 7 = i7 ∧ OB 2007 g w 52 (u3.1 : TieHarness) i7 ∧ e 10 = oD ∧ OB 2010 g w 67 (y6.1 : ChainBelt) oD ∧ e 80 = .bool (iB)) (fun Q' hQ => ?_) (fun nU nV hR => ?_)
   ·replace h := hx
    clear hx
    refine E_region (EL_mw (.int .i64 (y6.2)) rfl rfl ?_)
    refine EL_in (.bool ((y6.2 != (0 : Int)))) rfl rfl rfl rfl ?_
    refine EL_mw (.bool ((y6.2 != (0 : Int)))) rfl rfl ?_
    rcases csome h with ⟨n8, h⟩ | ⟨n8, h⟩
    ·refine EL_s rfl rfl n8 rfl rfl ?_
     iterate 6 refine EL_s rfl rfl n8 rfl rfl ?_
     refine EL_p (.bool true) (P_pick (b := (y6.2 != (0 : Int))) rfl (pick_t n8 rfl)) rfl ?_
     refine EL_dead 7 rfl ?_
     refine EL_nil ?_
     obtain rfl := sinj h
     exact hQ _ _ ⟨sD, hfr, vE, a9, uD, g8, xE, d9, vD, k8, rfl, b105, rfl⟩
    ·refine EL_y (fPtr oD 1) (P_fieldAddr at_67_1 rfl (OB.ptr b105)) rfl rfl n8 rfl ?_
     refine EL_do (.yes2 rfl rfl n8) rfl (D_loadF (g := sD) part_ChainBelt_1.1 Tryd.isAgg65 Tryd.sizeOf65 rfl b105 fun oV bR => ?_)
     refine EL_y (.int .i64 (((y6.1).Cards).length : Int)) (P_len Tryd.underlying65 rfl bR) rfl rfl n8 rfl ?_
     refine EL_y (fPtr v9 1) (P_fieldAddr at_55_1 uD (OB.ptr g8)) rfl rfl n8 rfl ?_
     refine EL_do (.yes2 rfl rfl n8) rfl (D_loadF (g := sD) part_Design_1.1 Tryd.isAgg34 Tryd.sizeOf34 rfl g8 fun pV cR => ?_)
     refine EL_y (.int .i64 (((y7).Rows).length : Int)) (P_len Tryd.underlying34 rfl cR) rfl rfl n8 rfl ?_
     refine EL_y (.bool (((((y6.1).Cards).length : Int) != (((y7).Rows).length : Int)))) (P_int rfl rfl rfl) rfl rfl n8 rfl ?_
     refine EL_p (.bool (((((y6.1).Cards).length : Int) != (((y7).Rows).length : Int)))) (P_pick (b := (y6.2 != (0 : Int))) rfl (pick_f n8 rfl)) rfl ?_
     refine EL_mw (.bool (((((y6.1).Cards).length : Int) != (((y7).Rows).length : Int)))) rfl rfl ?_
     rcases csome h with ⟨u9, h⟩ | ⟨u9, h⟩
     ·refine EL_s rfl rfl u9 rfl rfl ?_
      iterate 4 refine EL_s rfl rfl u9 rfl rfl ?_
      refine EL_p (.bool true) (P_pick (b := ((((y6.1).Cards).length : Int) != (((y7).Rows).length : Int))) rfl (pick_t u9 rfl)) rfl ?_
      refine EL_nil ?_
      obtain rfl := sinj h
      exact hQ _ _ ⟨sD, hfr, vE, a9, uD, g8, xE, d9, vD, k8, rfl, b105, rfl⟩
     ·refine EL_y (fPtr oD 0) (P_fieldAddr at_67_0 rfl (OB.ptr b105)) rfl rfl u9 rfl ?_
      refine EL_do (.yes2 rfl rfl u9) rfl (D_loadF (g := sD) part_ChainBelt_0.1 Tryd.isAgg3 Tryd.sizeOf3 rfl b105 fun qV dR => ?_)
      obtain rfl := RV_int.1 dR
      refine EL_y (fPtr i7 0) (P_fieldAddr at_52_0 vD (OB.ptr k8)) rfl rfl u9 rfl ?_
      refine EL_do (.yes2 rfl rfl u9) rfl (D_loadF (g := sD) part_TieHarness_0.1 Tryd.isAgg3 Tryd.sizeOf3 rfl k8 fun rV eR => ?_)
      obtain rfl := RV_int.1 eR
      refine EL_y (.bool (((y6.1).Hooks != (u3.1).Hooks))) (P_int rfl rfl rfl) rfl rfl u9 rfl ?_
      refine EL_p (.bool (((y6.1).Hooks != (u3.1).Hooks))) (P_pick (b := ((((y6.1).Cards).length : Int) != (((y7).Rows).length : Int))) rfl (pick_f u9 rfl)) rfl ?_
      refine EL_nil ?_
      obtain rfl := sinj h
      exact hQ _ _ ⟨sD, hfr, vE, a9, uD, g8, xE, d9, vD, k8, rfl, b105, rfl⟩
   ·clear hx
    obtain ⟨gR, hfr, eM, iM, jM, kM, mM, nM, oM, pM, jJ, kJ, zF⟩ := hR
    rcases csome h with ⟨mH, h⟩ | ⟨mH, h⟩
    ·refine E_cond_true (Eq.trans (show ev _ _ = .bool (iB) from zF) (congrArg Value.bool mH)) ?_
     refine E_seq (E_region (EL_at (.bool false) rfl rfl ?_))
     refine EL_nil (thn_n (E_ret (thn_r ?_)))
     obtain rfl := sinj h
     exact end1 rfl rfl (show _ = .bool false from rfl) ⟨_, hfr, rfl⟩
    ·refine E_cond_false (Eq.trans (show ev _ _ = .bool (iB) from zF) (congrArg Value.bool mH)) ?_
     exact E_skip (thn_n (iP () _ _ ⟨gR, hfr, eM, iM, jM, kM, mM, nM, oM, pM, jJ, kJ⟩ h))
  ·rintro _ oU sV ⟨iR, hfr, qM, z9, uH, k9, rM, bA, cF, l8, lJ, mJ⟩ h
   refine E_seq (L_loadO0 (x := .tmp 10) Tryd.isAgg67 Tryd.sizeOf67 mJ fun sM jR jP => ?_)
   refine L_loadO (x := .tmp 83) part_Design_1.1 Tryd.isAgg34 Tryd.sizeOf34 k9 fun lR mR kP => ?_
   obtain ⟨aE, lP, h⟩ := bsome h
   obtain ⟨y158, mP, h⟩ := bsome h
   refine E_drawL (g := iR) (n := 13) [(4, (fun v g w => RV g.m w aE v)), (5, (fun v g w => ∃ y0 y1 y2 : Value, v = .tuple #[y0, y1, y2] ∧ RV g.m w (y158.1 : List Int) y0 ∧ y1 = .int .i64 (y158.2.1) ∧ y2 = .int .i64 (y158.2.2)))] [0, 1, 2, 3, 4, 5, 6, 7, 8, 9, 10, 11, 12] rfl mixed (by kernel_rfl) (⟨fun _ => up_rv, fun _ => (up_ex fun _ => (up_ex fun _ => (up_ex fun _ => (up_and (up_eq _) (up_and up_rv (up_and (up_eq _) (up_eq _))))))), trivial⟩) ?_
   refine L_ld (c := sM) rfl rfl .plain (fun _ _ h => ⟨h.ch, fun b hb _ => h.below.block b hb⟩) jP lJ ?_
   refine L_p (fPtr v9 1) rfl rfl (P_fieldAddr at_55_1 uH (OB.ptr k9)) ?_
   refine L_ld (c := lR) rfl rfl .plain (fun _ _ h => ⟨h.ch, fun b hb _ => h.below.block b hb⟩) kP rfl ?_
   refine L_p (.int .i64 (((y7).Rows).length : Int)) rfl rfl (P_len Tryd.underlying34 rfl mR) ?_
   refine L_do (φ := fun v g w => RV g.m w aE v) rfl rfl .plain (fun g w hd => D_call (g := g) (vs := [.int .i64 (((y7).Rows).length : Int), .int .i64 (1)]) en22 (.cons rfl (.cons rfl .nil)) (wk22  lP) fun g' w' v hs hr => ⟨g', hs, hr⟩) (fun tI hv => ?_)
   obtain ⟨_, _, _, rq155⟩ := hv
   refine L_do (φ := fun v g w => ∃ y0 y1 y2 : Value, v = .tuple #[y0, y1, y2] ∧ RV g.m w (y158.1 : List Int) y0 ∧ y1 = .int .i64 (y158.2.1) ∧ y2 = .int .i64 (y158.2.2)) rfl rfl .plain (fun g w hd => D_call (g := g) (vs := [sM, .int .i64 (0), tI]) en21 (.cons rfl (.cons rfl (.cons rfl .nil))) (wk21 (jR.ext hd.1) (word (A := fun g w => RV g.m w aE tI) 4 rfl rfl (deps_of hd)) mP) fun g' w' v hs hr => ⟨g', hs, hr⟩) (fun tV hv => ?_)
   obtain ⟨_, _, _, l9, _, _, rfl, nS, rfl, rfl⟩ := hv
   refine L_p (.tuple #[l9, .int .i64 (y158.2.1), .int .i64 (y158.2.2)]) rfl rfl (P_move rfl) ?_
   refine L_p l9 rfl rfl (P_extract rfl rfl) ?_
   refine L_p (.int .i64 (y158.2.1)) rfl rfl (P_extract rfl rfl) ?_
   refine L_p (.int .i64 (y158.2.2)) rfl rfl (P_extract rfl rfl) ?_
   refine L_p l9 rfl rfl (P_assign rfl) ?_
   refine L_p (.int .i64 (y158.2.1)) rfl rfl (P_assign rfl) ?_
   refine L_p (.int .i64 (y158.2.2)) rfl rfl (P_assign rfl) ?_
   refine L_nil fun nH uV hall => ?_
   have hs := hall.1
   have hfr := hfr.ext hs
   have z9 := z9.ext hs
   have k9 := k9.ext hs
   have bA := bA.ext hs
   have l8 := l8.ext hs
   have vV := (word_all (A := fun g w => RV g.m w aE tI) 4 rfl hall)
   have xV := (tup3_0 (word_all (A := fun g w => ∃ y0 y1 y2 : Value, Value.tuple #[l9, .int .i64 (y158.2.1), .int .i64 (y158.2.2)] = .tuple #[y0, y1, y2] ∧ RV g.m w (y158.1 : List Int) y0 ∧ y1 = .int .i64 (y158.2.1) ∧ y2 = .int .i64 (y158.2.2)) 5 rfl hall))
   have tM := (tup3_0 (word_all (A := fun g w => ∃ y0 y1 y2 : Value, Value.tuple #[l9, .int .i64 (y158.2.1), .int .i64 (y158.2.2)] = .tuple #[y0, y1, y2] ∧ RV g.m w (y158.1 : List Int) y0 ∧ y1 = .int .i64 (y158.2.1) ∧ y2 = .int .i64 (y158.2.2)) 5 rfl hall))
   clear hs hall
   refine EL_nil (thn_n (E_seq (E_region (EL_do .plain rfl (D_loadO (g := nH) Tryd.isAgg52 Tryd.sizeOf52 cF l8 fun nR oR => ?_)))))
   refine EL_p (fPtr i7 0) (P_fieldAddr at_52_0 cF (OB.ptr l8)) rfl ?_
   refine EL_do .plain rfl (D_loadF (g := nH) part_TieHarness_0.1 Tryd.isAgg3 Tryd.sizeOf3 rfl l8 fun yV pR => ?_)
   obtain rfl := RV_int.1 pR
   refine EL_mw l9 rfl rfl ?_
   have uM : RV nH.m _ (⟨(u3.1).Hooks, (y158.1 : List Int)⟩ : Design) (.agg (setCh [[.int .i64 0], [.slice none 0 0]] [(0, .int .i64 ((u3.1).Hooks)), (1, l9)]).flatten.toArray) := RV_build rfl (rep_pair (rfl) (rep_last (RV.cells tM)))
   generalize nP : (Value.agg (setCh [[.int .i64 0], [.slice none 0 0]] [(0, .int .i64 ((u3.1).Hooks)), (1, l9)]).flatten.toArray) = vM at uM
   refine EL_p vM (nP ▸ P_build (vs := [(0, .int .i64 ((u3.1).Hooks)), (1, l9)]) [[.int .i64 0], [.slice none 0 0]] lay_55 rfl rfl (.cons rfl (.cons rfl .nil)) ⟨⟨_, rfl, rfl⟩, ⟨⟨_, rfl, cells_size tM⟩, trivial⟩⟩) rfl ?_
   obtain ⟨i6, oP, h⟩ := bsome h
   refine EL_do .plain rfl (D_call (g := nH) (vs := [nR, vM]) en15 (.cons rfl (.cons rfl .nil)) (wk15 oR uM oP) fun qR pU zV hs hr => ?_)
   have hfr := hfr.ext hs
   have z9 := z9.ext hs
   have k9 := k9.ext hs
   have bA := bA.ext hs
   have l8 := l8.ext hs
   obtain ⟨l5, bU, rfl, dF, rfl⟩ := hr
   refine EL_mw (.tuple #[l5, .int .i64 (i6.2)]) rfl rfl ?_
   refine EL_p l5 (P_extract rfl rfl) rfl ?_
   refine EL_p (.int .i64 (i6.2)) (P_extract rfl rfl) rfl ?_
   refine EL_at l5 rfl rfl ?_
   refine EL_at (.int .i64 (i6.2)) rfl rfl ?_
   refine EL_nil (thn_n (E_seq (E_region (EL_do .plain rfl (D_makeMap (g := qR) (encK pl_74) Bool 8100 fun rR aW m7 hs m184 => ?_)))))
   have hfr := hfr.stp hs
   have z9 := z9.stp hs rfl
   have k9 := k9.stp hs rfl
   have bA := bA.stp hs
   have l8 := l8.stp hs rfl
   have dF := dF.stp hs
   refine EL_at m7 rfl rfl ?_
   refine EL_nil (thn_n ?_)
   obtain ⟨x8, hx, h⟩ := bsome h
   refine E_join (fun e w => ∃ (g : Gh) , Fr gI wI g w ∧ e 5 = o0 ∧ RV g.m w ((x6.1 : List Str) : List Str) o0 ∧ e 7 = i7 ∧ OB 2007 g w 52 (u3.1 : TieHarness) i7 ∧ e 14 = .int .i64 (y158.2.2) ∧ e 15 = l5 ∧ RV g.m w (i6.1 : List Str) l5 ∧ e 16 = .int .i64 (i6.2) ∧ e 17 = m7 ∧ MP (encK pl_74) 8100 g w (x8 : List ((Vector Bool 10) × Bool)) m7) (fun Q' hQ => ?_) (fun qU bW hR => ?_)
   ·replace h := hx
    clear hx
    refine E_seq (E_region (EL_at (.int .i64 (0)) rfl rfl ?_))
    refine EL_nil (thn_n (E_block ?_))
    refine E_lp h (fun (s : (List ((Vector Bool 10) × Bool)) × Int) e w => ∃ (g : Gh) , Fr gI wI g w ∧ e 3 = v8 ∧ OB 2003 g w 52 (y4 : TieHarness) v8 ∧ e 4 = v9 ∧ OB 2004 g w 55 (y7 : Design) v9 ∧ e 5 = o0 ∧ RV g.m w ((x6.1 : List Str) : List Str) o0 ∧ e 7 = i7 ∧ OB 2007 g w 52 (u3.1 : TieHarness) i7 ∧ e 14 = .int .i64 (y158.2.2) ∧ e 15 = l5 ∧ RV g.m w (i6.1 : List Str) l5 ∧ e 16 = .int .i64 (i6.2) ∧ e 17 = m7 ∧ MP (encK pl_74) 8100 g w (s.1 : List ((Vector Bool 10) × Bool)) m7 ∧ e 18 = .int .i64 (s.2)) ⟨rR, hfr, qM, z9, uH, k9, rM, bA, cF, l8, rfl, rfl, dF, rfl, rfl, m184, rfl⟩ (fun X588 qL pP => ?_)
    rintro ⟨r8, t5⟩ rU cW ⟨uI, hfr, xH, eF, xM, bN, yH, zH, aI, bI, aG, bG, cG, eG, gG, hG, iG⟩ h
    refine E_joinC h (fun (s : Unit) e w => ∃ (g : Gh) , Fr gI wI g w ∧ e 3 = v8 ∧ OB 2003 g w 52 (y4 : TieHarness) v8 ∧ e 4 = v9 ∧ OB 2004 g w 55 (y7 : Design) v9 ∧ e 5 = o0 ∧ RV g.m w ((x6.1 : List Str) : List Str) o0 ∧ e 7 = i7 ∧ OB 2007 g w 52 (u3.1 : TieHarness) i7 ∧ e 14 = .int .i64 (y158.2.2) ∧ e 15 = l5 ∧ RV g.m w (i6.1 : List Str) l5 ∧ e 16 = .int .i64 (i6.2) ∧ e 17 = m7 ∧ MP (encK pl_74) 8100 g w (r8 : List ((Vector Bool 10) × Bool)) m7 ∧ e 18 = .int .i64 (t5)) (fun X593 uL sP h => ?_) ?_
    ·refine E_seq (E_region (EL_mv iG rfl ?_))
     refine EL_p (fPtr v8 1) (P_fieldAddr at_52_1 xH (OB.ptr eF)) rfl ?_
     refine EL_do .plain rfl (D_loadF (g := uI) part_TieHarness_1.1 Tryd.isAgg34 Tryd.sizeOf34 rfl eF fun dW tR => ?_)
     refine EL_p (.int .i64 (((y4).Warps).length : Int)) (P_len Tryd.underlying34 rfl tR) rfl ?_
     refine EL_p (.bool ((decide (t5 < (((y4).Warps).length : Int))))) (P_int rfl rfl rfl) rfl ?_
     refine EL_nil (thn_n ?_)
     rcases csome h with ⟨oH, h⟩ | ⟨oH, h⟩
     ·refine E_ct oH rfl ?_
      exact E_skip (thn_n (sP () _ _ ⟨uI, hfr, xH, eF, xM, bN, yH, zH, aI, bI, aG, bG, cG, eG, gG, hG, iG⟩ h))
     ·refine E_cf oH rfl ?_
      refine E_exit ?_
      refine thn_e ?_
      refine thn_e ?_
      refine blk_hit ?_
      obtain rfl := sinj h
      exact hQ _ _ ⟨uI, hfr, yH, zH, aI, bI, aG, bG, cG, eG, gG, hG⟩
    ·rintro _ sU uR ⟨cN, hfr, dN, cC, eN, mC, gN, qC, iN, rC, nJ, oJ, lB, pJ, qJ, mB, rJ⟩ h
     obtain ⟨eD, hx, h⟩ := bsome h
     refine E_join (fun e w => ∃ (g : Gh) , Fr gI wI g w ∧ e 3 = v8 ∧ OB 2003 g w 52 (y4 : TieHarness) v8 ∧ e 4 = v9 ∧ OB 2004 g w 55 (y7 : Design) v9 ∧ e 5 = o0 ∧ RV g.m w ((x6.1 : List Str) : List Str) o0 ∧ e 7 = i7 ∧ OB 2007 g w 52 (u3.1 : TieHarness) i7 ∧ e 14 = .int .i64 (y158.2.2) ∧ e 15 = l5 ∧ RV g.m w (i6.1 : List Str) l5 ∧ e 16 = .int .i64 (i6.2) ∧ e 17 = m7 ∧ MP (encK pl_74) 8100 g w (eD : List ((Vector Bool 10) × Bool)) m7 ∧ e 18 = .int .i64 (t5)) (fun Q' hQ => ?_) (fun tU eW hR => ?_)
     ·replace h := hx
      clear hx
      refine E_block ?_
      refine E_seq (E_region ?_)
      have pH : RV cN.m uR (⟨List.toArray [false, false, false, false, false, false, false, false, false, false], rfl⟩ : Vector Bool 10) (.agg (setCh [[.bool false], [.bool false], [.bool false], [.bool false], [.bool false], [.bool false], [.bool false], [.bool false], [.bool false], [.bool false]] []).flatten.toArray) := RV_build rfl (rep_vec (flat_chunk rep_bool (flat_chunk rep_bool (flat_chunk rep_bool (flat_chunk rep_bool (flat_chunk rep_bool (flat_chunk rep_bool (flat_chunk rep_bool (flat_chunk rep_bool (flat_chunk rep_bool (flat_chunk rep_bool flat_nil)))))))))) rfl)
      generalize tP : (Value.agg (setCh [[.bool false], [.bool false], [.bool false], [.bool false], [.bool false], [.bool false], [.bool false], [.bool false], [.bool false], [.bool false]] []).flatten.toArray) = jN at pH
      refine EL_p jN (tP ▸ P_buildA (vs := []) [[.bool false], [.bool false], [.bool false], [.bool false], [.bool false], [.bool false], [.bool false], [.bool false], [.bool false], [.bool false]] Tryd.underlying74 layA_74 szA_4 rfl (by simp) .nil trivial) rfl ?_
      refine EL_do .plain rfl (D_allocOc (g := cN) 2019 ((Vector.replicate 10 false) : Vector Bool 10) Tryd.zeroValue74 (fun m w => ⟨_, (rep_replicate rep_bool), rfl⟩) fun vR gW yB hs b795 cb => ?_)
      have hfr := hfr.stp hs
      have cC := cC.stp hs rfl
      have mC := mC.stp hs rfl
      have qC := qC.stp hs
      have rC := rC.stp hs rfl
      have lB := lB.stp hs
      have mB := mB.stp hs rfl
      have pH := pH.stp hs
      clear cb
      refine EL_do .plain rfl (D_storeOc (g := vR) (v := jN) Tryd.sizeOf74 rfl b795 rfl pH fun xR iW hs b796 cb => ?_)
      clear cb
      have hfr := hfr.stp hs
      have cC := cC.stp hs rfl
      have mC := mC.stp hs rfl
      have qC := qC.stp hs
      have rC := rC.stp hs rfl
      have lB := lB.stp hs
      have mB := mB.stp hs rfl
      refine EL_nil (thn_n ?_)
      obtain ⟨bE, hx, h⟩ := bsome h
      refine E_join (fun e w => ∃ (g : Gh) , Fr gI wI g w ∧ e 3 = v8 ∧ OB 2003 g w 52 (y4 : TieHarness) v8 ∧ e 4 = v9 ∧ OB 2004 g w 55 (y7 : Design) v9 ∧ e 5 = o0 ∧ RV g.m w ((x6.1 : List Str) : List Str) o0 ∧ e 7 = i7 ∧ OB 2007 g w 52 (u3.1 : TieHarness) i7 ∧ e 14 = .int .i64 (y158.2.2) ∧ e 15 = l5 ∧ RV g.m w (i6.1 : List Str) l5 ∧ e 16 = .int .i64 (i6.2) ∧ e 17 = m7 ∧ MP (encK pl_74) 8100 g w (r8 : List ((Vector Bool 10) × Bool)) m7 ∧ e 18 = .int .i64 (t5) ∧ e 19 = yB ∧ OB 2019 g w 74 (bE : Vector Bool 10) yB) (fun Q' hQ => ?_) (fun uU jW hR => ?_)
      ·replace h := hx
       clear hx
       refine E_seq (E_region (EL_at (.int .i64 (0)) rfl rfl ?_))
       refine EL_nil (thn_n (E_block ?_))
       refine E_lp h (fun (s : (Vector Bool 10) × Int) e w => ∃ (g : Gh) , Fr gI wI g w ∧ e 3 = v8 ∧ OB 2003 g w 52 (y4 : TieHarness) v8 ∧ e 4 = v9 ∧ OB 2004 g w 55 (y7 : Design) v9 ∧ e 5 = o0 ∧ RV g.m w ((x6.1 : List Str) : List Str) o0 ∧ e 7 = i7 ∧ OB 2007 g w 52 (u3.1 : TieHarness) i7 ∧ e 14 = .int .i64 (y158.2.2) ∧ e 15 = l5 ∧ RV g.m w (i6.1 : List Str) l5 ∧ e 16 = .int .i64 (i6.2) ∧ e 17 = m7 ∧ MP (encK pl_74) 8100 g w (r8 : List ((Vector Bool 10) × Bool)) m7 ∧ e 18 = .int .i64 (t5) ∧ e 19 = yB ∧ OB 2019 g w 74 (s.1 : Vector Bool 10) yB ∧ e 20 = .int .i64 (s.2)) ⟨xR, hfr, dN, cC, eN, mC, gN, qC, iN, rC, nJ, oJ, lB, pJ, qJ, mB, rJ, rfl, b796, rfl⟩ (fun X892 rL uP => ?_)
       rintro ⟨dB, x5⟩ vU kW ⟨vI, hfr, dI, iI, rF, xD, jI, kI, lI, mI, jG, kG, lG, mG, sG, xG, yG, zG, aH, cH⟩ h
       refine E_joinC h (fun (s : Unit) e w => ∃ (g : Gh) , Fr gI wI g w ∧ e 3 = v8 ∧ OB 2003 g w 52 (y4 : TieHarness) v8 ∧ e 4 = v9 ∧ OB 2004 g w 55 (y7 : Design) v9 ∧ e 5 = o0 ∧ RV g.m w ((x6.1 : List Str) : List Str) o0 ∧ e 7 = i7 ∧ OB 2007 g w 52 (u3.1 : TieHarness) i7 ∧ e 14 = .int .i64 (y158.2.2) ∧ e 15 = l5 ∧ RV g.m w (i6.1 : List Str) l5 ∧ e 16 = .int .i64 (i6.2) ∧ e 17 = m7 ∧ MP (encK pl_74) 8100 g w (r8 : List ((Vector Bool 10) × Bool)) m7 ∧ e 18 = .int .i64 (t5) ∧ e 19 = yB ∧ OB 2019 g w 74 (dB : Vector Bool 10) yB ∧ e 20 = .int .i64 (x5)) (fun X897 tL vP h => ?_) ?_
       ·refine E_seq (E_region (EL_mv cH rfl ?_))
        refine EL_p (fPtr v9 1) (P_fieldAddr at_55_1 rF (OB.ptr xD)) rfl ?_
        refine EL_do .plain rfl (D_loadF (g := vI) part_Design_1.1 Tryd.isAgg34 Tryd.sizeOf34 rfl xD fun lW yR => ?_)
        refine EL_p (.int .i64 (((y7).Rows).length : Int)) (P_len Tryd.underlying34 rfl yR) rfl ?_
        refine EL_p (.bool ((decide (x5 < (((y7).Rows).length : Int))))) (P_int rfl rfl rfl) rfl ?_
        refine EL_nil (thn_n ?_)
        rcases csome h with ⟨qH, h⟩ | ⟨qH, h⟩
        ·refine E_ct qH rfl ?_
         exact E_skip (thn_n (vP () _ _ ⟨vI, hfr, dI, iI, rF, xD, jI, kI, lI, mI, jG, kG, lG, mG, sG, xG, yG, zG, aH, cH⟩ h))
        ·refine E_cf qH rfl ?_
         refine E_exit ?_
         refine thn_e ?_
         refine thn_e ?_
         refine blk_hit ?_
         obtain rfl := sinj h
         exact hQ _ _ ⟨vI, hfr, dI, iI, rF, xD, jI, kI, lI, mI, jG, kG, lG, mG, sG, xG, yG, zG, aH⟩
       ·rintro _ xU mW ⟨zR, hfr, nI, iA, pI, rA, kN, uC, lN, vC, sJ, vJ, nB, xJ, yJ, oB, dH, gH, lD, iE⟩ h
        obtain ⟨cD, hx, h⟩ := bsome h
        refine E_join (fun e w => ∃ (g : Gh) , Fr gI wI g w ∧ e 3 = v8 ∧ OB 2003 g w 52 (y4 : TieHarness) v8 ∧ e 4 = v9 ∧ OB 2004 g w 55 (y7 : Design) v9 ∧ e 5 = o0 ∧ RV g.m w ((x6.1 : List Str) : List Str) o0 ∧ e 7 = i7 ∧ OB 2007 g w 52 (u3.1 : TieHarness) i7 ∧ e 14 = .int .i64 (y158.2.2) ∧ e 15 = l5 ∧ RV g.m w (i6.1 : List Str) l5 ∧ e 16 = .int .i64 (i6.2) ∧ e 17 = m7 ∧ MP (encK pl_74) 8100 g w (r8 : List ((Vector Bool 10) × Bool)) m7 ∧ e 18 = .int .i64 (t5) ∧ e 19 = yB ∧ OB 2019 g w 74 (cD : Vector Bool 10) yB ∧ e 20 = .int .i64 (x5)) (fun Q' hQ => ?_) (fun yU nW hR => ?_)
        ·replace h := hx
         clear hx
         refine E_block ?_
         refine L_loadO (x := .tmp 117) part_Design_1.1 Tryd.isAgg34 Tryd.sizeOf34 rA fun mN nN xP => ?_
         obtain ⟨qI, zI, h⟩ := bsome h
         have aS := PT_idx nN zI
         refine L_load (x := .tmp 120) Tryd.isAgg3 Tryd.sizeOf3 aS fun oW bS yP => ?_
         obtain rfl := RV_int.1 bS
         refine L_loadO (x := .tmp 122) part_TieHarness_1.1 Tryd.isAgg34 Tryd.sizeOf34 iA fun oN pN zP => ?_
         obtain ⟨jH, eJ, h⟩ := bsome h
         have cS := PT_idx pN eJ
         refine L_load (x := .tmp 125) Tryd.isAgg3 Tryd.sizeOf3 cS fun pW dS bQ => ?_
         obtain rfl := RV_int.1 dS
         obtain ⟨rE, cQ, h⟩ := bsome h
         obtain ⟨nQ, gJ, h⟩ := bsome h
         obtain ⟨hi956, he956⟩ := vat_idx gJ
         refine E_drawL (g := zR) (n := 16) [] [0, 1, 2, 3, 4, 5, 6, 7, 8, 9, 10, 11, 12, 13, 14, 15] rfl mixed (by kernel_rfl) trivial ?_
         refine L_p (.int .i64 (x5)) rfl rfl (P_move iE) ?_
         refine L_p (fPtr v9 1) rfl rfl (P_fieldAddr at_55_1 pI (OB.ptr rA)) ?_
         refine L_ld (c := mN) rfl rfl .plain (fun _ _ h => ⟨h.ch, fun b hb _ => h.below.block b hb⟩) xP rfl ?_
         refine L_p (.int .i64 (x5)) rfl rfl (P_move iE) ?_
         refine L_p (ePtr mN x5 1) rfl rfl (P_indexAddr (α := Int) Tryd.underlying34 Tryd.sizeOf3 rfl nN rfl zI) ?_
         refine L_ld (c := .int .i64 (qI)) rfl rfl .plain (fun _ _ h => h.ch) yP rfl ?_
         refine L_p (fPtr v8 1) rfl rfl (P_fieldAddr at_52_1 nI (OB.ptr iA)) ?_
         refine L_ld (c := oN) rfl rfl .plain (fun _ _ h => ⟨h.ch, fun b hb _ => h.below.block b hb⟩) zP rfl ?_
         refine L_p (.int .i64 (t5)) rfl rfl (P_move dH) ?_
         refine L_p (ePtr oN t5 1) rfl rfl (P_indexAddr (α := Int) Tryd.underlying34 Tryd.sizeOf3 rfl pN rfl eJ) ?_
         refine L_ld (c := .int .i64 (jH)) rfl rfl .plain (fun _ _ h => h.ch) bQ rfl ?_
         refine L_p (.int .u64 (wu64 jH)) rfl rfl (P_intu64 Tryd.underlying3 Tryd.underlying75 rfl) ?_
         refine L_p (.int .i64 (rE)) rfl rfl (P_shru rfl rfl cQ) ?_
         refine L_p (.int .i64 ((bit64 .and rE (1 : Int)))) rfl rfl (P_int rfl rfl rfl) ?_
         refine L_p (.bool (((bit64 .and rE (1 : Int)) == (1 : Int)))) rfl rfl (P_int rfl rfl rfl) ?_
         refine L_p (fPtr yB ((x5 : Int).toNat * 1)) rfl rfl (P_indexAddrA (α := Bool) Tryd.underlying74 Tryd.sizeOf4 gH (OB.ptr lD) rfl gJ) ?_
         refine L_nl fun eS qW hs => ?_
         have hfr := hfr.ext hs
         have iA := iA.ext hs
         have rA := rA.ext hs
         have uC := uC.ext hs
         have vC := vC.ext hs
         have nB := nB.ext hs
         have oB := oB.ext hs
         have lD := lD.ext hs
         clear hs
         refine EL_do .plain rfl (D_storeFc (g := eS) (SubS.dyn hi956) Tryd.sizeOf4 rfl lD rfl (RV_bool.2 rfl) fun gS sW hs b985 rst hos => ?_)
         clear rst hos
         have hfr := hfr.stp hs
         have iA := iA.stp hs rfl
         have rA := rA.stp hs rfl
         have uC := uC.stp hs
         have vC := vC.stp hs rfl
         have nB := nB.stp hs
         have oB := oB.stp hs rfl
         refine EL_nil (blk_n ?_)
         obtain rfl := sinj h
         exact hQ _ _ ⟨gS, hfr, nI, iA, pI, rA, kN, uC, lN, vC, sJ, vJ, nB, xJ, yJ, oB, dH, gH, b985, iE⟩
        ·clear hx
         obtain ⟨iS, hfr, qN, rN, sN, tN, uN, vN, xN, yN, zJ, aK, bK, cK, dK, lK, mK, nK, oK, pK⟩ := hR
         refine E_region (EL_mv pK rfl ?_)
         refine EL_in (.int .i64 ((w64 (x5 + (1 : Int))))) rfl rfl rfl rfl ?_
         refine EL_at (.int .i64 ((w64 (x5 + (1 : Int))))) rfl rfl ?_
         exact EL_nil (thn_n (uP (cD, (w64 (x5 + (1 : Int)))) _ _ ⟨iS, hfr, qN, rN, sN, tN, uN, vN, xN, yN, zJ, aK, bK, cK, dK, lK, mK, nK, oK, rfl⟩ h))
      ·clear hx
       obtain ⟨zN, hfr, aO, sF, bO, tF, cO, uF, dO, vF, qK, sK, lE, tK, iH, uK, vK, xK, yK⟩ := hR
       refine E_region (EL_mv iH rfl ?_)
       refine EL_do .plain rfl (D_loadO (g := zN) Tryd.isAgg74 Tryd.sizeOf74 xK yK fun tW jS => ?_)
       refine EL_do .plain rfl (D_mapUpdate (g := zN) Tryd.underlying73 key_74 rfl uK (rfl.trans (encK_of pl_74 jS)) rfl (RV_bool.2 rfl) fun lS uW hs m989 => ?_)
       have hfr := hfr.stp hs
       have sF := sF.stp hs rfl
       have tF := tF.stp hs rfl
       have uF := uF.stp hs
       have vF := vF.stp hs rfl
       have lE := lE.stp hs
       refine EL_nil (blk_n ?_)
       obtain rfl := sinj h
       exact hQ _ _ ⟨lS, hfr, aO, sF, bO, tF, cO, uF, dO, vF, qK, sK, lE, tK, iH, m989, vK⟩
     ·clear hx
      obtain ⟨mS, hfr, eO, gO, iO, jO, kO, lO, mO, nO, zK, aL, bL, dL, eL, gL, iL⟩ := hR
      refine E_region (EL_mv iL rfl ?_)
      refine EL_in (.int .i64 ((w64 (t5 + (1 : Int))))) rfl rfl rfl rfl ?_
      refine EL_at (.int .i64 ((w64 (t5 + (1 : Int))))) rfl rfl ?_
      exact EL_nil (thn_n (pP (eD, (w64 (t5 + (1 : Int)))) _ _ ⟨mS, hfr, eO, gO, iO, jO, kO, lO, mO, nO, zK, aL, bL, dL, eL, gL, rfl⟩ h))
   ·clear hx
    obtain ⟨yI, hfr, oO, pO, qO, yD, jL, lL, mL, nL, oL, mE⟩ := hR
    obtain ⟨jD, hx, h⟩ := bsome h
    refine E_join (fun e w => ∃ (g : Gh) , Fr gI wI g w ∧ e 2 = .bool (jD)) (fun Q' hQ => ?_) (fun cU zU hR => ?_)
    ·replace h := hx
     clear hx
     refine E_region (EL_mv jL rfl ?_)
     refine EL_in (.bool ((y158.2.2 == (0 : Int)))) rfl rfl rfl rfl ?_
     refine EL_mw (.bool ((y158.2.2 == (0 : Int)))) rfl rfl ?_
     rcases csome h with ⟨yA, h⟩ | ⟨yA, h⟩
     ·refine EL_y (.int .i64 (i6.2)) (P_move nL) rfl rfl yA rfl ?_
      refine EL_y (.bool ((i6.2 == (0 : Int)))) (P_int rfl rfl rfl) rfl rfl yA rfl ?_
      refine EL_p (.bool ((i6.2 == (0 : Int)))) (P_pick (b := (y158.2.2 == (0 : Int))) rfl (pick_t yA rfl)) rfl ?_
      refine EL_mw (.bool ((i6.2 == (0 : Int)))) rfl rfl ?_
      rcases csome h with ⟨n9, h⟩ | ⟨n9, h⟩
      ·refine EL_y l5 (P_move lL) rfl rfl n9 rfl ?_
       refine EL_y o0 (P_move oO) rfl rfl n9 rfl ?_
       obtain ⟨gD, rO, h⟩ := bsome h
       refine EL_do (.yes2 rfl rfl n9) rfl (D_call (g := yI) (vs := [l5, o0]) en23 (.cons rfl (.cons rfl .nil)) (wk23 mL pO rO) fun zD dU aV hs hr => ?_)
       have hfr := hfr.ext hs
       have yD := yD.ext hs
       have mE := mE.ext hs
       subst hr
       refine EL_p (.bool (gD)) (P_pick (b := (i6.2 == (0 : Int))) rfl (pick_t n9 rfl)) rfl ?_
       refine EL_mw (.bool (gD)) rfl rfl ?_
       rcases csome h with ⟨m8, h⟩ | ⟨m8, h⟩
       ·refine EL_y m7 (P_move oL) rfl rfl m8 rfl ?_
        refine EL_do (.yes2 rfl rfl m8) rfl (P_lenMap (g := zD) Tryd.underlying73 rfl mE ?_)
        refine EL_y (fPtr i7 0) (P_fieldAddr at_52_0 qO (OB.ptr yD)) rfl rfl m8 rfl ?_
        refine EL_do (.yes2 rfl rfl m8) rfl (D_loadF (g := zD) part_TieHarness_0.1 Tryd.isAgg3 Tryd.sizeOf3 rfl yD fun bV dQ => ?_)
        obtain rfl := RV_int.1 dQ
        refine EL_y (.bool ((((x8).length : Int) == (u3.1).Hooks))) (P_int rfl rfl rfl) rfl rfl m8 rfl ?_
        refine EL_p (.bool ((((x8).length : Int) == (u3.1).Hooks))) (P_pick (b := gD) rfl (pick_t m8 rfl)) rfl ?_
        refine EL_mw (.bool ((((x8).length : Int) == (u3.1).Hooks))) rfl rfl ?_
        rcases csome h with ⟨aD, h⟩ | ⟨aD, h⟩
        ·obtain ⟨iD, sO, h⟩ := bsome h
         refine EL_do (.yes2 rfl rfl aD) rfl (D_call (g := zD) (vs := []) en24 .nil (wk24  sO) fun iJ eU cV hs hr => ?_)
         have hfr := hfr.ext hs
         subst hr
         refine EL_p (.bool (iD)) (P_pick (b := (((x8).length : Int) == (u3.1).Hooks)) rfl (pick_t aD rfl)) rfl ?_
         refine EL_mw (.bool (iD)) rfl rfl ?_
         rcases csome h with ⟨bD, h⟩ | ⟨bD, h⟩
         ·obtain ⟨oE, tO, h⟩ := bsome h
          refine EL_do (.yes2 rfl rfl bD) rfl (D_call (g := iJ) (vs := []) en25 .nil (wk25  tO) fun eQ gU dV hs hr => ?_)
          have hfr := hfr.ext hs
          subst hr
          refine EL_p (.bool (oE)) (P_pick (b := iD) rfl (pick_t bD rfl)) rfl ?_
          refine EL_at (.bool (oE)) rfl rfl ?_
          refine EL_nil ?_
          obtain rfl := sinj h
          exact hQ _ _ ⟨eQ, hfr, rfl⟩
         ·refine EL_s rfl rfl bD rfl rfl ?_
          refine EL_p (.bool false) (P_pick (b := iD) rfl (pick_f bD rfl)) rfl ?_
          refine EL_at (.bool false) rfl rfl ?_
          refine EL_nil ?_
          obtain rfl := sinj h
          exact hQ _ _ ⟨iJ, hfr, rfl⟩
        ·refine EL_s rfl rfl aD rfl rfl ?_
         refine EL_p (.bool false) (P_pick (b := (((x8).length : Int) == (u3.1).Hooks)) rfl (pick_f aD rfl)) rfl ?_
         refine EL_dead 3 rfl ?_
         refine EL_at (.bool false) rfl rfl ?_
         refine EL_nil ?_
         obtain rfl := sinj h
         exact hQ _ _ ⟨zD, hfr, rfl⟩
       ·refine EL_s rfl rfl m8 rfl rfl ?_
        iterate 4 refine EL_s rfl rfl m8 rfl rfl ?_
        refine EL_p (.bool false) (P_pick (b := gD) rfl (pick_f m8 rfl)) rfl ?_
        refine EL_dead 6 rfl ?_
        refine EL_at (.bool false) rfl rfl ?_
        refine EL_nil ?_
        obtain rfl := sinj h
        exact hQ _ _ ⟨zD, hfr, rfl⟩
      ·refine EL_s rfl rfl n9 rfl rfl ?_
       refine EL_s rfl rfl n9 rfl rfl ?_
       refine EL_s rfl rfl n9 rfl rfl ?_
       refine EL_p (.bool false) (P_pick (b := (i6.2 == (0 : Int))) rfl (pick_f n9 rfl)) rfl ?_
       refine EL_dead 13 rfl ?_
       refine EL_at (.bool false) rfl rfl ?_
       refine EL_nil ?_
       obtain rfl := sinj h
       exact hQ _ _ ⟨yI, hfr, rfl⟩
     ·refine EL_s rfl rfl yA rfl rfl ?_
      refine EL_s rfl rfl yA rfl rfl ?_
      refine EL_p (.bool false) (P_pick (b := (y158.2.2 == (0 : Int))) rfl (pick_f yA rfl)) rfl ?_
      refine EL_dead 18 rfl ?_
      refine EL_at (.bool false) rfl rfl ?_
      refine EL_nil ?_
      obtain rfl := sinj h
      exact hQ _ _ ⟨yI, hfr, rfl⟩
    ·clear hx
     obtain ⟨eV, hfr, pL⟩ := hR
     refine E_ret ?_
     obtain rfl := sinj h
     exact end1 rfl rfl (show _ = .bool (jD) from pL) ⟨_, hfr, rfl⟩
end Go.Proofs.YtkfdjkkbnfohjaaDoor
