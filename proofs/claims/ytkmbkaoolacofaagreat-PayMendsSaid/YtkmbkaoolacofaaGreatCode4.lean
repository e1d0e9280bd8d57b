import Derived.Test.YtkmbkaoolacofaaGreatCode3
set_option maxRecDepth 8000
set_option maxHeartbeats 4000000
namespace Go.Proofs.YtkmbkaoolacofaaGreat
open Go.RowKit
def f63 (x0 : PayTable) : Option (PaySheet × Int) :=
 jn (σ := PaySheet) (fun rA =>
  some ((⟨x0⟩ : PaySheet), (0 : Int))
  ) fun qC =>
 (f84 ((⟨x0⟩ : PaySheet))).bind fun yA =>
 bif yA then
  some ((⟨x0⟩ : PaySheet), (5 : Int))
 else
  (f85 ((⟨x0⟩ : PaySheet))).bind fun z9 =>
  bif (!z9) then
   some ((⟨x0⟩ : PaySheet), (4 : Int))
  else
   Option.bind (α := Bool) (
    (f69 ((x0).Rows)).bind fun aB =>
    (f86 aB).bind fun y6 =>
    bif (!y6) then
     some ((!y6))
    else
     (f72 ((x0).Across)).bind fun d7 =>
     bif (!d7) then
      some ((!d7))
     else
      (f72 ((x0).Down)).bind fun i7 =>
      bif (!i7) then
       some ((!i7))
      else
       (f72 (([(x0).Total] : List Int))).bind fun k8 =>
       some ((!k8))
    ) fun t5 =>
   bif t5 then
    some ((⟨x0⟩ : PaySheet), (2 : Int))
   else
    (f87 ((⟨x0⟩ : PaySheet))).bind fun m7 =>
    bif (decide (((m7).length : Int) > (12 : Int))) then
     some ((⟨x0⟩ : PaySheet), (8 : Int))
    else
     qC ((⟨⟨[], [], [], 0⟩⟩ : PaySheet))
theorem en63 : Enters Tryz.prog 63 := enters_of Tryz.func63 (by kernel_rfl) rfl
theorem wk63 {gI : Gh} {wI : World} {x0 : PayTable} {up0 : Value} (rp0 : RV gI.m wI x0 up0) {r : PaySheet × Int} (h : f63 x0 = some r) : Fn Tryz.prog 63 #[up0] gI wI (fun m w v => ∃ y0 y1, v = .tuple #[y0, y1] ∧ RV m w (r.1) y0 ∧ y1 = .int .i64 (r.2)) := by
 unfold f63 at h
 refine fn_of_E Tryz.func63 rfl (Nat.le_of_ble_eq_true rfl) fun g0 hm hfr => ?_
 have rp0 : RV g0.m wI x0 up0 := hm ▸ rp0
 show E _ 47 none _ _ _ _ _
 refine E_seq (E_region (EL_do .plain rfl (D_box (g := g0) rfl rp0 fun g1 w1 p1 hs q1 => ?_)))
 have hfr := hfr.ext hs
 refine EL_do .plain rfl (D_allocOc (g := g1) 2002 (⟨⟨[], [], [], 0⟩⟩ : PaySheet) Tryz.zeroValue132 (fun m w => ⟨_, (rep_two rep_nil (rep_two rep_nil (rep_two rep_nil rep_int))), rfl⟩) fun g2 w2 p2 hs b2 cb => ?_)
 have hfr := hfr.stp hs
 have q1 := q1.stp hs
 have o0 : OSF 2002 60200 0 g2 w2 23 132 ([] : List (List Int)) p2 := cb.osf (by rfl)
 have u3 : OSF 2002 60201 1 g2 w2 3 132 ([] : List Int) p2 := cb.osf (by rfl)
 have l5 : OSF 2002 60202 2 g2 w2 3 132 ([] : List Int) p2 := cb.osf (by rfl)
 clear cb
 refine EL_at (.int .i64 (0)) rfl rfl ?_
 refine EL_nil (thn_n (E_seq (E_region (EL_do .plain rfl (D_load (g := g2) Tryz.isAgg58 Tryz.sizeOf58 rfl q1 fun v3 r3 => ?_)))))
 have r4 : RV g2.m _ (⟨x0⟩ : PaySheet) (.agg (setCh [[.slice none 0 0, .slice none 0 0, .slice none 0 0, .int .i64 0]] [(0, v3)]).flatten.toArray) := RV_build rfl (rep_last (RV.cells r3))
 generalize jE : (Value.agg (setCh [[.slice none 0 0, .slice none 0 0, .slice none 0 0, .int .i64 0]] [(0, v3)]).flatten.toArray) = v4 at r4
 refine EL_p v4 (jE ▸ P_build (vs := [(0, v3)]) [[.slice none 0 0, .slice none 0 0, .slice none 0 0, .int .i64 0]] lay_132 rfl rfl (.cons rfl .nil) ⟨⟨_, rfl, cells_size r3⟩, trivial⟩) rfl ?_
 refine EL_do .plain rfl (D_allocOc (g := g2) 2004 (⟨⟨[], [], [], 0⟩⟩ : PaySheet) Tryz.zeroValue132 (fun m w => ⟨_, (rep_two rep_nil (rep_two rep_nil (rep_two rep_nil rep_int))), rfl⟩) fun g5 w5 p5 hs b5 cb => ?_)
 have hfr := hfr.stp hs
 have o0 := o0.stp hs rfl
 have u3 := u3.stp hs rfl
 have l5 := l5.stp hs rfl
 have b2 := b2.stp hs rfl
 have r4 := r4.stp hs
 have iF : OSF 2004 60400 0 g5 w5 23 132 ([] : List (List Int)) p5 := cb.osf (by rfl)
 have nF : OSF 2004 60401 1 g5 w5 3 132 ([] : List Int) p5 := cb.osf (by rfl)
 have oF : OSF 2004 60402 2 g5 w5 3 132 ([] : List Int) p5 := cb.osf (by rfl)
 clear cb
 refine EL_do .plain rfl (D_storeOc (g := g5) (v := v4) Tryz.sizeOf132 rfl b5 rfl r4 fun g6 w6 hs b6 cb => ?_)
 clear cb
 have hfr := hfr.stp hs
 have o0 := o0.stp hs rfl
 have u3 := u3.stp hs rfl
 have l5 := l5.stp hs rfl
 have b2 := b2.stp hs rfl
 refine EL_nil (thn_n (E_joinC h (fun (s : PaySheet) e w => ∃ (g : Gh) , Fr gI wI g w ∧ e 2 = p2 ∧ OB 2002 g w 132 (s : PaySheet) p2 ∧ OSF 2002 60200 0 g w 23 132 (((s).PayTable).Rows) p2 ∧ OSF 2002 60201 1 g w 3 132 (((s).PayTable).Across) p2 ∧ OSF 2002 60202 2 g w 3 132 (((s).PayTable).Down) p2 ∧ e 4 = p5 ∧ OB 2004 g w 132 ((⟨x0⟩ : PaySheet) : PaySheet) p5) (fun X86 qC rC h => ?_) ?_))
 ·refine E_block ?_
  refine E_seq (E_region (EL_do .plain rfl (D_loadO (g := g6) Tryz.isAgg132 Tryz.sizeOf132 rfl b6 fun kE lE => ?_)))
  obtain ⟨yA, uC, h⟩ := bsome h
  refine EL_do .plain rfl (D_call (g := g6) (vs := [kE]) en84 (.cons rfl .nil) (wk84 lE uC) fun bA pF jG hs hr => ?_)
  have hfr := hfr.ext hs
  have o0 := o0.ext hs
  have u3 := u3.ext hs
  have l5 := l5.ext hs
  have b2 := b2.ext hs
  have b6 := b6.ext hs
  subst hr
  refine EL_at (.bool (yA)) rfl rfl ?_
  refine EL_nil (thn_n ?_)
  rcases csome h with ⟨d9, h⟩ | ⟨d9, h⟩
  ·refine E_ct d9 rfl ?_
   refine E_seq (E_region (EL_do .plain rfl (D_loadO (g := bA) Tryz.isAgg132 Tryz.sizeOf132 rfl b6 fun mE nE => ?_)))
   refine EL_do .plain rfl (D_storeOc (g := bA) (v := mE) Tryz.sizeOf132 rfl b2 rfl nE fun kG lG hs b92 cb => ?_)
   clear cb
   have hfr := hfr.stp hs
   refine EL_at (.int .i64 (5)) rfl rfl ?_
   refine EL_nil (thn_n (E_ret (blk_r ?_)))
   refine thn_r ?_
   obtain rfl := sinj h
   obtain ⟨ad93, cv93, hp93, vC, cr93⟩ := ob_read Tryz.isAgg132 Tryz.sizeOf132 b92
   exact endm_ct rfl rfl ((show _ = p2 from rfl).trans hp93) vC (show _ = .int .i64 (5) from rfl) ⟨_, hfr, _, _, rfl, cr93, rfl⟩
  ·refine E_cf d9 rfl ?_
   refine E_seq (E_region (EL_do .plain rfl (D_loadO (g := bA) Tryz.isAgg132 Tryz.sizeOf132 rfl b6 fun oE rE => ?_)))
   obtain ⟨z9, aD, h⟩ := bsome h
   refine EL_do .plain rfl (D_call (g := bA) (vs := [oE]) en85 (.cons rfl .nil) (wk85 rE aD) fun iA qF mG hs hr => ?_)
   have hfr := hfr.ext hs
   have o0 := o0.ext hs
   have u3 := u3.ext hs
   have l5 := l5.ext hs
   have b2 := b2.ext hs
   have b6 := b6.ext hs
   subst hr
   refine EL_p (.bool (!z9)) (P_not rfl) rfl ?_
   refine EL_at (.bool (!z9)) rfl rfl ?_
   refine EL_nil (thn_n ?_)
   rcases csome h with ⟨k9, h⟩ | ⟨k9, h⟩
   ·refine E_ct k9 rfl ?_
    refine E_seq (E_region (EL_do .plain rfl (D_loadO (g := iA) Tryz.isAgg132 Tryz.sizeOf132 rfl b6 fun sE tE => ?_)))
    refine EL_do .plain rfl (D_storeOc (g := iA) (v := sE) Tryz.sizeOf132 rfl b2 rfl tE fun nG oG hs b99 cb => ?_)
    clear cb
    have hfr := hfr.stp hs
    refine EL_at (.int .i64 (4)) rfl rfl ?_
    refine EL_nil (thn_n (E_ret (blk_r ?_)))
    refine thn_r ?_
    obtain rfl := sinj h
    obtain ⟨ad100, cv100, hp100, mB, cr100⟩ := ob_read Tryz.isAgg132 Tryz.sizeOf132 b99
    exact endm_ct rfl rfl ((show _ = p2 from rfl).trans hp100) mB (show _ = .int .i64 (4) from rfl) ⟨_, hfr, _, _, rfl, cr100, rfl⟩
   ·refine E_cf k9 rfl ?_
    obtain ⟨t5, hx, h⟩ := bsome h
    refine E_join (fun e w => ∃ (g : Gh) , Fr gI wI g w ∧ e 2 = p2 ∧ OB 2002 g w 132 ((⟨⟨[], [], [], 0⟩⟩ : PaySheet) : PaySheet) p2 ∧ OSF 2002 60200 0 g w 23 132 ((((⟨⟨[], [], [], 0⟩⟩ : PaySheet)).PayTable).Rows) p2 ∧ OSF 2002 60201 1 g w 3 132 ((((⟨⟨[], [], [], 0⟩⟩ : PaySheet)).PayTable).Across) p2 ∧ OSF 2002 60202 2 g w 3 132 ((((⟨⟨[], [], [], 0⟩⟩ : PaySheet)).PayTable).Down) p2 ∧ e 4 = p5 ∧ OB 2004 g w 132 ((⟨x0⟩ : PaySheet) : PaySheet) p5 ∧ e 16 = .bool (t5)) (fun Q' hQ => ?_) (fun uE rF hR => ?_)
    ·replace h := hx
     clear hx
     refine E_seq (E_region (EL_p (fPtr p5 0) (P_fieldAddr at_132_0 rfl (OB.ptr b6)) rfl ?_))
     refine EL_p (fPtr p5 0) (P_fieldAddr2 (o1 := 0) rfl at_58_0 rfl (OB.ptr b6)) rfl ?_
     refine EL_do .plain rfl (D_loadF (g := iA) (SubS.comp part_PaySheet_0 part_PayTable_0 rfl).1 Tryz.isAgg56 Tryz.sizeOf56 rfl b6 fun bD cD => ?_)
     obtain ⟨aB, nB, h⟩ := bsome h
     refine EL_do .plain rfl (D_call (g := iA) (vs := [bD]) en69 (.cons rfl .nil) (wk69 cD nB) fun eD vE gD hs hr => ?_)
     have hfr := hfr.ext hs
     have o0 := o0.ext hs
     have u3 := u3.ext hs
     have l5 := l5.ext hs
     have b2 := b2.ext hs
     have b6 := b6.ext hs
     have iD := hr
     obtain ⟨y6, oB, h⟩ := bsome h
     refine EL_do .plain rfl (D_call (g := eD) (vs := [gD]) en86 (.cons rfl .nil) (wk86 iD oB) fun l9 xE sF hs hr => ?_)
     have hfr := hfr.ext hs
     have o0 := o0.ext hs
     have u3 := u3.ext hs
     have l5 := l5.ext hs
     have b2 := b2.ext hs
     have b6 := b6.ext hs
     subst hr
     refine EL_p (.bool (!y6)) (P_not rfl) rfl ?_
     refine EL_at (.bool (!y6)) rfl rfl ?_
     refine EL_nil (thn_n ?_)
     rcases csome h with ⟨l8, h⟩ | ⟨l8, h⟩
     ·refine E_ct l8 rfl ?_
      refine E_skip ?_
      obtain rfl := sinj h
      exact hQ _ _ ⟨l9, hfr, rfl, b2, o0, u3, l5, rfl, b6, rfl⟩
     ·refine E_cf l8 rfl ?_
      refine E_seq (E_region (EL_p (fPtr p5 0) (P_fieldAddr at_132_0 rfl (OB.ptr b6)) rfl ?_))
      refine EL_p (fPtr p5 1) (P_fieldAddr2 (o1 := 0) rfl at_58_1 rfl (OB.ptr b6)) rfl ?_
      refine EL_do .plain rfl (D_loadF (g := l9) (SubS.comp part_PaySheet_0 part_PayTable_1 rfl).1 Tryz.isAgg23 Tryz.sizeOf23 rfl b6 fun jD lD => ?_)
      obtain ⟨d7, tB, h⟩ := bsome h
      refine EL_do .plain rfl (D_call (g := l9) (vs := [jD]) en72 (.cons rfl .nil) (wk72 lD tB) fun n9 yE tF hs hr => ?_)
      have hfr := hfr.ext hs
      have o0 := o0.ext hs
      have u3 := u3.ext hs
      have l5 := l5.ext hs
      have b2 := b2.ext hs
      have b6 := b6.ext hs
      subst hr
      refine EL_p (.bool (!d7)) (P_not rfl) rfl ?_
      refine EL_at (.bool (!d7)) rfl rfl ?_
      refine EL_nil (thn_n ?_)
      rcases csome h with ⟨m8, h⟩ | ⟨m8, h⟩
      ·refine E_ct m8 rfl ?_
       refine E_skip ?_
       obtain rfl := sinj h
       exact hQ _ _ ⟨n9, hfr, rfl, b2, o0, u3, l5, rfl, b6, rfl⟩
      ·refine E_cf m8 rfl ?_
       refine E_seq (E_region (EL_p (fPtr p5 0) (P_fieldAddr at_132_0 rfl (OB.ptr b6)) rfl ?_))
       refine EL_p (fPtr p5 2) (P_fieldAddr2 (o1 := 0) rfl at_58_2 rfl (OB.ptr b6)) rfl ?_
       refine EL_do .plain rfl (D_loadF (g := n9) (SubS.comp part_PaySheet_0 part_PayTable_2 rfl).1 Tryz.isAgg23 Tryz.sizeOf23 rfl b6 fun mD nD => ?_)
       obtain ⟨i7, vB, h⟩ := bsome h
       refine EL_do .plain rfl (D_call (g := n9) (vs := [mD]) en72 (.cons rfl .nil) (wk72 nD vB) fun u9 zE uF hs hr => ?_)
       have hfr := hfr.ext hs
       have o0 := o0.ext hs
       have u3 := u3.ext hs
       have l5 := l5.ext hs
       have b2 := b2.ext hs
       have b6 := b6.ext hs
       subst hr
       refine EL_p (.bool (!i7)) (P_not rfl) rfl ?_
       refine EL_at (.bool (!i7)) rfl rfl ?_
       refine EL_nil (thn_n ?_)
       rcases csome h with ⟨n8, h⟩ | ⟨n8, h⟩
       ·refine E_ct n8 rfl ?_
        refine E_skip ?_
        obtain rfl := sinj h
        exact hQ _ _ ⟨u9, hfr, rfl, b2, o0, u3, l5, rfl, b6, rfl⟩
       ·refine E_cf n8 rfl ?_
        refine E_region (EL_p (fPtr p5 0) (P_fieldAddr at_132_0 rfl (OB.ptr b6)) rfl ?_)
        refine EL_p (fPtr p5 3) (P_fieldAddr2 (o1 := 0) rfl at_58_3 rfl (OB.ptr b6)) rfl ?_
        refine EL_do .plain rfl (D_loadF (g := u9) (SubS.comp part_PaySheet_0 part_PayTable_3 rfl).1 Tryz.isAgg3 Tryz.sizeOf3 rfl b6 fun vF oD => ?_)
        obtain rfl := RV_int.1 oD
        refine EL_do .plain rfl (D_buildSlice (g := u9) 3036 (xs := ([(x0).Total] : List Int)) (vs := [.int .i64 ((x0).Total)]) Tryz.underlying23 Tryz.sizeOf3 Tryz.zeroValue3 rfl rfl (.cons rfl .nil) (RVs.cons (RV_int.2 rfl) RVs.nil) rfl rfl fun sD xF tD hs o150 uD hxt hfl => ?_)
        have hfr := hfr.stp hs
        have o0 := o0.stp hs rfl
        have u3 := u3.stp hs rfl
        have l5 := l5.stp hs rfl
        have b2 := b2.stp hs rfl
        have b6 := b6.stp hs rfl
        obtain ⟨k8, yB, h⟩ := bsome h
        refine EL_do .plain rfl (D_call (g := sD) (vs := [tD]) en72 (.cons rfl .nil) (wk72 uD yB) fun vD cF yF hs hr => ?_)
        have hfr := hfr.ext hs
        have o0 := o0.ext hs
        have u3 := u3.ext hs
        have l5 := l5.ext hs
        have b2 := b2.ext hs
        have b6 := b6.ext hs
        subst hr
        refine EL_p (.bool (!k8)) (P_not rfl) rfl ?_
        refine EL_at (.bool (!k8)) rfl rfl ?_
        refine EL_nil ?_
        obtain rfl := sinj h
        exact hQ _ _ ⟨vD, hfr, rfl, b2, o0, u3, l5, rfl, b6, rfl⟩
    ·clear hx
     obtain ⟨r8, hfr, i6, j6, u2_0_153, u2_1_153, u2_2_153, x6, x5, g8⟩ := hR
     rcases csome h with ⟨v8, h⟩ | ⟨v8, h⟩
     ·refine E_cond_true (Eq.trans (show ev _ _ = .bool (t5) from g8) (congrArg Value.bool v8)) ?_
      refine E_seq (E_region (EL_do .plain rfl (D_loadO (g := r8) Tryz.isAgg132 Tryz.sizeOf132 x6 x5 fun xD yD => ?_)))
      refine EL_do .plain rfl (D_storeOc (g := r8) (v := xD) Tryz.sizeOf132 i6 j6 rfl yD fun zF aG hs b156 cb => ?_)
      clear cb
      have hfr := hfr.stp hs
      refine EL_at (.int .i64 (2)) rfl rfl ?_
      refine EL_nil (thn_n (E_ret (blk_r ?_)))
      refine thn_r ?_
      obtain rfl := sinj h
      obtain ⟨ad157, cv157, hp157, zB, cr157⟩ := ob_read Tryz.isAgg132 Tryz.sizeOf132 b156
      exact endm_ct rfl rfl ((show _ = p2 from i6).trans hp157) zB (show _ = .int .i64 (2) from rfl) ⟨_, hfr, _, _, rfl, cr157, rfl⟩
     ·refine E_cond_false (Eq.trans (show ev _ _ = .bool (t5) from g8) (congrArg Value.bool v8)) ?_
      refine E_seq (E_region (EL_do .plain rfl (D_loadO (g := r8) Tryz.isAgg132 Tryz.sizeOf132 x6 x5 fun zD aE => ?_)))
      obtain ⟨m7, cC, h⟩ := bsome h
      refine EL_do .plain rfl (D_call (g := r8) (vs := [zD]) en87 (.cons rfl .nil) (wk87 aE cC) fun y9 dF bG hs hr => ?_)
      have hfr := hfr.ext hs
      have u2_0_153 := u2_0_153.ext hs
      have u2_1_153 := u2_1_153.ext hs
      have u2_2_153 := u2_2_153.ext hs
      have j6 := j6.ext hs
      have x5 := x5.ext hs
      have bE := hr
      refine EL_p (.int .i64 ((m7).length : Int)) (P_len Tryz.underlying138 rfl bE) rfl ?_
      refine EL_in (.bool ((decide (((m7).length : Int) > (12 : Int))))) rfl rfl rfl rfl ?_
      refine EL_at (.bool ((decide (((m7).length : Int) > (12 : Int))))) rfl rfl ?_
      refine EL_nil (thn_n ?_)
      rcases csome h with ⟨x8, h⟩ | ⟨x8, h⟩
      ·refine E_ct x8 rfl ?_
       refine E_seq (E_region (EL_do .plain rfl (D_loadO (g := y9) Tryz.isAgg132 Tryz.sizeOf132 x6 x5 fun cE dE => ?_)))
       refine EL_do .plain rfl (D_storeOc (g := y9) (v := cE) Tryz.sizeOf132 i6 j6 rfl dE fun cG eG hs b163 cb => ?_)
       clear cb
       have hfr := hfr.stp hs
       refine EL_at (.int .i64 (8)) rfl rfl ?_
       refine EL_nil (thn_n (E_ret (blk_r ?_)))
       refine thn_r ?_
       obtain rfl := sinj h
       obtain ⟨ad164, cv164, hp164, eC, cr164⟩ := ob_read Tryz.isAgg132 Tryz.sizeOf132 b163
       exact endm_ct rfl rfl ((show _ = p2 from i6).trans hp164) eC (show _ = .int .i64 (8) from rfl) ⟨_, hfr, _, _, rfl, cr164, rfl⟩
      ·refine E_cf x8 rfl ?_
       exact E_skip (blk_n (thn_n (rC ((⟨⟨[], [], [], 0⟩⟩ : PaySheet)) _ _ ⟨y9, hfr, i6, j6, u2_0_153, u2_1_153, u2_2_153, x6, x5⟩ h)))
 ·rintro rA eF gG ⟨dB, hfr, a9, iB, u2_0_165, u2_1_165, u2_2_165, jB, lB⟩ h
  refine E_seq (E_region (EL_do .plain rfl (D_loadO (g := dB) Tryz.isAgg132 Tryz.sizeOf132 jB lB fun eE iE => ?_)))
  refine EL_do .plain rfl (D_storeOc (g := dB) (v := eE) Tryz.sizeOf132 a9 iB rfl iE fun hG iG hs b167 cb => ?_)
  clear cb
  have hfr := hfr.stp hs
  refine EL_at (.int .i64 (0)) rfl rfl ?_
  refine EL_nil (thn_n (E_ret ?_))
  obtain rfl := sinj h
  obtain ⟨ad168, cv168, hp168, mC, cr168⟩ := ob_read Tryz.isAgg132 Tryz.sizeOf132 b167
  exact endm_ct rfl rfl ((show _ = p2 from a9).trans hp168) mC (show _ = .int .i64 (0) from rfl) ⟨_, hfr, _, _, rfl, cr168, rfl⟩
def f66 (x0 : PayTable) : Option (PaySheet × Int) :=
 (f63 x0).bind fun y5 =>
 Option.bind (α := Int) (
  Option.bind (α := Bool) (
   bif (y5.2 == (0 : Int)) then
    (f87 (y5.1)).bind fun j6 =>
    some ((decide (((j6).length : Int) > (0 : Int))))
   else
    some (false)
   ) fun x5 =>
  bif x5 then
   some ((7 : Int))
  else
   some (y5.2)
  ) fun i6 =>
 some (y5.1, i6)
theorem en66 : Enters Tryz.prog 66 := enters_of Tryz.func66 (by kernel_rfl) rfl
theorem wk66 {gI : Gh} {wI : World} {x0 : PayTable} {up0 : Value} (rp0 : RV gI.m wI x0 up0) {r : PaySheet × Int} (h : f66 x0 = some r) : Fn Tryz.prog 66 #[up0] gI wI (fun m w v => ∃ y0 y1, v = .tuple #[y0, y1] ∧ RV m w (r.1) y0 ∧ y1 = .int .i64 (r.2)) := by
 unfold f66 at h
 refine fn_of_E Tryz.func66 rfl (Nat.le_of_ble_eq_true rfl) fun g0 hm hfr => ?_
 have rp0 : RV g0.m wI x0 up0 := hm ▸ rp0
 show E _ 21 none _ _ _ _ _
 refine E_seq (E_region (EL_do .plain rfl (D_box (g := g0) rfl rp0 fun g1 w1 p1 hs q1 => ?_)))
 have hfr := hfr.ext hs
 refine EL_do .plain rfl (D_allocOc (g := g1) 2002 (⟨⟨[], [], [], 0⟩⟩ : PaySheet) Tryz.zeroValue132 (fun m w => ⟨_, (rep_two rep_nil (rep_two rep_nil (rep_two rep_nil rep_int))), rfl⟩) fun g2 w2 p2 hs b2 cb => ?_)
 have hfr := hfr.stp hs
 have q1 := q1.stp hs
 have o0 : OSF 2002 60200 0 g2 w2 23 132 ([] : List (List Int)) p2 := cb.osf (by rfl)
 have u3 : OSF 2002 60201 1 g2 w2 3 132 ([] : List Int) p2 := cb.osf (by rfl)
 have l5 : OSF 2002 60202 2 g2 w2 3 132 ([] : List Int) p2 := cb.osf (by rfl)
 clear cb
 refine EL_at (.int .i64 (0)) rfl rfl ?_
 refine EL_nil (thn_n (E_seq (E_region (EL_do .plain rfl (D_load (g := g2) Tryz.isAgg58 Tryz.sizeOf58 rfl q1 fun v3 r3 => ?_)))))
 obtain ⟨y5, hy5, h⟩ := bsome h
 refine EL_do .plain rfl (D_call (g := g2) (vs := [v3]) en63 (.cons rfl .nil) (wk63 r3 hy5) fun g4 w4_ v4 hs hr => ?_)
 have hfr := hfr.ext hs
 have o0 := o0.ext hs
 have u3 := u3.ext hs
 have l5 := l5.ext hs
 have b2 := b2.ext hs
 obtain ⟨y6, yA, rfl, d7, rfl⟩ := hr
 refine EL_mw (.tuple #[y6, .int .i64 (y5.2)]) rfl rfl ?_
 refine EL_p y6 (P_extract rfl rfl) rfl ?_
 refine EL_p (.int .i64 (y5.2)) (P_extract rfl rfl) rfl ?_
 refine EL_do .plain rfl (D_allocOc (g := g4) 2004 (⟨⟨[], [], [], 0⟩⟩ : PaySheet) Tryz.zeroValue132 (fun m w => ⟨_, (rep_two rep_nil (rep_two rep_nil (rep_two rep_nil rep_int))), rfl⟩) fun g6 w6 p6 hs b6 cb => ?_)
 have hfr := hfr.stp hs
 have o0 := o0.stp hs rfl
 have u3 := u3.stp hs rfl
 have l5 := l5.stp hs rfl
 have b2 := b2.stp hs rfl
 have d7 := d7.stp hs
 have aB : OSF 2004 60400 0 g6 w6 23 132 ([] : List (List Int)) p6 := cb.osf (by rfl)
 have dB : OSF 2004 60401 1 g6 w6 3 132 ([] : List Int) p6 := cb.osf (by rfl)
 have iB : OSF 2004 60402 2 g6 w6 3 132 ([] : List Int) p6 := cb.osf (by rfl)
 clear cb
 refine EL_do .plain rfl (D_storeOc (g := g6) (v := y6) Tryz.sizeOf132 rfl b6 rfl d7 fun g7 w7 hs b7 cb => ?_)
 clear cb
 have hfr := hfr.stp hs
 have o0 := o0.stp hs rfl
 have u3 := u3.stp hs rfl
 have l5 := l5.stp hs rfl
 have b2 := b2.stp hs rfl
 refine EL_at (.int .i64 (y5.2)) rfl rfl ?_
 refine EL_nil (thn_n ?_)
 obtain ⟨i6, hx, h⟩ := bsome h
 refine E_join (fun e w => ∃ (g : Gh) , Fr gI wI g w ∧ e 2 = p2 ∧ OB 2002 g w 132 ((⟨⟨[], [], [], 0⟩⟩ : PaySheet) : PaySheet) p2 ∧ OSF 2002 60200 0 g w 23 132 ((((⟨⟨[], [], [], 0⟩⟩ : PaySheet)).PayTable).Rows) p2 ∧ OSF 2002 60201 1 g w 3 132 ((((⟨⟨[], [], [], 0⟩⟩ : PaySheet)).PayTable).Across) p2 ∧ OSF 2002 60202 2 g w 3 132 ((((⟨⟨[], [], [], 0⟩⟩ : PaySheet)).PayTable).Down) p2 ∧ e 4 = p6 ∧ OB 2004 g w 132 (y5.1 : PaySheet) p6 ∧ e 5 = .int .i64 (i6)) (fun Q' hQ => ?_) (fun jB nB hR => ?_)
 ·replace h := hx
  clear hx
  obtain ⟨x5, hx, h⟩ := bsome h
  refine E_join (fun e w => ∃ (g : Gh) , Fr gI wI g w ∧ e 2 = p2 ∧ OB 2002 g w 132 ((⟨⟨[], [], [], 0⟩⟩ : PaySheet) : PaySheet) p2 ∧ OSF 2002 60200 0 g w 23 132 ((((⟨⟨[], [], [], 0⟩⟩ : PaySheet)).PayTable).Rows) p2 ∧ OSF 2002 60201 1 g w 3 132 ((((⟨⟨[], [], [], 0⟩⟩ : PaySheet)).PayTable).Across) p2 ∧ OSF 2002 60202 2 g w 3 132 ((((⟨⟨[], [], [], 0⟩⟩ : PaySheet)).PayTable).Down) p2 ∧ e 4 = p6 ∧ OB 2004 g w 132 (y5.1 : PaySheet) p6 ∧ e 5 = .int .i64 (y5.2) ∧ e 18 = .bool (x5)) (fun Q' hQ => ?_) (fun lB oB hR => ?_)
  ·replace h := hx
   clear hx
   refine E_region (EL_mw (.int .i64 (y5.2)) rfl rfl ?_)
   refine EL_in (.bool ((y5.2 == (0 : Int)))) rfl rfl rfl rfl ?_
   refine EL_mw (.bool ((y5.2 == (0 : Int)))) rfl rfl ?_
   rcases csome h with ⟨t5, h⟩ | ⟨t5, h⟩
   ·refine EL_do (.yes2 rfl rfl t5) rfl (D_loadO (g := g7) Tryz.isAgg132 Tryz.sizeOf132 rfl b7 fun u9 y9 => ?_)
    obtain ⟨j6, l9, h⟩ := bsome h
    refine EL_do (.yes2 rfl rfl t5) rfl (D_call (g := g7) (vs := [u9]) en87 (.cons rfl .nil) (wk87 y9 l9) fun z9 mB tB hs hr => ?_)
    have hfr := hfr.ext hs
    have o0 := o0.ext hs
    have u3 := u3.ext hs
    have l5 := l5.ext hs
    have b2 := b2.ext hs
    have b7 := b7.ext hs
    have bA := hr
    refine EL_y (.int .i64 ((j6).length : Int)) (P_len Tryz.underlying138 rfl bA) rfl rfl t5 rfl ?_
    refine EL_y (.bool ((decide (((j6).length : Int) > (0 : Int))))) (P_int rfl rfl rfl) rfl rfl t5 rfl ?_
    refine EL_p (.bool ((decide (((j6).length : Int) > (0 : Int))))) (P_pick (b := (y5.2 == (0 : Int))) rfl (pick_t t5 rfl)) rfl ?_
    refine EL_nil ?_
    obtain rfl := sinj h
    exact hQ _ _ ⟨z9, hfr, rfl, b2, o0, u3, l5, rfl, b7, rfl, rfl⟩
   ·refine EL_s rfl rfl t5 rfl rfl ?_
    iterate 3 refine EL_s rfl rfl t5 rfl rfl ?_
    refine EL_p (.bool false) (P_pick (b := (y5.2 == (0 : Int))) rfl (pick_f t5 rfl)) rfl ?_
    refine EL_nil ?_
    obtain rfl := sinj h
    exact hQ _ _ ⟨g7, hfr, rfl, b2, o0, u3, l5, rfl, b7, rfl, rfl⟩
  ·clear hx
   obtain ⟨d9, hfr, m7, g8, u2_0_26, u2_1_26, u2_2_26, k8, l8, n8, x6⟩ := hR
   rcases csome h with ⟨i7, h⟩ | ⟨i7, h⟩
   ·refine E_cond_true (Eq.trans (show ev _ _ = .bool (x5) from x6) (congrArg Value.bool i7)) ?_
    refine E_region (EL_at (.int .i64 (7)) rfl rfl ?_)
    refine EL_nil ?_
    obtain rfl := sinj h
    exact hQ _ _ ⟨d9, hfr, m7, g8, u2_0_26, u2_1_26, u2_2_26, k8, l8, rfl⟩
   ·refine E_cond_false (Eq.trans (show ev _ _ = .bool (x5) from x6) (congrArg Value.bool i7)) ?_
    refine E_skip ?_
    obtain rfl := sinj h
    exact hQ _ _ ⟨d9, hfr, m7, g8, u2_0_26, u2_1_26, u2_2_26, k8, l8, n8⟩
 ·clear hx
  obtain ⟨k9, hfr, m8, r8, u2_0_28, u2_1_28, u2_2_28, v8, x8, a9⟩ := hR
  refine E_seq (E_region (EL_do .plain rfl (D_loadO (g := k9) Tryz.isAgg132 Tryz.sizeOf132 v8 x8 fun iA rA => ?_)))
  refine EL_mv a9 rfl ?_
  refine EL_do .plain rfl (D_storeOc (g := k9) (v := iA) Tryz.sizeOf132 m8 r8 rfl rA fun vB yB hs b30 cb => ?_)
  clear cb
  have hfr := hfr.stp hs
  refine EL_at (.int .i64 (i6)) rfl rfl ?_
  refine EL_nil (thn_n (E_ret ?_))
  obtain rfl := sinj h
  obtain ⟨ad31, cv31, hp31, n9, cr31⟩ := ob_read Tryz.isAgg132 Tryz.sizeOf132 b30
  exact endm_ct rfl rfl ((show _ = p2 from m8).trans hp31) n9 (show _ = .int .i64 (i6) from rfl) ⟨_, hfr, _, _, rfl, cr31, rfl⟩
def f41 (x0 : PayTable) : Option (Bool × Int) :=
 (f66 x0).bind fun y4 =>
 jn (σ := Unit) (fun _ =>
  (f67 (y4.1)).bind fun o0 =>
  (f69 (([o0.1, o0.2.1, ([o0.2.2.1, o0.2.2.2] : List Int)] : List (List Int)))).bind fun m7 =>
  (f68 m7 ((fun a0 => f70 a0))).bind fun i6 =>
  some ((!i6), (0 : Int))
  ) fun k8 =>
 bif (y4.2 != (0 : Int)) then
  some (false, y4.2)
 else
  k8 ()
theorem en41 : Enters Tryz.prog 41 := enters_of Tryz.func41 (by kernel_rfl) rfl
theorem wk41 {gI : Gh} {wI : World} {x0 : PayTable} {up0 : Value} (rp0 : RV gI.m wI x0 up0) {r : Bool × Int} (h : f41 x0 = some r) : Fn Tryz.prog 41 #[up0] gI wI (fun m w v => ∃ y0 y1, v = .tuple #[y0, y1] ∧ y0 = .bool (r.1) ∧ y1 = .int .i64 (r.2)) := by
 unfold f41 at h
 refine fn_of_E Tryz.func41 rfl (Nat.le_of_ble_eq_true rfl) fun g0 hm hfr => ?_
 have rp0 : RV g0.m wI x0 up0 := hm ▸ rp0
 show E _ 34 none _ _ _ _ _
 refine E_seq (E_region (EL_do .plain rfl (D_box (g := g0) rfl rp0 fun g1 w1 p1 hs q1 => ?_)))
 have hfr := hfr.ext hs
 refine EL_at (.bool false) rfl rfl ?_
 refine EL_at (.int .i64 (0)) rfl rfl ?_
 refine EL_nil (thn_n (E_seq (E_region (EL_do .plain rfl (D_load (g := g1) Tryz.isAgg58 Tryz.sizeOf58 rfl q1 fun v2 r2 => ?_)))))
 obtain ⟨y4, r8, h⟩ := bsome h
 refine EL_do .plain rfl (D_call (g := g1) (vs := [v2]) en66 (.cons rfl .nil) (wk66 r2 r8) fun g3 w3_ v3 hs hr => ?_)
 have hfr := hfr.ext hs
 obtain ⟨j6, dB, rfl, x6, rfl⟩ := hr
 refine EL_mw (.tuple #[j6, .int .i64 (y4.2)]) rfl rfl ?_
 refine EL_p j6 (P_extract rfl rfl) rfl ?_
 refine EL_p (.int .i64 (y4.2)) (P_extract rfl rfl) rfl ?_
 refine EL_do .plain rfl (D_allocOc (g := g3) 2004 (⟨⟨[], [], [], 0⟩⟩ : PaySheet) Tryz.zeroValue132 (fun m w => ⟨_, (rep_two rep_nil (rep_two rep_nil (rep_two rep_nil rep_int))), rfl⟩) fun g5 w5 p5 hs b5 cb => ?_)
 have hfr := hfr.stp hs
 have x6 := x6.stp hs
 have iB : OSF 2004 60400 0 g5 w5 23 132 ([] : List (List Int)) p5 := cb.osf (by rfl)
 have jB : OSF 2004 60401 1 g5 w5 3 132 ([] : List Int) p5 := cb.osf (by rfl)
 have lB : OSF 2004 60402 2 g5 w5 3 132 ([] : List Int) p5 := cb.osf (by rfl)
 clear cb
 refine EL_do .plain rfl (D_storeOc (g := g5) (v := j6) Tryz.sizeOf132 rfl b5 rfl x6 fun g6 w6 hs b6 cb => ?_)
 clear cb
 have hfr := hfr.stp hs
 refine EL_at (.int .i64 (y4.2)) rfl rfl ?_
 refine EL_nil (thn_n (E_joinC h (fun (s : Unit) e w => ∃ (g : Gh) , Fr gI wI g w ∧ e 4 = p5 ∧ OB 2004 g w 132 (y4.1 : PaySheet) p5) (fun X8 k8 v8 h => ?_) ?_))
 ·refine E_seq (E_region (EL_mw (.int .i64 (y4.2)) rfl rfl ?_))
  refine EL_in (.bool ((y4.2 != (0 : Int)))) rfl rfl rfl rfl ?_
  refine EL_nil (thn_n ?_)
  rcases csome h with ⟨y6, h⟩ | ⟨y6, h⟩
  ·refine E_ct y6 rfl ?_
   refine E_seq (E_region (EL_mw (.int .i64 (y4.2)) rfl rfl ?_))
   refine EL_at (.bool false) rfl rfl ?_
   refine EL_at (.int .i64 (y4.2)) rfl rfl ?_
   refine EL_nil (thn_n (E_ret (thn_r ?_)))
   obtain rfl := sinj h
   exact end2 rfl rfl (show _ = .bool false from rfl) (show _ = .int .i64 (y4.2) from rfl) ⟨_, hfr, _, _, rfl, rfl, rfl⟩
  ·refine E_cf y6 rfl ?_
   exact E_skip (thn_n (v8 () _ _ ⟨g6, hfr, rfl, b6⟩ h))
 ·rintro _ mB vB ⟨g8, hfr, d7, i7⟩ h
  refine E_seq (E_region (EL_do .plain rfl (D_loadO (g := g8) Tryz.isAgg132 Tryz.sizeOf132 d7 i7 fun x8 a9 => ?_)))
  obtain ⟨o0, l8, h⟩ := bsome h
  refine EL_do .plain rfl (D_call (g := g8) (vs := [x8]) en67 (.cons rfl .nil) (wk67 a9 l8) fun d9 nB yB hs hr => ?_)
  have hfr := hfr.ext hs
  obtain ⟨u3, l5, yA, aB, rfl, t5, x5, rfl, rfl⟩ := hr
  refine EL_mw (.tuple #[u3, l5, .int .i64 (o0.2.2.1), .int .i64 (o0.2.2.2)]) rfl rfl ?_
  refine EL_p u3 (P_extract rfl rfl) rfl ?_
  refine EL_p l5 (P_extract rfl rfl) rfl ?_
  refine EL_p (.int .i64 (o0.2.2.1)) (P_extract rfl rfl) rfl ?_
  refine EL_p (.int .i64 (o0.2.2.2)) (P_extract rfl rfl) rfl ?_
  refine EL_at u3 rfl rfl ?_
  refine EL_at l5 rfl rfl ?_
  refine EL_at (.int .i64 (o0.2.2.1)) rfl rfl ?_
  refine EL_at (.int .i64 (o0.2.2.2)) rfl rfl ?_
  refine EL_nil (thn_n (E_seq (E_region (EL_mw u3 rfl rfl ?_))))
  refine EL_mw l5 rfl rfl ?_
  refine EL_mw (.int .i64 (o0.2.2.1)) rfl rfl ?_
  refine EL_mw (.int .i64 (o0.2.2.2)) rfl rfl ?_
  refine EL_do .plain rfl (D_buildSlice (g := d9) 3029 (xs := ([o0.2.2.1, o0.2.2.2] : List Int)) (vs := [.int .i64 (o0.2.2.1), .int .i64 (o0.2.2.2)]) Tryz.underlying23 Tryz.sizeOf3 Tryz.zeroValue3 rfl rfl (.cons rfl (.cons rfl .nil)) (RVs.cons (RV_int.2 rfl) (RVs.cons (RV_int.2 rfl) RVs.nil)) rfl rfl fun k9 zB l9 hs o14 n9 hxt hfl => ?_)
  have hfr := hfr.stp hs
  have t5 := t5.stp hs
  have x5 := x5.stp hs
  refine EL_do .plain rfl (D_buildSlice (g := k9) 3030 (xs := ([o0.1, o0.2.1, ([o0.2.2.1, o0.2.2.2] : List Int)] : List (List Int))) (vs := [u3, l5, l9]) Tryz.underlying56 Tryz.sizeOf23 Tryz.zeroValue23 rfl rfl (.cons rfl (.cons rfl (.cons rfl .nil))) (RVs.cons t5 (RVs.cons x5 (RVs.cons n9 RVs.nil))) rfl rfl fun u9 w15 y9 hs o15 z9 hxt hfl => ?_)
  have hfr := hfr.stp hs
  obtain ⟨m7, m8, h⟩ := bsome h
  refine EL_do .plain rfl (D_call (g := u9) (vs := [y9]) en69 (.cons rfl .nil) (wk69 z9 m8) fun bA oB iA hs hr => ?_)
  have hfr := hfr.ext hs
  have rA := hr
  obtain ⟨i6, n8, h⟩ := bsome h
  refine EL_do .plain rfl (D_call (g := bA) (vs := [iA, .func (.func 70) #[] #[]]) en68 (.cons rfl (.cons rfl .nil)) (wk68 rA ⟨70, #[], #[], rfl, en70, fun g' w' hch a0 b0 r hu0 hr => by obtain rfl := RV_int.1 hu0; exact Fn.mono (wk70   hr) fun _ _ _ h => RV_bool.2 h⟩ n8) fun cC tB eC hs hr => ?_)
  have hfr := hfr.ext hs
  subst hr
  refine EL_p (.bool (!i6)) (P_not rfl) rfl ?_
  refine EL_at (.bool (!i6)) rfl rfl ?_
  refine EL_at (.int .i64 (0)) rfl rfl ?_
  refine EL_nil (thn_n (E_ret ?_))
  obtain rfl := sinj h
  exact end2 rfl rfl (show _ = .bool (!i6) from rfl) (show _ = .int .i64 (0) from rfl) ⟨_, hfr, _, _, rfl, rfl, rfl⟩
def f42 (x0 : PayTable) : Option (PayEntry × Int) :=
 (f66 x0).bind fun y5 =>
 jn (σ := PayEntry) (fun jB =>
  (f67 (y5.1)).bind fun o0 =>
  (f71 (o0.1)).bind fun l5 =>
  (f71 (o0.2.1)).bind fun u3 =>
  jn (σ := PayEntry × Bool) (fun (oF, xE) =>
   jn (σ := PayEntry) (fun sG =>
    some (sG, (0 : Int))
    ) fun zH =>
   bif (!xE) then
    some ((⟨0, 0, 0, 0⟩ : PayEntry), (9 : Int))
   else
    zH (oF)
   ) fun pF =>
  Option.bind (α := Bool) (
   bif (l5.2 == (0 : Int)) then
    bif (u3.2 == (0 : Int)) then
     bif (o0.2.2.1 == (0 : Int)) then
      some ((o0.2.2.2 == (0 : Int)))
     else
      some (false)
    else
     some (false)
   else
    some (false)
   ) fun oD =>
  bif oD then
   some (jB, (0 : Int))
  else
   Option.bind (α := Bool) (
    bif (l5.2 == (1 : Int)) then
     bif (u3.2 == (1 : Int)) then
      bif (o0.2.2.1 == (0 : Int)) then
       bif (o0.2.2.2 == (0 : Int)) then
        (idx (o0.1) l5.1).bind fun qF =>
        (idx (o0.2.1) u3.1).bind fun rF =>
        some ((qF == rF))
       else
        some (false)
      else
       some (false)
     else
      some (false)
    else
     some (false)
    ) fun rC =>
   bif rC then
    (idx (((y5.1).PayTable).Rows) l5.1).bind fun aI =>
    (idx aI u3.1).bind fun n8 =>
    (idx (o0.1) l5.1).bind fun r8 =>
    (f54 ((0 : Int)) ((1000000 : Int)) (([(w64 (n8 - r8))] : List Int))).bind fun aG =>
    pF ((⟨(1 : Int), l5.1, u3.1, (w64 (n8 - r8))⟩ : PayEntry), aG)
   else
    Option.bind (α := Bool) (
     bif (l5.2 == (1 : Int)) then
      bif (u3.2 == (0 : Int)) then
       bif (o0.2.2.2 == (0 : Int)) then
        (idx (o0.1) l5.1).bind fun cF =>
        some ((cF == (w64 (0 - o0.2.2.1))))
       else
        some (false)
      else
       some (false)
     else
      some (false)
     ) fun rA =>
    bif rA then
     (idx (((y5.1).PayTable).Across) l5.1).bind fun lB =>
     (idx (o0.1) l5.1).bind fun mB =>
     pF ((⟨(2 : Int), l5.1, 0, (w64 (lB + mB))⟩ : PayEntry), true)
    else
     Option.bind (α := Bool) (
      bif (l5.2 == (0 : Int)) then
       bif (u3.2 == (1 : Int)) then
        bif (o0.2.2.1 == (0 : Int)) then
         (idx (o0.2.1) u3.1).bind fun dF =>
         some ((dF == (w64 (0 - o0.2.2.2))))
        else
         some (false)
       else
        some (false)
      else
       some (false)
      ) fun yA =>
     bif yA then
      (idx (((y5.1).PayTable).Down) u3.1).bind fun nB =>
      (idx (o0.2.1) u3.1).bind fun oB =>
      pF ((⟨(3 : Int), 0, u3.1, (w64 (nB + oB))⟩ : PayEntry), true)
     else
      Option.bind (α := Bool) (
       bif (l5.2 == (0 : Int)) then
        bif (u3.2 == (0 : Int)) then
         some ((o0.2.2.1 == o0.2.2.2))
        else
         some (false)
       else
        some (false)
       ) fun aB =>
      bif aB then
       (f72 (([(w64 (((y5.1).PayTable).Total + o0.2.2.1))] : List Int))).bind fun bG =>
       pF ((⟨(4 : Int), 0, 0, (w64 (((y5.1).PayTable).Total + o0.2.2.1))⟩ : PayEntry), bG)
      else
       pF (jB, false)
  ) fun sM =>
 bif (y5.2 != (0 : Int)) then
  some ((⟨0, 0, 0, 0⟩ : PayEntry), y5.2)
 else
  sM ((⟨0, 0, 0, 0⟩ : PayEntry))
theorem en42 : Enters Tryz.prog 42 := enters_of Tryz.func42 (by kernel_rfl) rfl
theorem wk42 {gI : Gh} {wI : World} {x0 : PayTable} {up0 : Value} (rp0 : RV gI.m wI x0 up0) {r : PayEntry × Int} (h : f42 x0 = some r) : Fn Tryz.prog 42 #[up0] gI wI (fun m w v => ∃ y0 y1, v = .tuple #[y0, y1] ∧ RV m w (r.1) y0 ∧ y1 = .int .i64 (r.2)) := by
 unfold f42 at h
 refine fn_of_E Tryz.func42 rfl (Nat.le_of_ble_eq_true rfl) fun g0 hm hfr => ?_
 have rp0 : RV g0.m wI x0 up0 := hm ▸ rp0
 show E _ 195 none _ _ _ _ _
 refine E_seq (E_region (EL_do .plain rfl (D_box (g := g0) rfl rp0 fun g1 w1 p1 hs q1 => ?_)))
 have hfr := hfr.ext hs
 refine EL_do .plain rfl (D_allocOc (g := g1) 2002 (⟨0, 0, 0, 0⟩ : PayEntry) Tryz.zeroValue100 (fun m w => ⟨_, (rep_two rep_int (rep_two rep_int (rep_two rep_int rep_int))), rfl⟩) fun g2 w2 p2 hs b2 cb => ?_)
 have hfr := hfr.stp hs
 have q1 := q1.stp hs
 clear cb
 refine EL_at (.int .i64 (0)) rfl rfl ?_
 refine EL_nil (thn_n (E_seq (E_region (EL_do .plain rfl (D_load (g := g2) Tryz.isAgg58 Tryz.sizeOf58 rfl q1 fun v3 r3 => ?_)))))
 obtain ⟨y5, hy5, h⟩ := bsome h
 refine EL_do .plain rfl (D_call (g := g2) (vs := [v3]) en66 (.cons rfl .nil) (wk66 r3 hy5) fun g4 w4_ v4 hs hr => ?_)
 have hfr := hfr.ext hs
 have b2 := b2.ext hs
 obtain ⟨pH, pP, rfl, qH, rfl⟩ := hr
 refine EL_mw (.tuple #[pH, .int .i64 (y5.2)]) rfl rfl ?_
 refine EL_p pH (P_extract rfl rfl) rfl ?_
 refine EL_p (.int .i64 (y5.2)) (P_extract rfl rfl) rfl ?_
 refine EL_do .plain rfl (D_allocOc (g := g4) 2004 (⟨⟨[], [], [], 0⟩⟩ : PaySheet) Tryz.zeroValue132 (fun m w => ⟨_, (rep_two rep_nil (rep_two rep_nil (rep_two rep_nil rep_int))), rfl⟩) fun g6 w6 p6 hs b6 cb => ?_)
 have hfr := hfr.stp hs
 have b2 := b2.stp hs rfl
 have qH := qH.stp hs
 have sP : OSF 2004 60400 0 g6 w6 23 132 ([] : List (List Int)) p6 := cb.osf (by rfl)
 have tP : OSF 2004 60401 1 g6 w6 3 132 ([] : List Int) p6 := cb.osf (by rfl)
 have uP : OSF 2004 60402 2 g6 w6 3 132 ([] : List Int) p6 := cb.osf (by rfl)
 clear cb
 refine EL_do .plain rfl (D_storeOc (g := g6) (v := pH) Tryz.sizeOf132 rfl b6 rfl qH fun g7 w7 hs b7 cb => ?_)
 clear cb
 have hfr := hfr.stp hs
 have b2 := b2.stp hs rfl
 refine EL_at (.int .i64 (y5.2)) rfl rfl ?_
 refine EL_nil (thn_n (E_joinC h (fun (s : PayEntry) e w => ∃ (g : Gh) , Fr gI wI g w ∧ e 2 = p2 ∧ OB 2002 g w 100 (s : PayEntry) p2 ∧ e 4 = p6 ∧ OB 2004 g w 132 (y5.1 : PaySheet) p6) (fun X12 sM uM h => ?_) ?_))
 ·refine E_seq (E_region (EL_mw (.int .i64 (y5.2)) rfl rfl ?_))
  refine EL_in (.bool ((y5.2 != (0 : Int)))) rfl rfl rfl rfl ?_
  refine EL_nil (thn_n ?_)
  rcases csome h with ⟨sH, h⟩ | ⟨sH, h⟩
  ·refine E_ct sH rfl ?_
   refine E_seq (E_region (EL_do .plain rfl (D_loadO (g := g7) Tryz.isAgg100 Tryz.sizeOf100 rfl b2 fun nN oN => ?_)))
   refine EL_mw (.int .i64 (y5.2)) rfl rfl ?_
   refine EL_do .plain rfl (D_storeOc (g := g7) (v := nN) Tryz.sizeOf100 rfl b2 rfl oN fun nQ w15 hs b15 cb => ?_)
   clear cb
   have hfr := hfr.stp hs
   refine EL_at (.int .i64 (y5.2)) rfl rfl ?_
   refine EL_nil (thn_n (E_ret (thn_r ?_)))
   obtain rfl := sinj h
   obtain ⟨ad16, cv16, hp16, vM, cr16⟩ := ob_read Tryz.isAgg100 Tryz.sizeOf100 b15
   exact endm_ct rfl rfl ((show _ = p2 from rfl).trans hp16) vM (show _ = .int .i64 (y5.2) from rfl) ⟨_, hfr, _, _, rfl, cr16, rfl⟩
  ·refine E_cf sH rfl ?_
   exact E_skip (thn_n (uM ((⟨0, 0, 0, 0⟩ : PayEntry)) _ _ ⟨g7, hfr, rfl, b2, rfl, b7⟩ h))
 ·rintro jB vP oQ ⟨tM, hfr, cG, bA, eF, a9⟩ h
  refine E_seq (E_region (EL_do .plain rfl (D_loadO (g := tM) Tryz.isAgg132 Tryz.sizeOf132 eF a9 fun pN qN => ?_)))
  obtain ⟨o0, hy20, h⟩ := bsome h
  refine EL_do .plain rfl (D_call (g := tM) (vs := [pN]) en67 (.cons rfl .nil) (wk67 qN hy20) fun rN xP pQ hs hr => ?_)
  have hfr := hfr.ext hs
  have bA := bA.ext hs
  have a9 := a9.ext hs
  obtain ⟨j6, x6, cO, dO, rfl, tB, vB, rfl, rfl⟩ := hr
  refine EL_mw (.tuple #[j6, x6, .int .i64 (o0.2.2.1), .int .i64 (o0.2.2.2)]) rfl rfl ?_
  refine EL_p j6 (P_extract rfl rfl) rfl ?_
  refine EL_p x6 (P_extract rfl rfl) rfl ?_
  refine EL_p (.int .i64 (o0.2.2.1)) (P_extract rfl rfl) rfl ?_
  refine EL_p (.int .i64 (o0.2.2.2)) (P_extract rfl rfl) rfl ?_
  refine EL_at j6 rfl rfl ?_
  refine EL_at x6 rfl rfl ?_
  refine EL_at (.int .i64 (o0.2.2.1)) rfl rfl ?_
  refine EL_at (.int .i64 (o0.2.2.2)) rfl rfl ?_
  refine EL_nil (thn_n (E_seq (E_region (EL_mw j6 rfl rfl ?_))))
  obtain ⟨l5, xM, h⟩ := bsome h
  refine EL_do .plain rfl (D_call (g := rN) (vs := [j6]) en71 (.cons rfl .nil) (wk71 tB xM) fun sN yP qQ hs hr => ?_)
  have hfr := hfr.ext hs
  have bA := bA.ext hs
  have a9 := a9.ext hs
  have tB := tB.ext hs
  have vB := vB.ext hs
  obtain ⟨eO, gO, rfl, rfl, rfl⟩ := hr
  refine EL_mw (.tuple #[.int .i64 (l5.1), .int .i64 (l5.2)]) rfl rfl ?_
  refine EL_p (.int .i64 (l5.1)) (P_extract rfl rfl) rfl ?_
  refine EL_p (.int .i64 (l5.2)) (P_extract rfl rfl) rfl ?_
  refine EL_at (.int .i64 (l5.1)) rfl rfl ?_
  refine EL_at (.int .i64 (l5.2)) rfl rfl ?_
  refine EL_nil (thn_n (E_seq (E_region (EL_mw x6 rfl rfl ?_))))
  obtain ⟨u3, yM, h⟩ := bsome h
  refine EL_do .plain rfl (D_call (g := sN) (vs := [x6]) en71 (.cons rfl .nil) (wk71 vB yM) fun bI zP rQ hs hr => ?_)
  have hfr := hfr.ext hs
  have bA := bA.ext hs
  have a9 := a9.ext hs
  have tB := tB.ext hs
  have vB := vB.ext hs
  obtain ⟨iO, jO, rfl, rfl, rfl⟩ := hr
  refine EL_mw (.tuple #[.int .i64 (u3.1), .int .i64 (u3.2)]) rfl rfl ?_
  refine EL_p (.int .i64 (u3.1)) (P_extract rfl rfl) rfl ?_
  refine EL_p (.int .i64 (u3.2)) (P_extract rfl rfl) rfl ?_
  refine EL_at (.int .i64 (u3.1)) rfl rfl ?_
  refine EL_at (.int .i64 (u3.2)) rfl rfl ?_
  refine EL_nil (thn_n (E_seq (E_region (EL_at (.bool true) rfl rfl ?_))))
  refine EL_nil (thn_n (E_joinC h (fun (s : PayEntry × Bool) e w => ∃ (g : Gh) , Fr gI wI g w ∧ e 2 = p2 ∧ OB 2002 g w 100 (s.1 : PayEntry) p2 ∧ e 13 = .bool (s.2)) (fun X614 pF iF h => ?_) ?_))
  ·refine E_block ?_
   obtain ⟨oD, hx, h⟩ := bsome h
   refine E_join (fun e w => ∃ (g : Gh) , Fr gI wI g w ∧ e 2 = p2 ∧ OB 2002 g w 100 (jB : PayEntry) p2 ∧ e 4 = p6 ∧ OB 2004 g w 132 (y5.1 : PaySheet) p6 ∧ e 5 = j6 ∧ RV g.m w (o0.1 : List Int) j6 ∧ e 6 = x6 ∧ RV g.m w (o0.2.1 : List Int) x6 ∧ e 7 = .int .i64 (o0.2.2.1) ∧ e 8 = .int .i64 (o0.2.2.2) ∧ e 9 = .int .i64 (l5.1) ∧ e 10 = .int .i64 (l5.2) ∧ e 11 = .int .i64 (u3.1) ∧ e 12 = .int .i64 (u3.2) ∧ e 13 = .bool (true) ∧ e 40 = .bool (oD)) (fun Q' hQ => ?_) (fun kO bQ hR => ?_)
   ·replace h := hx
    clear hx
    refine E_region (EL_mw (.int .i64 (l5.2)) rfl rfl ?_)
    refine EL_in (.bool ((l5.2 == (0 : Int)))) rfl rfl rfl rfl ?_
    refine EL_mw (.bool ((l5.2 == (0 : Int)))) rfl rfl ?_
    rcases csome h with ⟨iE, h⟩ | ⟨iE, h⟩
    ·refine EL_y (.int .i64 (u3.2)) (P_move rfl) rfl rfl iE rfl ?_
     refine EL_y (.bool ((u3.2 == (0 : Int)))) (P_int rfl rfl rfl) rfl rfl iE rfl ?_
     refine EL_p (.bool ((u3.2 == (0 : Int)))) (P_pick (b := (l5.2 == (0 : Int))) rfl (pick_t iE rfl)) rfl ?_
     refine EL_mw (.bool ((u3.2 == (0 : Int)))) rfl rfl ?_
     rcases csome h with ⟨jE, h⟩ | ⟨jE, h⟩
     ·refine EL_y (.int .i64 (o0.2.2.1)) (P_move rfl) rfl rfl jE rfl ?_
      refine EL_y (.bool ((o0.2.2.1 == (0 : Int)))) (P_int rfl rfl rfl) rfl rfl jE rfl ?_
      refine EL_p (.bool ((o0.2.2.1 == (0 : Int)))) (P_pick (b := (u3.2 == (0 : Int))) rfl (pick_t jE rfl)) rfl ?_
      refine EL_mw (.bool ((o0.2.2.1 == (0 : Int)))) rfl rfl ?_
      rcases csome h with ⟨kE, h⟩ | ⟨kE, h⟩
      ·refine EL_y (.int .i64 (o0.2.2.2)) (P_move rfl) rfl rfl kE rfl ?_
       refine EL_y (.bool ((o0.2.2.2 == (0 : Int)))) (P_int rfl rfl rfl) rfl rfl kE rfl ?_
       refine EL_p (.bool ((o0.2.2.2 == (0 : Int)))) (P_pick (b := (o0.2.2.1 == (0 : Int))) rfl (pick_t kE rfl)) rfl ?_
       refine EL_at (.bool ((o0.2.2.2 == (0 : Int)))) rfl rfl ?_
       refine EL_nil ?_
       obtain rfl := sinj h
       exact hQ _ _ ⟨bI, hfr, cG, bA, eF, a9, rfl, tB, rfl, vB, rfl, rfl, rfl, rfl, rfl, rfl, rfl, rfl⟩
      ·refine EL_s rfl rfl kE rfl rfl ?_
       refine EL_s rfl rfl kE rfl rfl ?_
       refine EL_p (.bool false) (P_pick (b := (o0.2.2.1 == (0 : Int))) rfl (pick_f kE rfl)) rfl ?_
       refine EL_at (.bool false) rfl rfl ?_
       refine EL_nil ?_
       obtain rfl := sinj h
       exact hQ _ _ ⟨bI, hfr, cG, bA, eF, a9, rfl, tB, rfl, vB, rfl, rfl, rfl, rfl, rfl, rfl, rfl, rfl⟩
     ·refine EL_s rfl rfl jE rfl rfl ?_
      refine EL_s rfl rfl jE rfl rfl ?_
      refine EL_p (.bool false) (P_pick (b := (u3.2 == (0 : Int))) rfl (pick_f jE rfl)) rfl ?_
      refine EL_dead 4 rfl ?_
      refine EL_at (.bool false) rfl rfl ?_
      refine EL_nil ?_
      obtain rfl := sinj h
      exact hQ _ _ ⟨bI, hfr, cG, bA, eF, a9, rfl, tB, rfl, vB, rfl, rfl, rfl, rfl, rfl, rfl, rfl, rfl⟩
    ·refine EL_s rfl rfl iE rfl rfl ?_
     refine EL_s rfl rfl iE rfl rfl ?_
     refine EL_p (.bool false) (P_pick (b := (l5.2 == (0 : Int))) rfl (pick_f iE rfl)) rfl ?_
     refine EL_dead 8 rfl ?_
     refine EL_at (.bool false) rfl rfl ?_
     refine EL_nil ?_
     obtain rfl := sinj h
     exact hQ _ _ ⟨bI, hfr, cG, bA, eF, a9, rfl, tB, rfl, vB, rfl, rfl, rfl, rfl, rfl, rfl, rfl, rfl⟩
   ·clear hx
    obtain ⟨yE, hfr, dB, t5, oE, y6, sD, x5, tD, i6, iB, uC, uD, g8, yB, k8, vD, tG⟩ := hR
    rcases csome h with ⟨aH, h⟩ | ⟨aH, h⟩
    ·refine E_cond_true (Eq.trans (show ev _ _ = .bool (oD) from tG) (congrArg Value.bool aH)) ?_
     refine E_seq (E_region (EL_do .plain rfl (D_loadO (g := yE) Tryz.isAgg100 Tryz.sizeOf100 dB t5 fun zM bN => ?_)))
     refine EL_do .plain rfl (D_storeOc (g := yE) (v := zM) Tryz.sizeOf100 dB t5 rfl bN fun cQ dQ hs b624 cb => ?_)
     clear cb
     have hfr := hfr.stp hs
     refine EL_at (.int .i64 (0)) rfl rfl ?_
     refine EL_nil (thn_n (E_ret (blk_r ?_)))
     refine thn_r ?_
     obtain rfl := sinj h
     obtain ⟨ad625, cv625, hp625, pK, cr625⟩ := ob_read Tryz.isAgg100 Tryz.sizeOf100 b624
     exact endm_ct rfl rfl ((show _ = p2 from dB).trans hp625) pK (show _ = .int .i64 (0) from rfl) ⟨_, hfr, _, _, rfl, cr625, rfl⟩
    ·refine E_cond_false (Eq.trans (show ev _ _ = .bool (oD) from tG) (congrArg Value.bool aH)) ?_
     obtain ⟨rC, hx, h⟩ := bsome h
     refine E_join (fun e w => ∃ (g : Gh) , Fr gI wI g w ∧ e 2 = p2 ∧ OB 2002 g w 100 (jB : PayEntry) p2 ∧ e 4 = p6 ∧ OB 2004 g w 132 (y5.1 : PaySheet) p6 ∧ e 5 = j6 ∧ RV g.m w (o0.1 : List Int) j6 ∧ e 6 = x6 ∧ RV g.m w (o0.2.1 : List Int) x6 ∧ e 7 = .int .i64 (o0.2.2.1) ∧ e 8 = .int .i64 (o0.2.2.2) ∧ e 9 = .int .i64 (l5.1) ∧ e 10 = .int .i64 (l5.2) ∧ e 11 = .int .i64 (u3.1) ∧ e 12 = .int .i64 (u3.2) ∧ e 13 = .bool (true) ∧ e 56 = .bool (rC)) (fun Q' hQ => ?_) (fun tN qK hR => ?_)
     ·replace h := hx
      clear hx
      rcases csome h with ⟨d7, h⟩ | ⟨d7, h⟩
      ·rcases csome h with ⟨l8, h⟩ | ⟨l8, h⟩
       ·rcases csome h with ⟨iA, h⟩ | ⟨iA, h⟩
        ·rcases csome h with ⟨m8, h⟩ | ⟨m8, h⟩
         ·obtain ⟨qF, dI, h⟩ := bsome h
          have cN := PT_idx x5 dI
          refine L_load (x := .tmp 74) Tryz.isAgg3 Tryz.sizeOf3 cN fun eQ dN sK => ?_
          obtain rfl := RV_int.1 dN
          obtain ⟨rF, iI, h⟩ := bsome h
          have eN := PT_idx i6 iI
          refine L_load (x := .tmp 78) Tryz.isAgg3 Tryz.sizeOf3 eN fun gQ gN tK => ?_
          obtain rfl := RV_int.1 gN
          refine E_drawL (g := yE) (n := 26) [] [0, 1, 2, 3, 4, 5, 6, 7, 8, 9, 10, 11, 12, 13, 14, 15, 16, 17, 18, 19, 20, 21, 22, 23, 24, 25] rfl mixed (by kernel_rfl) trivial ?_
          refine L_p (.int .i64 (l5.2)) rfl rfl (P_move g8) ?_
          refine L_p (.bool ((l5.2 == (1 : Int)))) rfl rfl (P_int rfl rfl rfl) ?_
          refine L_p (.bool ((l5.2 == (1 : Int)))) rfl rfl (P_move rfl) ?_
          refine L_y (.int .i64 (u3.2)) rfl rfl rfl rfl d7 (P_move k8) ?_
          refine L_y (.bool ((u3.2 == (1 : Int)))) rfl rfl rfl rfl d7 (P_int rfl rfl rfl) ?_
          refine L_p (.bool ((u3.2 == (1 : Int)))) rfl rfl (P_pick (b := (l5.2 == (1 : Int))) rfl (pick_t d7 rfl)) ?_
          refine L_p (.bool ((u3.2 == (1 : Int)))) rfl rfl (P_move rfl) ?_
          refine L_y (.int .i64 (o0.2.2.1)) rfl rfl rfl rfl l8 (P_move iB) ?_
          refine L_y (.bool ((o0.2.2.1 == (0 : Int)))) rfl rfl rfl rfl l8 (P_int rfl rfl rfl) ?_
          refine L_p (.bool ((o0.2.2.1 == (0 : Int)))) rfl rfl (P_pick (b := (u3.2 == (1 : Int))) rfl (pick_t l8 rfl)) ?_
          refine L_p (.bool ((o0.2.2.1 == (0 : Int)))) rfl rfl (P_move rfl) ?_
          refine L_y (.int .i64 (o0.2.2.2)) rfl rfl rfl rfl iA (P_move uC) ?_
          refine L_y (.bool ((o0.2.2.2 == (0 : Int)))) rfl rfl rfl rfl iA (P_int rfl rfl rfl) ?_
          refine L_p (.bool ((o0.2.2.2 == (0 : Int)))) rfl rfl (P_pick (b := (o0.2.2.1 == (0 : Int))) rfl (pick_t iA rfl)) ?_
          refine L_p (.bool ((o0.2.2.2 == (0 : Int)))) rfl rfl (P_move rfl) ?_
          refine L_y j6 rfl rfl rfl rfl m8 (P_move sD) ?_
          refine L_y (.int .i64 (l5.1)) rfl rfl rfl rfl m8 (P_move uD) ?_
          refine L_y (ePtr j6 l5.1 1) rfl rfl rfl rfl m8 (P_indexAddr (α := Int) Tryz.underlying23 Tryz.sizeOf3 rfl x5 rfl dI) ?_
          refine L_ld (c := .int .i64 (qF)) rfl rfl (.yes2 rfl rfl m8) (fun _ _ h => h.ch) sK rfl ?_
          refine L_y x6 rfl rfl rfl rfl m8 (P_move tD) ?_
          refine L_y (.int .i64 (u3.1)) rfl rfl rfl rfl m8 (P_move yB) ?_
          refine L_y (ePtr x6 u3.1 1) rfl rfl rfl rfl m8 (P_indexAddr (α := Int) Tryz.underlying23 Tryz.sizeOf3 rfl i6 rfl iI) ?_
          refine L_ld (c := .int .i64 (rF)) rfl rfl (.yes2 rfl rfl m8) (fun _ _ h => h.ch) tK rfl ?_
          refine L_y (.bool ((qF == rF))) rfl rfl rfl rfl m8 (P_int rfl rfl rfl) ?_
          refine L_p (.bool ((qF == rF))) rfl rfl (P_pick (b := (o0.2.2.2 == (0 : Int))) rfl (pick_t m8 rfl)) ?_
          refine L_p (.bool ((qF == rF))) rfl rfl (P_assign rfl) ?_
          refine L_nl fun iN iQ hs => ?_
          have hfr := hfr.ext hs
          have t5 := t5.ext hs
          have y6 := y6.ext hs
          have x5 := x5.ext hs
          have i6 := i6.ext hs
          clear hs
          refine EL_nil ?_
          obtain rfl := sinj h
          exact hQ _ _ ⟨iN, hfr, dB, t5, oE, y6, sD, x5, tD, i6, iB, uC, uD, g8, yB, k8, vD, rfl⟩
         ·refine E_drawL (g := yE) (n := 26) [] [0, 1, 2, 3, 4, 5, 6, 7, 8, 9, 10, 11, 12, 13, 14, 15, 16, 17, 18, 19, 20, 21, 22, 23, 24, 25] rfl mixed (by kernel_rfl) trivial ?_
          refine L_p (.int .i64 (l5.2)) rfl rfl (P_move g8) ?_
          refine L_p (.bool ((l5.2 == (1 : Int)))) rfl rfl (P_int rfl rfl rfl) ?_
          refine L_p (.bool ((l5.2 == (1 : Int)))) rfl rfl (P_move rfl) ?_
          refine L_y (.int .i64 (u3.2)) rfl rfl rfl rfl d7 (P_move k8) ?_
          refine L_y (.bool ((u3.2 == (1 : Int)))) rfl rfl rfl rfl d7 (P_int rfl rfl rfl) ?_
          refine L_p (.bool ((u3.2 == (1 : Int)))) rfl rfl (P_pick (b := (l5.2 == (1 : Int))) rfl (pick_t d7 rfl)) ?_
          refine L_p (.bool ((u3.2 == (1 : Int)))) rfl rfl (P_move rfl) ?_
          refine L_y (.int .i64 (o0.2.2.1)) rfl rfl rfl rfl l8 (P_move iB) ?_
          refine L_y (.bool ((o0.2.2.1 == (0 : Int)))) rfl rfl rfl rfl l8 (P_int rfl rfl rfl) ?_
          refine L_p (.bool ((o0.2.2.1 == (0 : Int)))) rfl rfl (P_pick (b := (u3.2 == (1 : Int))) rfl (pick_t l8 rfl)) ?_
          refine L_p (.bool ((o0.2.2.1 == (0 : Int)))) rfl rfl (P_move rfl) ?_
          refine L_y (.int .i64 (o0.2.2.2)) rfl rfl rfl rfl iA (P_move uC) ?_
          refine L_y (.bool ((o0.2.2.2 == (0 : Int)))) rfl rfl rfl rfl iA (P_int rfl rfl rfl) ?_
          refine L_p (.bool ((o0.2.2.2 == (0 : Int)))) rfl rfl (P_pick (b := (o0.2.2.1 == (0 : Int))) rfl (pick_t iA rfl)) ?_
          refine L_p (.bool ((o0.2.2.2 == (0 : Int)))) rfl rfl (P_move rfl) ?_
          iterate 9 refine L_s rfl rfl rfl m8 rfl ?_
          refine L_p (.bool false) rfl rfl (P_pick (b := (o0.2.2.2 == (0 : Int))) rfl (pick_f m8 rfl)) ?_
          refine L_p (.bool false) rfl rfl (P_assign rfl) ?_
          refine L_nl fun jN jQ hs => ?_
          have hfr := hfr.ext hs
          have t5 := t5.ext hs
          have y6 := y6.ext hs
          have x5 := x5.ext hs
          have i6 := i6.ext hs
          clear hs
          refine EL_nil ?_
          obtain rfl := sinj h
          exact hQ _ _ ⟨jN, hfr, dB, t5, oE, y6, sD, x5, tD, i6, iB, uC, uD, g8, yB, k8, vD, rfl⟩
        ·refine E_drawL (g := yE) (n := 26) [] [0, 1, 2, 3, 4, 5, 6, 7, 8, 9, 10, 11, 12, 13, 14, 15, 16, 17, 18, 19, 20, 21, 22, 23, 24, 25] rfl mixed (by kernel_rfl) trivial ?_
         refine L_p (.int .i64 (l5.2)) rfl rfl (P_move g8) ?_
         refine L_p (.bool ((l5.2 == (1 : Int)))) rfl rfl (P_int rfl rfl rfl) ?_
         refine L_p (.bool ((l5.2 == (1 : Int)))) rfl rfl (P_move rfl) ?_
         refine L_y (.int .i64 (u3.2)) rfl rfl rfl rfl d7 (P_move k8) ?_
         refine L_y (.bool ((u3.2 == (1 : Int)))) rfl rfl rfl rfl d7 (P_int rfl rfl rfl) ?_
         refine L_p (.bool ((u3.2 == (1 : Int)))) rfl rfl (P_pick (b := (l5.2 == (1 : Int))) rfl (pick_t d7 rfl)) ?_
         refine L_p (.bool ((u3.2 == (1 : Int)))) rfl rfl (P_move rfl) ?_
         refine L_y (.int .i64 (o0.2.2.1)) rfl rfl rfl rfl l8 (P_move iB) ?_
         refine L_y (.bool ((o0.2.2.1 == (0 : Int)))) rfl rfl rfl rfl l8 (P_int rfl rfl rfl) ?_
         refine L_p (.bool ((o0.2.2.1 == (0 : Int)))) rfl rfl (P_pick (b := (u3.2 == (1 : Int))) rfl (pick_t l8 rfl)) ?_
         refine L_p (.bool ((o0.2.2.1 == (0 : Int)))) rfl rfl (P_move rfl) ?_
         refine L_s rfl rfl rfl iA rfl ?_
         refine L_s rfl rfl rfl iA rfl ?_
         refine L_p (.bool false) rfl rfl (P_pick (b := (o0.2.2.1 == (0 : Int))) rfl (pick_f iA rfl)) ?_
         refine L_dead (fun _ => rfl) 11 rfl ?_
         refine L_p (.bool false) rfl rfl (P_assign rfl) ?_
         refine L_nl fun kN kQ hs => ?_
         have hfr := hfr.ext hs
         have t5 := t5.ext hs
         have y6 := y6.ext hs
         have x5 := x5.ext hs
         have i6 := i6.ext hs
         clear hs
         refine EL_nil ?_
         obtain rfl := sinj h
         exact hQ _ _ ⟨kN, hfr, dB, t5, oE, y6, sD, x5, tD, i6, iB, uC, uD, g8, yB, k8, vD, rfl⟩
       ·refine E_drawL (g := yE) (n := 26) [] [0, 1, 2, 3, 4, 5, 6, 7, 8, 9, 10, 11, 12, 13, 14, 15, 16, 17, 18, 19, 20, 21, 22, 23, 24, 25] rfl mixed (by kernel_rfl) trivial ?_
        refine L_p (.int .i64 (l5.2)) rfl rfl (P_move g8) ?_
        refine L_p (.bool ((l5.2 == (1 : Int)))) rfl rfl (P_int rfl rfl rfl) ?_
        refine L_p (.bool ((l5.2 == (1 : Int)))) rfl rfl (P_move rfl) ?_
        refine L_y (.int .i64 (u3.2)) rfl rfl rfl rfl d7 (P_move k8) ?_
        refine L_y (.bool ((u3.2 == (1 : Int)))) rfl rfl rfl rfl d7 (P_int rfl rfl rfl) ?_
        refine L_p (.bool ((u3.2 == (1 : Int)))) rfl rfl (P_pick (b := (l5.2 == (1 : Int))) rfl (pick_t d7 rfl)) ?_
        refine L_p (.bool ((u3.2 == (1 : Int)))) rfl rfl (P_move rfl) ?_
        refine L_s rfl rfl rfl l8 rfl ?_
        refine L_s rfl rfl rfl l8 rfl ?_
        refine L_p (.bool false) rfl rfl (P_pick (b := (u3.2 == (1 : Int))) rfl (pick_f l8 rfl)) ?_
        refine L_dead (fun _ => rfl) 15 rfl ?_
        refine L_p (.bool false) rfl rfl (P_assign rfl) ?_
        refine L_nl fun lN lQ hs => ?_
        have hfr := hfr.ext hs
        have t5 := t5.ext hs
        have y6 := y6.ext hs
        have x5 := x5.ext hs
        have i6 := i6.ext hs
        clear hs
        refine EL_nil ?_
        obtain rfl := sinj h
        exact hQ _ _ ⟨lN, hfr, dB, t5, oE, y6, sD, x5, tD, i6, iB, uC, uD, g8, yB, k8, vD, rfl⟩
      ·refine E_drawL (g := yE) (n := 26) [] [0, 1, 2, 3, 4, 5, 6, 7, 8, 9, 10, 11, 12, 13, 14, 15, 16, 17, 18, 19, 20, 21, 22, 23, 24, 25] rfl mixed (by kernel_rfl) trivial ?_
       refine L_p (.int .i64 (l5.2)) rfl rfl (P_move g8) ?_
       refine L_p (.bool ((l5.2 == (1 : Int)))) rfl rfl (P_int rfl rfl rfl) ?_
       refine L_p (.bool ((l5.2 == (1 : Int)))) rfl rfl (P_move rfl) ?_
       refine L_s rfl rfl rfl d7 rfl ?_
       refine L_s rfl rfl rfl d7 rfl ?_
       refine L_p (.bool false) rfl rfl (P_pick (b := (l5.2 == (1 : Int))) rfl (pick_f d7 rfl)) ?_
       refine L_dead (fun _ => rfl) 19 rfl ?_
       refine L_p (.bool false) rfl rfl (P_assign rfl) ?_
       refine L_nl fun mN mQ hs => ?_
       have hfr := hfr.ext hs
       have t5 := t5.ext hs
       have y6 := y6.ext hs
       have x5 := x5.ext hs
       have i6 := i6.ext hs
       clear hs
       refine EL_nil ?_
       obtain rfl := sinj h
       exact hQ _ _ ⟨mN, hfr, dB, t5, oE, y6, sD, x5, tD, i6, iB, uC, uD, g8, yB, k8, vD, rfl⟩
     ·clear hx
      obtain ⟨lE, hfr, k9, l9, xD, n9, zB, v8, rE, sE, yD, zD, x8, vC, u9, aD, mE, jG⟩ := hR
      rcases csome h with ⟨kG, h⟩ | ⟨kG, h⟩
      ·refine E_cond_true (Eq.trans (show ev _ _ = .bool (rC) from jG) (congrArg Value.bool kG)) ?_
       refine E_seq (L_loadO (x := .tmp 85) (SubS.comp part_PaySheet_0 part_PayTable_0 rfl).1 Tryz.isAgg56 Tryz.sizeOf56 n9 fun jI kI lJ => ?_)
       obtain ⟨aI, dH, h⟩ := bsome h
       have uK := PT_idx kI dH
       refine L_load (x := .tmp 88) Tryz.isAgg23 Tryz.sizeOf23 uK fun lI mI mJ => ?_
       obtain ⟨n8, gH, h⟩ := bsome h
       have vK := PT_idx mI gH
       refine L_load (x := .tmp 91) Tryz.isAgg3 Tryz.sizeOf3 vK fun lO xK nJ => ?_
       obtain rfl := RV_int.1 xK
       obtain ⟨r8, iH, h⟩ := bsome h
       have yK := PT_idx v8 iH
       refine L_load (x := .tmp 95) Tryz.isAgg3 Tryz.sizeOf3 yK fun mO zK oJ => ?_
       obtain rfl := RV_int.1 zK
       have eG : RV lE.m qK (⟨(1 : Int), l5.1, u3.1, (w64 (n8 - r8))⟩ : PayEntry) (.agg (setCh [[.int .i64 0], [.int .i64 0], [.int .i64 0], [.int .i64 0]] [(0, .int .i64 (1)), (1, .int .i64 (l5.1)), (2, .int .i64 (u3.1)), (3, .int .i64 ((w64 (n8 - r8))))]).flatten.toArray) := RV_build rfl (rep_pair (rfl) (rep_pair (rfl) (rep_pair (rfl) (rep_last (rfl)))))
       generalize pJ : (Value.agg (setCh [[.int .i64 0], [.int .i64 0], [.int .i64 0], [.int .i64 0]] [(0, .int .i64 (1)), (1, .int .i64 (l5.1)), (2, .int .i64 (u3.1)), (3, .int .i64 ((w64 (n8 - r8))))]).flatten.toArray) = nI at eG
       refine E_drawL (g := lE) (n := 17) [] [0, 1, 2, 3, 4, 5, 6, 7, 8, 9, 10, 11, 12, 13, 14, 15, 16] rfl mixed (by kernel_rfl) trivial ?_
       refine L_p (.int .i64 (l5.1)) rfl rfl (P_move x8) ?_
       refine L_p (.int .i64 (u3.1)) rfl rfl (P_move u9) ?_
       refine L_p (fPtr p6 0) rfl rfl (P_fieldAddr at_132_0 xD (OB.ptr n9)) ?_
       refine L_p (fPtr p6 0) rfl rfl (P_fieldAddr2 (o1 := 0) rfl at_58_0 rfl (OB.ptr n9)) ?_
       refine L_ld (c := jI) rfl rfl .plain (fun _ _ h => ⟨h.ch, fun b hb _ => h.below.block b hb⟩) lJ rfl ?_
       refine L_p (.int .i64 (l5.1)) rfl rfl (P_move x8) ?_
       refine L_p (ePtr jI l5.1 1) rfl rfl (P_indexAddr (α := List Int) Tryz.underlying56 Tryz.sizeOf23 rfl kI rfl dH) ?_
       refine L_ld (c := lI) rfl rfl .plain (fun _ _ h => h.ch) mJ rfl ?_
       refine L_p (.int .i64 (u3.1)) rfl rfl (P_move u9) ?_
       refine L_p (ePtr lI u3.1 1) rfl rfl (P_indexAddr (α := Int) Tryz.underlying23 Tryz.sizeOf3 rfl mI rfl gH) ?_
       refine L_ld (c := .int .i64 (n8)) rfl rfl .plain (fun _ _ h => h.ch) nJ rfl ?_
       refine L_p j6 rfl rfl (P_move zB) ?_
       refine L_p (.int .i64 (l5.1)) rfl rfl (P_move x8) ?_
       refine L_p (ePtr j6 l5.1 1) rfl rfl (P_indexAddr (α := Int) Tryz.underlying23 Tryz.sizeOf3 rfl v8 rfl iH) ?_
       refine L_ld (c := .int .i64 (r8)) rfl rfl .plain (fun _ _ h => h.ch) oJ rfl ?_
       refine L_p (.int .i64 ((w64 (n8 - r8)))) rfl rfl (P_int rfl rfl rfl) ?_
       refine L_p nI rfl rfl (pJ ▸ P_build (vs := [(0, .int .i64 (1)), (1, .int .i64 (l5.1)), (2, .int .i64 (u3.1)), (3, .int .i64 ((w64 (n8 - r8))))]) [[.int .i64 0], [.int .i64 0], [.int .i64 0], [.int .i64 0]] lay_100 rfl rfl (.cons rfl (.cons rfl (.cons rfl (.cons rfl .nil)))) ⟨⟨_, rfl, rfl⟩, ⟨⟨_, rfl, rfl⟩, ⟨⟨_, rfl, rfl⟩, ⟨⟨_, rfl, rfl⟩, trivial⟩⟩⟩⟩) ?_
       refine L_nl fun aL nO hs => ?_
       have hfr := hfr.ext hs
       have l9 := l9.ext hs
       have eG := eG.ext hs
       clear hs
       refine EL_do .plain rfl (D_storeOc (g := aL) (v := nI) Tryz.sizeOf100 k9 l9 rfl eG fun pI oO hs b1081 cb => ?_)
       clear cb
       have hfr := hfr.stp hs
       refine EL_nil (thn_n (E_region (EL_p (fPtr p2 3) (P_fieldAddr at_100_3 k9 (OB.ptr b1081)) rfl ?_)))
       refine EL_do .plain rfl (D_loadF (g := pI) part_PayEntry_3.1 Tryz.isAgg3 Tryz.sizeOf3 rfl b1081 fun pO bL => ?_)
       obtain rfl := RV_int.1 bL
       refine EL_do .plain rfl (D_buildSlice (g := pI) 3101 (xs := ([(w64 (n8 - r8))] : List Int)) (vs := [.int .i64 ((w64 (n8 - r8)))]) Tryz.underlying23 Tryz.sizeOf3 Tryz.zeroValue3 rfl rfl (.cons rfl .nil) (RVs.cons (RV_int.2 rfl) RVs.nil) rfl rfl fun dL qO eL hs o1084 gL hxt hfl => ?_)
       have hfr := hfr.stp hs
       have b1081 := b1081.stp hs rfl
       obtain ⟨aG, qJ, h⟩ := bsome h
       refine EL_do .plain rfl (D_call (g := dL) (vs := [.int .i64 (0), .int .i64 (1000000), eL]) en54 (.cons rfl (.cons rfl (.cons rfl .nil))) (wk54 gL qJ) fun iL uN rO hs hr => ?_)
       have hfr := hfr.ext hs
       have b1081 := b1081.ext hs
       subst hr
       refine EL_at (.bool (aG)) rfl rfl ?_
       exact EL_nil (blk_n (thn_n (iF ((⟨(1 : Int), l5.1, u3.1, (w64 (n8 - r8))⟩ : PayEntry), aG) _ _ ⟨iL, hfr, k9, b1081, rfl⟩ h)))
      ·refine E_cond_false (Eq.trans (show ev _ _ = .bool (rC) from jG) (congrArg Value.bool kG)) ?_
       obtain ⟨rA, hx, h⟩ := bsome h
       refine E_join (fun e w => ∃ (g : Gh) , Fr gI wI g w ∧ e 2 = p2 ∧ OB 2002 g w 100 (jB : PayEntry) p2 ∧ e 4 = p6 ∧ OB 2004 g w 132 (y5.1 : PaySheet) p6 ∧ e 5 = j6 ∧ RV g.m w (o0.1 : List Int) j6 ∧ e 6 = x6 ∧ RV g.m w (o0.2.1 : List Int) x6 ∧ e 7 = .int .i64 (o0.2.2.1) ∧ e 8 = .int .i64 (o0.2.2.2) ∧ e 9 = .int .i64 (l5.1) ∧ e 10 = .int .i64 (l5.2) ∧ e 11 = .int .i64 (u3.1) ∧ e 12 = .int .i64 (u3.2) ∧ e 13 = .bool (true) ∧ e 103 = .bool (rA)) (fun Q' hQ => ?_) (fun vN jL hR => ?_)
       ·replace h := hx
        clear hx
        refine E_region (EL_mv vC rfl ?_)
        refine EL_in (.bool ((l5.2 == (1 : Int)))) rfl rfl rfl rfl ?_
        refine EL_mw (.bool ((l5.2 == (1 : Int)))) rfl rfl ?_
        rcases csome h with ⟨bD, h⟩ | ⟨bD, h⟩
        ·refine EL_y (.int .i64 (u3.2)) (P_move aD) rfl rfl bD rfl ?_
         refine EL_y (.bool ((u3.2 == (0 : Int)))) (P_int rfl rfl rfl) rfl rfl bD rfl ?_
         refine EL_p (.bool ((u3.2 == (0 : Int)))) (P_pick (b := (l5.2 == (1 : Int))) rfl (pick_t bD rfl)) rfl ?_
         refine EL_mw (.bool ((u3.2 == (0 : Int)))) rfl rfl ?_
         rcases csome h with ⟨cD, h⟩ | ⟨cD, h⟩
         ·refine EL_y (.int .i64 (o0.2.2.2)) (P_move zD) rfl rfl cD rfl ?_
          refine EL_y (.bool ((o0.2.2.2 == (0 : Int)))) (P_int rfl rfl rfl) rfl rfl cD rfl ?_
          refine EL_p (.bool ((o0.2.2.2 == (0 : Int)))) (P_pick (b := (u3.2 == (0 : Int))) rfl (pick_t cD rfl)) rfl ?_
          refine EL_mw (.bool ((o0.2.2.2 == (0 : Int)))) rfl rfl ?_
          rcases csome h with ⟨i7, h⟩ | ⟨i7, h⟩
          ·refine EL_y j6 (P_move zB) rfl rfl i7 rfl ?_
           refine EL_y (.int .i64 (l5.1)) (P_move x8) rfl rfl i7 rfl ?_
           obtain ⟨cF, jH, h⟩ := bsome h
           refine EL_y (ePtr j6 l5.1 1) (P_indexAddr (α := Int) Tryz.underlying23 Tryz.sizeOf3 rfl v8 rfl jH) rfl rfl i7 rfl ?_
           have lL := PT_idx v8 jH
           refine EL_do (.yes2 rfl rfl i7) rfl (D_load (g := lE) Tryz.isAgg3 Tryz.sizeOf3 rfl lL fun sO mL => ?_)
           obtain rfl := RV_int.1 mL
           refine EL_y (.int .i64 (o0.2.2.1)) (P_move yD) rfl rfl i7 rfl ?_
           refine EL_y (.int .i64 (w64 (0 - o0.2.2.1))) (P_neg rfl) rfl rfl i7 rfl ?_
           refine EL_y (.bool ((cF == (w64 (0 - o0.2.2.1))))) (P_int rfl rfl rfl) rfl rfl i7 rfl ?_
           refine EL_p (.bool ((cF == (w64 (0 - o0.2.2.1))))) (P_pick (b := (o0.2.2.2 == (0 : Int))) rfl (pick_t i7 rfl)) rfl ?_
           refine EL_at (.bool ((cF == (w64 (0 - o0.2.2.1))))) rfl rfl ?_
           refine EL_nil ?_
           obtain rfl := sinj h
           exact hQ _ _ ⟨lE, hfr, k9, l9, xD, n9, zB, v8, rE, sE, yD, zD, x8, vC, u9, aD, mE, rfl⟩
          ·refine EL_s rfl rfl i7 rfl rfl ?_
           iterate 6 refine EL_s rfl rfl i7 rfl rfl ?_
           refine EL_p (.bool false) (P_pick (b := (o0.2.2.2 == (0 : Int))) rfl (pick_f i7 rfl)) rfl ?_
           refine EL_at (.bool false) rfl rfl ?_
           refine EL_nil ?_
           obtain rfl := sinj h
           exact hQ _ _ ⟨lE, hfr, k9, l9, xD, n9, zB, v8, rE, sE, yD, zD, x8, vC, u9, aD, mE, rfl⟩
         ·refine EL_s rfl rfl cD rfl rfl ?_
          refine EL_s rfl rfl cD rfl rfl ?_
          refine EL_p (.bool false) (P_pick (b := (u3.2 == (0 : Int))) rfl (pick_f cD rfl)) rfl ?_
          refine EL_dead 9 rfl ?_
          refine EL_at (.bool false) rfl rfl ?_
          refine EL_nil ?_
          obtain rfl := sinj h
          exact hQ _ _ ⟨lE, hfr, k9, l9, xD, n9, zB, v8, rE, sE, yD, zD, x8, vC, u9, aD, mE, rfl⟩
        ·refine EL_s rfl rfl bD rfl rfl ?_
         refine EL_s rfl rfl bD rfl rfl ?_
         refine EL_p (.bool false) (P_pick (b := (l5.2 == (1 : Int))) rfl (pick_f bD rfl)) rfl ?_
         refine EL_dead 13 rfl ?_
         refine EL_at (.bool false) rfl rfl ?_
         refine EL_nil ?_
         obtain rfl := sinj h
         exact hQ _ _ ⟨lE, hfr, k9, l9, xD, n9, zB, v8, rE, sE, yD, zD, x8, vC, u9, aD, mE, rfl⟩
       ·clear hx
        obtain ⟨nE, hfr, cC, y9, aE, z9, eJ, uG, bE, eC, cE, dE, sF, eD, gD, iD, jD, xF⟩ := hR
        rcases csome h with ⟨lG, h⟩ | ⟨lG, h⟩
        ·refine E_cond_true (Eq.trans (show ev _ _ = .bool (rA) from xF) (congrArg Value.bool lG)) ?_
         refine L_loadO (x := .tmp 125) (SubS.comp part_PaySheet_0 part_PayTable_1 rfl).1 Tryz.isAgg23 Tryz.sizeOf23 z9 fun qI sI rJ => ?_
         obtain ⟨lB, kH, h⟩ := bsome h
         have nL := PT_idx sI kH
         refine L_load (x := .tmp 128) Tryz.isAgg3 Tryz.sizeOf3 nL fun tO oL sJ => ?_
         obtain rfl := RV_int.1 oL
         obtain ⟨mB, lH, h⟩ := bsome h
         have pL := PT_idx uG lH
         refine L_load (x := .tmp 132) Tryz.isAgg3 Tryz.sizeOf3 pL fun uO qL vJ => ?_
         obtain rfl := RV_int.1 qL
         have gG : RV nE.m jL (⟨(2 : Int), l5.1, 0, (w64 (lB + mB))⟩ : PayEntry) (.agg (setCh [[.int .i64 0], [.int .i64 0], [.int .i64 0], [.int .i64 0]] [(0, .int .i64 (2)), (1, .int .i64 (l5.1)), (3, .int .i64 ((w64 (lB + mB))))]).flatten.toArray) := RV_build rfl (rep_pair (rfl) (rep_pair (rfl) (rep_pair (rep_int) (rep_last (rfl)))))
         generalize xJ : (Value.agg (setCh [[.int .i64 0], [.int .i64 0], [.int .i64 0], [.int .i64 0]] [(0, .int .i64 (2)), (1, .int .i64 (l5.1)), (3, .int .i64 ((w64 (lB + mB))))]).flatten.toArray) = tI at gG
         refine E_drawL (g := nE) (n := 13) [] [0, 1, 2, 3, 4, 5, 6, 7, 8, 9, 10, 11, 12] rfl mixed (by kernel_rfl) trivial ?_
         refine L_p (.int .i64 (l5.1)) rfl rfl (P_move sF) ?_
         refine L_p (fPtr p6 0) rfl rfl (P_fieldAddr at_132_0 aE (OB.ptr z9)) ?_
         refine L_p (fPtr p6 1) rfl rfl (P_fieldAddr2 (o1 := 0) rfl at_58_1 rfl (OB.ptr z9)) ?_
         refine L_ld (c := qI) rfl rfl .plain (fun _ _ h => ⟨h.ch, fun b hb _ => h.below.block b hb⟩) rJ rfl ?_
         refine L_p (.int .i64 (l5.1)) rfl rfl (P_move sF) ?_
         refine L_p (ePtr qI l5.1 1) rfl rfl (P_indexAddr (α := Int) Tryz.underlying23 Tryz.sizeOf3 rfl sI rfl kH) ?_
         refine L_ld (c := .int .i64 (lB)) rfl rfl .plain (fun _ _ h => h.ch) sJ rfl ?_
         refine L_p j6 rfl rfl (P_move eJ) ?_
         refine L_p (.int .i64 (l5.1)) rfl rfl (P_move sF) ?_
         refine L_p (ePtr j6 l5.1 1) rfl rfl (P_indexAddr (α := Int) Tryz.underlying23 Tryz.sizeOf3 rfl uG rfl lH) ?_
         refine L_ld (c := .int .i64 (mB)) rfl rfl .plain (fun _ _ h => h.ch) vJ rfl ?_
         refine L_p (.int .i64 ((w64 (lB + mB)))) rfl rfl (P_int rfl rfl rfl) ?_
         refine L_p tI rfl rfl (xJ ▸ P_build (vs := [(0, .int .i64 (2)), (1, .int .i64 (l5.1)), (3, .int .i64 ((w64 (lB + mB))))]) [[.int .i64 0], [.int .i64 0], [.int .i64 0], [.int .i64 0]] lay_100 rfl rfl (.cons rfl (.cons rfl (.cons rfl .nil))) ⟨⟨_, rfl, rfl⟩, ⟨⟨_, rfl, rfl⟩, ⟨⟨_, rfl, rfl⟩, trivial⟩⟩⟩) ?_
         refine L_nl fun rL vO hs => ?_
         have hfr := hfr.ext hs
         have y9 := y9.ext hs
         have gG := gG.ext hs
         clear hs
         refine EL_do .plain rfl (D_storeOc (g := rL) (v := tI) Tryz.sizeOf100 cC y9 rfl gG fun tL xO hs b1137 cb => ?_)
         clear cb
         have hfr := hfr.stp hs
         exact EL_nil (blk_n (thn_n (iF ((⟨(2 : Int), l5.1, 0, (w64 (lB + mB))⟩ : PayEntry), true) _ _ ⟨tL, hfr, cC, b1137, jD⟩ h)))
        ·refine E_cond_false (Eq.trans (show ev _ _ = .bool (rA) from xF) (congrArg Value.bool lG)) ?_
         obtain ⟨yA, hx, h⟩ := bsome h
         refine E_join (fun e w => ∃ (g : Gh) , Fr gI wI g w ∧ e 2 = p2 ∧ OB 2002 g w 100 (jB : PayEntry) p2 ∧ e 4 = p6 ∧ OB 2004 g w 132 (y5.1 : PaySheet) p6 ∧ e 6 = x6 ∧ RV g.m w (o0.2.1 : List Int) x6 ∧ e 7 = .int .i64 (o0.2.2.1) ∧ e 8 = .int .i64 (o0.2.2.2) ∧ e 10 = .int .i64 (l5.2) ∧ e 11 = .int .i64 (u3.1) ∧ e 12 = .int .i64 (u3.2) ∧ e 13 = .bool (true) ∧ e 136 = .bool (yA)) (fun Q' hQ => ?_) (fun xN uL hR => ?_)
         ·replace h := hx
          clear hx
          refine E_region (EL_mv eD rfl ?_)
          refine EL_in (.bool ((l5.2 == (0 : Int)))) rfl rfl rfl rfl ?_
          refine EL_mw (.bool ((l5.2 == (0 : Int)))) rfl rfl ?_
          rcases csome h with ⟨lD, h⟩ | ⟨lD, h⟩
          ·refine EL_y (.int .i64 (u3.2)) (P_move iD) rfl rfl lD rfl ?_
           refine EL_y (.bool ((u3.2 == (1 : Int)))) (P_int rfl rfl rfl) rfl rfl lD rfl ?_
           refine EL_p (.bool ((u3.2 == (1 : Int)))) (P_pick (b := (l5.2 == (0 : Int))) rfl (pick_t lD rfl)) rfl ?_
           refine EL_mw (.bool ((u3.2 == (1 : Int)))) rfl rfl ?_
           rcases csome h with ⟨mD, h⟩ | ⟨mD, h⟩
           ·refine EL_y (.int .i64 (o0.2.2.1)) (P_move cE) rfl rfl mD rfl ?_
            refine EL_y (.bool ((o0.2.2.1 == (0 : Int)))) (P_int rfl rfl rfl) rfl rfl mD rfl ?_
            refine EL_p (.bool ((o0.2.2.1 == (0 : Int)))) (P_pick (b := (u3.2 == (1 : Int))) rfl (pick_t mD rfl)) rfl ?_
            refine EL_mw (.bool ((o0.2.2.1 == (0 : Int)))) rfl rfl ?_
            rcases csome h with ⟨m7, h⟩ | ⟨m7, h⟩
            ·refine EL_y x6 (P_move bE) rfl rfl m7 rfl ?_
             refine EL_y (.int .i64 (u3.1)) (P_move gD) rfl rfl m7 rfl ?_
             obtain ⟨dF, mH, h⟩ := bsome h
             refine EL_y (ePtr x6 u3.1 1) (P_indexAddr (α := Int) Tryz.underlying23 Tryz.sizeOf3 rfl eC rfl mH) rfl rfl m7 rfl ?_
             have vL := PT_idx eC mH
             refine EL_do (.yes2 rfl rfl m7) rfl (D_load (g := nE) Tryz.isAgg3 Tryz.sizeOf3 rfl vL fun yO xL => ?_)
             obtain rfl := RV_int.1 xL
             refine EL_y (.int .i64 (o0.2.2.2)) (P_move dE) rfl rfl m7 rfl ?_
             refine EL_y (.int .i64 (w64 (0 - o0.2.2.2))) (P_neg rfl) rfl rfl m7 rfl ?_
             refine EL_y (.bool ((dF == (w64 (0 - o0.2.2.2))))) (P_int rfl rfl rfl) rfl rfl m7 rfl ?_
             refine EL_p (.bool ((dF == (w64 (0 - o0.2.2.2))))) (P_pick (b := (o0.2.2.1 == (0 : Int))) rfl (pick_t m7 rfl)) rfl ?_
             refine EL_at (.bool ((dF == (w64 (0 - o0.2.2.2))))) rfl rfl ?_
             refine EL_nil ?_
             obtain rfl := sinj h
             exact hQ _ _ ⟨nE, hfr, cC, y9, aE, z9, bE, eC, cE, dE, eD, gD, iD, jD, rfl⟩
            ·refine EL_s rfl rfl m7 rfl rfl ?_
             iterate 6 refine EL_s rfl rfl m7 rfl rfl ?_
             refine EL_p (.bool false) (P_pick (b := (o0.2.2.1 == (0 : Int))) rfl (pick_f m7 rfl)) rfl ?_
             refine EL_at (.bool false) rfl rfl ?_
             refine EL_nil ?_
             obtain rfl := sinj h
             exact hQ _ _ ⟨nE, hfr, cC, y9, aE, z9, bE, eC, cE, dE, eD, gD, iD, jD, rfl⟩
           ·refine EL_s rfl rfl mD rfl rfl ?_
            refine EL_s rfl rfl mD rfl rfl ?_
            refine EL_p (.bool false) (P_pick (b := (u3.2 == (1 : Int))) rfl (pick_f mD rfl)) rfl ?_
            refine EL_dead 9 rfl ?_
            refine EL_at (.bool false) rfl rfl ?_
            refine EL_nil ?_
            obtain rfl := sinj h
            exact hQ _ _ ⟨nE, hfr, cC, y9, aE, z9, bE, eC, cE, dE, eD, gD, iD, jD, rfl⟩
          ·refine EL_s rfl rfl lD rfl rfl ?_
           refine EL_s rfl rfl lD rfl rfl ?_
           refine EL_p (.bool false) (P_pick (b := (l5.2 == (0 : Int))) rfl (pick_f lD rfl)) rfl ?_
           refine EL_dead 13 rfl ?_
           refine EL_at (.bool false) rfl rfl ?_
           refine EL_nil ?_
           obtain rfl := sinj h
           exact hQ _ _ ⟨nE, hfr, cC, y9, aE, z9, bE, eC, cE, dE, eD, gD, iD, jD, rfl⟩
         ·clear hx
          obtain ⟨nF, hfr, eE, mC, tE, qC, gJ, vG, uE, iJ, tH, zE, uH, xH, yF⟩ := hR
          rcases csome h with ⟨mG, h⟩ | ⟨mG, h⟩
          ·refine E_cond_true (Eq.trans (show ev _ _ = .bool (yA) from yF) (congrArg Value.bool mG)) ?_
           refine L_loadO (x := .tmp 158) (SubS.comp part_PaySheet_0 part_PayTable_2 rfl).1 Tryz.isAgg23 Tryz.sizeOf23 qC fun uI vI yJ => ?_
           obtain ⟨nB, nH, h⟩ := bsome h
           have yL := PT_idx vI nH
           refine L_load (x := .tmp 161) Tryz.isAgg3 Tryz.sizeOf3 yL fun zO zL zJ => ?_
           obtain rfl := RV_int.1 zL
           obtain ⟨oB, oH, h⟩ := bsome h
           have aM := PT_idx vG oH
           refine L_load (x := .tmp 165) Tryz.isAgg3 Tryz.sizeOf3 aM fun aP bM aK => ?_
           obtain rfl := RV_int.1 bM
           have hG : RV nF.m uL (⟨(3 : Int), 0, u3.1, (w64 (nB + oB))⟩ : PayEntry) (.agg (setCh [[.int .i64 0], [.int .i64 0], [.int .i64 0], [.int .i64 0]] [(0, .int .i64 (3)), (2, .int .i64 (u3.1)), (3, .int .i64 ((w64 (nB + oB))))]).flatten.toArray) := RV_build rfl (rep_pair (rfl) (rep_pair (rep_int) (rep_pair (rfl) (rep_last (rfl)))))
           generalize bK : (Value.agg (setCh [[.int .i64 0], [.int .i64 0], [.int .i64 0], [.int .i64 0]] [(0, .int .i64 (3)), (2, .int .i64 (u3.1)), (3, .int .i64 ((w64 (nB + oB))))]).flatten.toArray) = xI at hG
           refine E_drawL (g := nF) (n := 13) [] [0, 1, 2, 3, 4, 5, 6, 7, 8, 9, 10, 11, 12] rfl mixed (by kernel_rfl) trivial ?_
           refine L_p (.int .i64 (u3.1)) rfl rfl (P_move zE) ?_
           refine L_p (fPtr p6 0) rfl rfl (P_fieldAddr at_132_0 tE (OB.ptr qC)) ?_
           refine L_p (fPtr p6 2) rfl rfl (P_fieldAddr2 (o1 := 0) rfl at_58_2 rfl (OB.ptr qC)) ?_
           refine L_ld (c := uI) rfl rfl .plain (fun _ _ h => ⟨h.ch, fun b hb _ => h.below.block b hb⟩) yJ rfl ?_
           refine L_p (.int .i64 (u3.1)) rfl rfl (P_move zE) ?_
           refine L_p (ePtr uI u3.1 1) rfl rfl (P_indexAddr (α := Int) Tryz.underlying23 Tryz.sizeOf3 rfl vI rfl nH) ?_
           refine L_ld (c := .int .i64 (nB)) rfl rfl .plain (fun _ _ h => h.ch) zJ rfl ?_
           refine L_p x6 rfl rfl (P_move gJ) ?_
           refine L_p (.int .i64 (u3.1)) rfl rfl (P_move zE) ?_
           refine L_p (ePtr x6 u3.1 1) rfl rfl (P_indexAddr (α := Int) Tryz.underlying23 Tryz.sizeOf3 rfl vG rfl oH) ?_
           refine L_ld (c := .int .i64 (oB)) rfl rfl .plain (fun _ _ h => h.ch) aK rfl ?_
           refine L_p (.int .i64 ((w64 (nB + oB)))) rfl rfl (P_int rfl rfl rfl) ?_
           refine L_p xI rfl rfl (bK ▸ P_build (vs := [(0, .int .i64 (3)), (2, .int .i64 (u3.1)), (3, .int .i64 ((w64 (nB + oB))))]) [[.int .i64 0], [.int .i64 0], [.int .i64 0], [.int .i64 0]] lay_100 rfl rfl (.cons rfl (.cons rfl (.cons rfl .nil))) ⟨⟨_, rfl, rfl⟩, ⟨⟨_, rfl, rfl⟩, ⟨⟨_, rfl, rfl⟩, trivial⟩⟩⟩) ?_
           refine L_nl fun cM bP hs => ?_
           have hfr := hfr.ext hs
           have mC := mC.ext hs
           have hG := hG.ext hs
           clear hs
           refine EL_do .plain rfl (D_storeOc (g := cM) (v := xI) Tryz.sizeOf100 eE mC rfl hG fun dM cP hs b1186 cb => ?_)
           clear cb
           have hfr := hfr.stp hs
           exact EL_nil (blk_n (thn_n (iF ((⟨(3 : Int), 0, u3.1, (w64 (nB + oB))⟩ : PayEntry), true) _ _ ⟨dM, hfr, eE, b1186, xH⟩ h)))
          ·refine E_cond_false (Eq.trans (show ev _ _ = .bool (yA) from yF) (congrArg Value.bool mG)) ?_
           obtain ⟨aB, hx, h⟩ := bsome h
           refine E_join (fun e w => ∃ (g : Gh) , Fr gI wI g w ∧ e 2 = p2 ∧ OB 2002 g w 100 (jB : PayEntry) p2 ∧ e 4 = p6 ∧ OB 2004 g w 132 (y5.1 : PaySheet) p6 ∧ e 7 = .int .i64 (o0.2.2.1) ∧ e 169 = .bool (aB)) (fun Q' hQ => ?_) (fun yN eM hR => ?_)
           ·replace h := hx
            clear hx
            refine E_region (EL_mv tH rfl ?_)
            refine EL_in (.bool ((l5.2 == (0 : Int)))) rfl rfl rfl rfl ?_
            refine EL_mw (.bool ((l5.2 == (0 : Int)))) rfl rfl ?_
            rcases csome h with ⟨nD, h⟩ | ⟨nD, h⟩
            ·refine EL_y (.int .i64 (u3.2)) (P_move uH) rfl rfl nD rfl ?_
             refine EL_y (.bool ((u3.2 == (0 : Int)))) (P_int rfl rfl rfl) rfl rfl nD rfl ?_
             refine EL_p (.bool ((u3.2 == (0 : Int)))) (P_pick (b := (l5.2 == (0 : Int))) rfl (pick_t nD rfl)) rfl ?_
             refine EL_mw (.bool ((u3.2 == (0 : Int)))) rfl rfl ?_
             rcases csome h with ⟨d9, h⟩ | ⟨d9, h⟩
             ·refine EL_y (.int .i64 (o0.2.2.1)) (P_move uE) rfl rfl d9 rfl ?_
              refine EL_y (.int .i64 (o0.2.2.2)) (P_move iJ) rfl rfl d9 rfl ?_
              refine EL_y (.bool ((o0.2.2.1 == o0.2.2.2))) (P_int rfl rfl rfl) rfl rfl d9 rfl ?_
              refine EL_p (.bool ((o0.2.2.1 == o0.2.2.2))) (P_pick (b := (u3.2 == (0 : Int))) rfl (pick_t d9 rfl)) rfl ?_
              refine EL_at (.bool ((o0.2.2.1 == o0.2.2.2))) rfl rfl ?_
              refine EL_nil ?_
              obtain rfl := sinj h
              exact hQ _ _ ⟨nF, hfr, eE, mC, tE, qC, uE, rfl⟩
             ·refine EL_s rfl rfl d9 rfl rfl ?_
              refine EL_s rfl rfl d9 rfl rfl ?_
              refine EL_s rfl rfl d9 rfl rfl ?_
              refine EL_p (.bool false) (P_pick (b := (u3.2 == (0 : Int))) rfl (pick_f d9 rfl)) rfl ?_
              refine EL_at (.bool false) rfl rfl ?_
              refine EL_nil ?_
              obtain rfl := sinj h
              exact hQ _ _ ⟨nF, hfr, eE, mC, tE, qC, uE, rfl⟩
            ·refine EL_s rfl rfl nD rfl rfl ?_
             refine EL_s rfl rfl nD rfl rfl ?_
             refine EL_p (.bool false) (P_pick (b := (l5.2 == (0 : Int))) rfl (pick_f nD rfl)) rfl ?_
             refine EL_dead 5 rfl ?_
             refine EL_at (.bool false) rfl rfl ?_
             refine EL_nil ?_
             obtain rfl := sinj h
             exact hQ _ _ ⟨nF, hfr, eE, mC, tE, qC, uE, rfl⟩
           ·clear hx
            obtain ⟨iG, hfr, vE, xG, jJ, tF, kJ, zF⟩ := hR
            rcases csome h with ⟨nG, h⟩ | ⟨nG, h⟩
            ·refine E_cond_true (Eq.trans (show ev _ _ = .bool (aB) from zF) (congrArg Value.bool nG)) ?_
             refine E_seq (E_region (EL_p (fPtr p6 0) (P_fieldAddr at_132_0 jJ (OB.ptr tF)) rfl ?_))
             refine EL_p (fPtr p6 3) (P_fieldAddr2 (o1 := 0) rfl at_58_3 rfl (OB.ptr tF)) rfl ?_
             refine EL_do .plain rfl (D_loadF (g := iG) (SubS.comp part_PaySheet_0 part_PayTable_3 rfl).1 Tryz.isAgg3 Tryz.sizeOf3 rfl tF fun dP iM => ?_)
             obtain rfl := RV_int.1 iM
             refine EL_mv kJ rfl ?_
             refine EL_in (.int .i64 ((w64 (((y5.1).PayTable).Total + o0.2.2.1)))) rfl rfl rfl rfl ?_
             have yI : RV iG.m eM (⟨(4 : Int), 0, 0, (w64 (((y5.1).PayTable).Total + o0.2.2.1))⟩ : PayEntry) (.agg (setCh [[.int .i64 0], [.int .i64 0], [.int .i64 0], [.int .i64 0]] [(0, .int .i64 (4)), (3, .int .i64 ((w64 (((y5.1).PayTable).Total + o0.2.2.1))))]).flatten.toArray) := RV_build rfl (rep_pair (rfl) (rep_pair (rep_int) (rep_pair (rep_int) (rep_last (rfl)))))
             generalize cK : (Value.agg (setCh [[.int .i64 0], [.int .i64 0], [.int .i64 0], [.int .i64 0]] [(0, .int .i64 (4)), (3, .int .i64 ((w64 (((y5.1).PayTable).Total + o0.2.2.1))))]).flatten.toArray) = zI at yI
             refine EL_p zI (cK ▸ P_build (vs := [(0, .int .i64 (4)), (3, .int .i64 ((w64 (((y5.1).PayTable).Total + o0.2.2.1))))]) [[.int .i64 0], [.int .i64 0], [.int .i64 0], [.int .i64 0]] lay_100 rfl rfl (.cons rfl (.cons rfl .nil)) ⟨⟨_, rfl, rfl⟩, ⟨⟨_, rfl, rfl⟩, trivial⟩⟩) rfl ?_
             refine EL_do .plain rfl (D_storeOc (g := iG) (v := zI) Tryz.sizeOf100 vE xG rfl yI fun aJ eP hs b1197 cb => ?_)
             clear cb
             have hfr := hfr.stp hs
             refine EL_nil (thn_n (E_region (EL_p (fPtr p2 3) (P_fieldAddr at_100_3 vE (OB.ptr b1197)) rfl ?_)))
             refine EL_do .plain rfl (D_loadF (g := aJ) part_PayEntry_3.1 Tryz.isAgg3 Tryz.sizeOf3 rfl b1197 fun gP jM => ?_)
             obtain rfl := RV_int.1 jM
             refine EL_do .plain rfl (D_buildSlice (g := aJ) 3189 (xs := ([(w64 (((y5.1).PayTable).Total + o0.2.2.1))] : List Int)) (vs := [.int .i64 ((w64 (((y5.1).PayTable).Total + o0.2.2.1)))]) Tryz.underlying23 Tryz.sizeOf3 Tryz.zeroValue3 rfl rfl (.cons rfl .nil) (RVs.cons (RV_int.2 rfl) RVs.nil) rfl rfl fun kM iP mM hs o1200 nM hxt hfl => ?_)
             have hfr := hfr.stp hs
             have b1197 := b1197.stp hs rfl
             obtain ⟨bG, dK, h⟩ := bsome h
             refine EL_do .plain rfl (D_call (g := kM) (vs := [mM]) en72 (.cons rfl .nil) (wk72 nM dK) fun oM zN jP hs hr => ?_)
             have hfr := hfr.ext hs
             have b1197 := b1197.ext hs
             subst hr
             refine EL_at (.bool (bG)) rfl rfl ?_
             exact EL_nil (blk_n (thn_n (iF ((⟨(4 : Int), 0, 0, (w64 (((y5.1).PayTable).Total + o0.2.2.1))⟩ : PayEntry), bG) _ _ ⟨oM, hfr, vE, b1197, rfl⟩ h)))
            ·refine E_cond_false (Eq.trans (show ev _ _ = .bool (aB) from zF) (congrArg Value.bool nG)) ?_
             refine E_region (EL_at (.bool false) rfl rfl ?_)
             exact EL_nil (blk_n (thn_n (iF (jB, false) _ _ ⟨iG, hfr, vE, xG, rfl⟩ h)))
  ·rintro ⟨oF, xE⟩ aO pM ⟨cH, hfr, uF, yG, yH⟩ h
   refine E_joinC h (fun (s : PayEntry) e w => ∃ (g : Gh) , Fr gI wI g w ∧ e 2 = p2 ∧ OB 2002 g w 100 (s : PayEntry) p2) (fun X1208 zH lK h => ?_) ?_
   ·refine E_seq (E_region (EL_mv yH rfl ?_))
    refine EL_p (.bool (!xE)) (P_not rfl) rfl ?_
    refine EL_nil (thn_n ?_)
    rcases csome h with ⟨oG, h⟩ | ⟨oG, h⟩
    ·refine E_ct oG rfl ?_
     refine E_seq (E_region ?_)
     have bJ : RV cH.m pM (⟨0, 0, 0, 0⟩ : PayEntry) (.agg (setCh [[.int .i64 0], [.int .i64 0], [.int .i64 0], [.int .i64 0]] []).flatten.toArray) := RV_build rfl (rep_pair (rep_int) (rep_pair (rep_int) (rep_pair (rep_int) (rep_last (rep_int)))))
     generalize mK : (Value.agg (setCh [[.int .i64 0], [.int .i64 0], [.int .i64 0], [.int .i64 0]] []).flatten.toArray) = cJ at bJ
     refine EL_p cJ (mK ▸ P_build (vs := []) [[.int .i64 0], [.int .i64 0], [.int .i64 0], [.int .i64 0]] lay_100 rfl rfl .nil trivial) rfl ?_
     refine EL_do .plain rfl (D_storeOc (g := cH) (v := cJ) Tryz.sizeOf100 uF yG rfl bJ fun kP lP hs b1211 cb => ?_)
     clear cb
     have hfr := hfr.stp hs
     refine EL_at (.int .i64 (9)) rfl rfl ?_
     refine EL_nil (thn_n (E_ret (thn_r ?_)))
     obtain rfl := sinj h
     obtain ⟨ad1212, cv1212, hp1212, nK, cr1212⟩ := ob_read Tryz.isAgg100 Tryz.sizeOf100 b1211
     exact endm_ct rfl rfl ((show _ = p2 from uF).trans hp1212) nK (show _ = .int .i64 (9) from rfl) ⟨_, hfr, _, _, rfl, cr1212, rfl⟩
    ·refine E_cf oG rfl ?_
     exact E_skip (thn_n (lK (oF) _ _ ⟨cH, hfr, uF, yG⟩ h))
   ·rintro sG bO mP ⟨dJ, hfr, vF, zG⟩ h
    refine E_seq (E_region (EL_do .plain rfl (D_loadO (g := dJ) Tryz.isAgg100 Tryz.sizeOf100 vF zG fun qM rM => ?_)))
    refine EL_do .plain rfl (D_storeOc (g := dJ) (v := qM) Tryz.sizeOf100 vF zG rfl rM fun nP oP hs b1215 cb => ?_)
    clear cb
    have hfr := hfr.stp hs
    refine EL_at (.int .i64 (0)) rfl rfl ?_
    refine EL_nil (thn_n (E_ret ?_))
    obtain rfl := sinj h
    obtain ⟨ad1216, cv1216, hp1216, oK, cr1216⟩ := ob_read Tryz.isAgg100 Tryz.sizeOf100 b1215
    exact endm_ct rfl rfl ((show _ = p2 from vF).trans hp1216) oK (show _ = .int .i64 (0) from rfl) ⟨_, hfr, _, _, rfl, cr1216, rfl⟩
def f45 (x0 : PayTable) : Option (Int) :=
 (f63 x0).bind fun y4 =>
 some (y4.2)
theorem en45 : Enters Tryz.prog 45 := enters_of Tryz.func45 (by kernel_rfl) rfl
theorem wk45 {gI : Gh} {wI : World} {x0 : PayTable} {up0 : Value} (rp0 : RV gI.m wI x0 up0) {r : Int} (h : f45 x0 = some r) : Fn Tryz.prog 45 #[up0] gI wI (fun _ _ v => v = .int .i64 (r)) := by
 unfold f45 at h
 refine fn_of_E Tryz.func45 rfl (Nat.le_of_ble_eq_true rfl) fun g0 hm hfr => ?_
 have rp0 : RV g0.m wI x0 up0 := hm ▸ rp0
 show E _ 11 none _ _ _ _ _
 refine E_seq (E_region (EL_do .plain rfl (D_box (g := g0) rfl rp0 fun g1 w1 p1 hs q1 => ?_)))
 have hfr := hfr.ext hs
 refine EL_at (.int .i64 (0)) rfl rfl ?_
 refine EL_nil (thn_n (E_seq (E_region (EL_do .plain rfl (D_load (g := g1) Tryz.isAgg58 Tryz.sizeOf58 rfl q1 fun v2 r2 => ?_)))))
 obtain ⟨y4, l5, h⟩ := bsome h
 refine EL_do .plain rfl (D_call (g := g1) (vs := [v2]) en63 (.cons rfl .nil) (wk63 r2 l5) fun g3 w3_ v3 hs hr => ?_)
 have hfr := hfr.ext hs
 obtain ⟨o0, t5, rfl, u3, rfl⟩ := hr
 refine EL_mw (.tuple #[o0, .int .i64 (y4.2)]) rfl rfl ?_
 refine EL_p o0 (P_extract rfl rfl) rfl ?_
 refine EL_p (.int .i64 (y4.2)) (P_extract rfl rfl) rfl ?_
 refine EL_do .plain rfl (D_allocOc (g := g3) 2003 (⟨⟨[], [], [], 0⟩⟩ : PaySheet) Tryz.zeroValue132 (fun m w => ⟨_, (rep_two rep_nil (rep_two rep_nil (rep_two rep_nil rep_int))), rfl⟩) fun g5 w5 p5 hs b5 cb => ?_)
 have hfr := hfr.stp hs
 have u3 := u3.stp hs
 have x5 : OSF 2003 60300 0 g5 w5 23 132 ([] : List (List Int)) p5 := cb.osf (by rfl)
 have i6 : OSF 2003 60301 1 g5 w5 3 132 ([] : List Int) p5 := cb.osf (by rfl)
 have j6 : OSF 2003 60302 2 g5 w5 3 132 ([] : List Int) p5 := cb.osf (by rfl)
 clear cb
 refine EL_do .plain rfl (D_storeOc (g := g5) (v := o0) Tryz.sizeOf132 rfl b5 rfl u3 fun g6 w6 hs b6 cb => ?_)
 clear cb
 have hfr := hfr.stp hs
 refine EL_at (.int .i64 (y4.2)) rfl rfl ?_
 refine EL_nil (thn_n (E_seq (E_region (EL_mw (.int .i64 (y4.2)) rfl rfl ?_))))
 refine EL_at (.int .i64 (y4.2)) rfl rfl ?_
 refine EL_nil (thn_n (E_ret ?_))
 obtain rfl := sinj h
 exact end1 rfl rfl (show _ = .int .i64 (y4.2) from rfl) ⟨_, hfr, rfl⟩
def f10 (x0 : PayTable) : Option (Bool) :=
 jn (σ := Unit) (fun _ =>
  (f35 x0).bind fun gD =>
  (f45 gD).bind fun y23 =>
  (f41 gD).bind fun u3 =>
  (f42 gD).bind fun o0 =>
  (f31 x0).bind fun i7 =>
  jn (σ := Unit) (fun _ =>
   Option.bind (α := Int) (
    Option.bind (α := Bool) (
     bif (i7 == (0 : Int)) then
      (f32 x0).bind fun y79 =>
      some ((decide (((y79).length : Int) > (0 : Int))))
     else
      some (false)
     ) fun v8 =>
    bif v8 then
     some ((7 : Int))
    else
     some (i7)
    ) fun i6 =>
   jn (σ := Unit) (fun _ =>
    jn (σ := Unit) (fun _ =>
     jn (σ := Unit) (fun _ =>
      (f47 x0).bind fun mB =>
      jn (σ := Unit) (fun _ =>
       Option.bind (α := Bool) (
        bif (!u3.1) then
         bif (o0.2 == (0 : Int)) then
          (idx mB (0 : Int)).bind fun m7 =>
          bif (decide (o0.1 = m7)) then
           (f12).bind fun nB =>
           some (nB)
          else
           some (false)
         else
          some (false)
        else
         some (false)
        ) fun l9 =>
       some (l9)
       ) fun eF =>
      bif (((mB).length : Int) == (0 : Int)) then
       Option.bind (α := Bool) (
        bif (!u3.1) then
         bif (o0.2 == (9 : Int)) then
          bif (decide (o0.1 = (⟨0, 0, 0, 0⟩ : PayEntry))) then
           (f12).bind fun cC =>
           some (cC)
          else
           some (false)
         else
          some (false)
        else
         some (false)
        ) fun n9 =>
       some (n9)
      else
       eF ()
      ) fun iF =>
     (f46 x0).bind fun nF =>
     bif nF then
      Option.bind (α := Bool) (
       bif u3.1 then
        bif (o0.2 == (0 : Int)) then
         bif (decide (o0.1 = (⟨0, 0, 0, 0⟩ : PayEntry))) then
          (f12).bind fun y158 =>
          some (y158)
         else
          some (false)
        else
         some (false)
       else
        some (false)
       ) fun u9 =>
      some (u9)
     else
      iF ()
     ) fun oF =>
    bif (i6 != (0 : Int)) then
     Option.bind (α := Bool) (
      bif (o0.2 == i6) then
       bif (!u3.1) then
        bif (decide (o0.1 = (⟨0, 0, 0, 0⟩ : PayEntry))) then
         (f12).bind fun eC =>
         some (eC)
        else
         some (false)
       else
        some (false)
      else
       some (false)
      ) fun y9 =>
     some (y9)
    else
     oF ()
    ) fun kI =>
   bif (u3.2 != i6) then
    some (false)
   else
    kI ()
   ) fun lI =>
  Option.bind (α := Bool) (
   (f37 gD x0).bind fun y56 =>
   bif (!y56) then
    some (true)
   else
    some ((y23 != i7))
   ) fun x8 =>
  bif x8 then
   some (false)
  else
   lI ()
  ) fun k8 =>
 (f30 x0).bind fun y11 =>
 bif y11 then
  (f12).bind fun bE =>
  some (bE)
 else
  k8 ()
theorem wk10 {gI : Gh} {wI : World} {x0 : PayTable} {up0 : Value} (rp0 : RV gI.m wI x0 up0) {r : Bool} (h : f10 x0 = some r) : Fn Tryz.prog 10 #[up0] gI wI (fun _ _ v => v = .bool (r)) := by
 unfold f10 at h
 refine fn_of_E Tryz.func10 rfl (Nat.le_of_ble_eq_true rfl) fun g0 hm hfr => ?_
 have rp0 : RV g0.m wI x0 up0 := hm ▸ rp0
 show E _ 117 none _ _ _ _ _
 refine E_seq (E_region (EL_do .plain rfl (D_box (g := g0) rfl rp0 fun g1 w1 p1 hs q1 => ?_)))
 have hfr := hfr.ext hs
 refine EL_at (.bool false) rfl rfl ?_
 refine EL_nil (thn_n (E_joinC h (fun (s : Unit) e w => ∃ (g : Gh) , Fr gI wI g w ∧ e 1 = p1 ∧ PT g.m w (x0 : PayTable) p1) (fun X8 k8 mK h => ?_) ?_))
 ·refine E_seq (E_region (EL_do .plain rfl (D_load (g := g1) Tryz.isAgg58 Tryz.sizeOf58 rfl q1 fun v9 r9 => ?_)))
  obtain ⟨y11, xI, h⟩ := bsome h
  refine EL_do .plain rfl (D_call (g := g1) (vs := [v9]) en30 (.cons rfl .nil) (wk30 r9 xI) fun mI oM gO hs hr => ?_)
  have hfr := hfr.ext hs
  have q1 := q1.ext hs
  subst hr
  refine EL_nil (thn_n ?_)
  rcases csome h with ⟨xD, h⟩ | ⟨xD, h⟩
  ·refine E_ct xD rfl ?_
   refine E_seq (E_region ?_)
   obtain ⟨bE, yI, h⟩ := bsome h
   refine EL_do .plain rfl (D_call (g := mI) (vs := []) en12 .nil (wk12  yI) fun iO pM jO hs hr => ?_)
   have hfr := hfr.ext hs
   subst hr
   refine EL_at (.bool (bE)) rfl rfl ?_
   refine EL_nil (thn_n (E_ret (thn_r ?_)))
   obtain rfl := sinj h
   exact end1 rfl rfl (show _ = .bool (bE) from rfl) ⟨_, hfr, rfl⟩
  ·refine E_cf xD rfl ?_
   exact E_skip (thn_n (mK () _ _ ⟨mI, hfr, rfl, q1⟩ h))
 ·rintro _ qM w15 ⟨nI, hfr, z9, l5⟩ h
  refine E_seq (E_region (EL_do .plain rfl (D_load (g := nI) Tryz.isAgg58 Tryz.sizeOf58 z9 l5 fun nK oK => ?_)))
  obtain ⟨gD, zI, h⟩ := bsome h
  refine EL_do .plain rfl (D_call (g := nI) (vs := [nK]) en35 (.cons rfl .nil) (wk35 oK zI) fun pK rM qK hs hr => ?_)
  have hfr := hfr.ext hs
  have l5 := l5.ext hs
  have pF := hr
  refine EL_do .plain rfl (D_allocOc (g := pK) 2003 (⟨[], [], [], 0⟩ : PayTable) Tryz.zeroValue58 (fun m w => ⟨_, (rep_two rep_nil (rep_two rep_nil (rep_two rep_nil rep_int))), rfl⟩) fun cE qF rF hs b19 cb => ?_)
  have hfr := hfr.stp hs
  have l5 := l5.stp hs
  have pF := pF.stp hs
  have tL : OSF 2003 60300 0 cE qF 23 58 ([] : List (List Int)) rF := cb.osf (by rfl)
  have uL : OSF 2003 60301 1 cE qF 3 58 ([] : List Int) rF := cb.osf (by rfl)
  have vL : OSF 2003 60302 2 cE qF 3 58 ([] : List Int) rF := cb.osf (by rfl)
  clear cb
  refine EL_do .plain rfl (D_storeOc (g := cE) (v := qK) Tryz.sizeOf58 rfl b19 rfl pF fun pI kO hs b20 cb => ?_)
  clear cb
  have hfr := hfr.stp hs
  have l5 := l5.stp hs
  refine EL_nil (thn_n (E_seq (E_region (EL_do .plain rfl (D_loadO (g := pI) Tryz.isAgg58 Tryz.sizeOf58 rfl b20 fun sK tK => ?_)))))
  obtain ⟨y23, aJ, h⟩ := bsome h
  refine EL_do .plain rfl (D_call (g := pI) (vs := [sK]) en45 (.cons rfl .nil) (wk45 tK aJ) fun qI sM lO hs hr => ?_)
  have hfr := hfr.ext hs
  have l5 := l5.ext hs
  have b20 := b20.ext hs
  subst hr
  refine EL_at (.int .i64 (y23)) rfl rfl ?_
  refine EL_nil (thn_n (E_seq (E_region (EL_do .plain rfl (D_loadO (g := qI) Tryz.isAgg58 Tryz.sizeOf58 rfl b20 fun uK vK => ?_)))))
  obtain ⟨u3, bJ, h⟩ := bsome h
  refine EL_do .plain rfl (D_call (g := qI) (vs := [uK]) en41 (.cons rfl .nil) (wk41 vK bJ) fun sI tM mO hs hr => ?_)
  have hfr := hfr.ext hs
  have l5 := l5.ext hs
  have b20 := b20.ext hs
  obtain ⟨xL, yL, rfl, rfl, rfl⟩ := hr
  refine EL_mw (.tuple #[.bool (u3.1), .int .i64 (u3.2)]) rfl rfl ?_
  refine EL_p (.bool (u3.1)) (P_extract rfl rfl) rfl ?_
  refine EL_p (.int .i64 (u3.2)) (P_extract rfl rfl) rfl ?_
  refine EL_at (.bool (u3.1)) rfl rfl ?_
  refine EL_at (.int .i64 (u3.2)) rfl rfl ?_
  refine EL_nil (thn_n (E_seq (E_region (EL_do .plain rfl (D_loadO (g := sI) Tryz.isAgg58 Tryz.sizeOf58 rfl b20 fun xK yK => ?_)))))
  obtain ⟨o0, cJ, h⟩ := bsome h
  refine EL_do .plain rfl (D_call (g := sI) (vs := [xK]) en42 (.cons rfl .nil) (wk42 yK cJ) fun zK uM nO hs hr => ?_)
  have hfr := hfr.ext hs
  have l5 := l5.ext hs
  have b20 := b20.ext hs
  obtain ⟨mC, zL, rfl, qC, rfl⟩ := hr
  refine EL_mw (.tuple #[mC, .int .i64 (o0.2)]) rfl rfl ?_
  refine EL_p mC (P_extract rfl rfl) rfl ?_
  refine EL_p (.int .i64 (o0.2)) (P_extract rfl rfl) rfl ?_
  refine EL_do .plain rfl (D_allocOc (g := zK) 2007 (⟨0, 0, 0, 0⟩ : PayEntry) Tryz.zeroValue100 (fun m w => ⟨_, (rep_two rep_int (rep_two rep_int (rep_two rep_int rep_int))), rfl⟩) fun aL oO j6 hs b30 cb => ?_)
  have hfr := hfr.stp hs
  have l5 := l5.stp hs
  have b20 := b20.stp hs rfl
  have qC := qC.stp hs
  clear cb
  refine EL_do .plain rfl (D_storeOc (g := aL) (v := mC) Tryz.sizeOf100 rfl b30 rfl qC fun tI pO hs b31 cb => ?_)
  clear cb
  have hfr := hfr.stp hs
  have l5 := l5.stp hs
  have b20 := b20.stp hs rfl
  refine EL_at (.int .i64 (o0.2)) rfl rfl ?_
  refine EL_nil (thn_n (E_seq (E_region (EL_do .plain rfl (D_load (g := tI) Tryz.isAgg58 Tryz.sizeOf58 z9 l5 fun bL dL => ?_)))))
  obtain ⟨i7, dJ, h⟩ := bsome h
  refine EL_do .plain rfl (D_call (g := tI) (vs := [bL]) en31 (.cons rfl .nil) (wk31 dL dJ) fun sF vM qO hs hr => ?_)
  have hfr := hfr.ext hs
  have l5 := l5.ext hs
  have b20 := b20.ext hs
  have b31 := b31.ext hs
  subst hr
  refine EL_at (.int .i64 (i7)) rfl rfl ?_
  refine EL_nil (thn_n (E_joinC h (fun (s : Unit) e w => ∃ (g : Gh) , Fr gI wI g w ∧ e 1 = p1 ∧ PT g.m w (x0 : PayTable) p1 ∧ e 5 = .bool (u3.1) ∧ e 6 = .int .i64 (u3.2) ∧ e 7 = j6 ∧ OB 2007 g w 100 (o0.1 : PayEntry) j6 ∧ e 8 = .int .i64 (o0.2) ∧ e 9 = .int .i64 (i7)) (fun X47 lI eJ h => ?_) ?_))
  ·obtain ⟨x8, hx, h⟩ := bsome h
   refine E_join (fun e w => ∃ (g : Gh) , Fr gI wI g w ∧ e 1 = p1 ∧ PT g.m w (x0 : PayTable) p1 ∧ e 5 = .bool (u3.1) ∧ e 6 = .int .i64 (u3.2) ∧ e 7 = j6 ∧ OB 2007 g w 100 (o0.1 : PayEntry) j6 ∧ e 8 = .int .i64 (o0.2) ∧ e 9 = .int .i64 (i7) ∧ e 38 = .bool (x8)) (fun Q' hQ => ?_) (fun xM rO hR => ?_)
   ·replace h := hx
    clear hx
    refine E_region (EL_do .plain rfl (D_loadO (g := sF) Tryz.isAgg58 Tryz.sizeOf58 rfl b20 fun eL gL => ?_))
    refine EL_do .plain rfl (D_load (g := sF) Tryz.isAgg58 Tryz.sizeOf58 z9 l5 fun iL jL => ?_)
    obtain ⟨y56, gJ, h⟩ := bsome h
    refine EL_do .plain rfl (D_call (g := sF) (vs := [eL, iL]) en37 (.cons rfl (.cons rfl .nil)) (wk37 gL jL gJ) fun uI yM sO hs hr => ?_)
    have hfr := hfr.ext hs
    have l5 := l5.ext hs
    have b31 := b31.ext hs
    subst hr
    refine EL_p (.bool (!y56)) (P_not rfl) rfl ?_
    refine EL_mw (.bool (!y56)) rfl rfl ?_
    rcases csome h with ⟨g8, h⟩ | ⟨g8, h⟩
    ·refine EL_s rfl rfl g8 rfl rfl ?_
     refine EL_s rfl rfl g8 rfl rfl ?_
     refine EL_s rfl rfl g8 rfl rfl ?_
     refine EL_p (.bool true) (P_pick (b := (!y56)) rfl (pick_t g8 rfl)) rfl ?_
     refine EL_nil ?_
     obtain rfl := sinj h
     exact hQ _ _ ⟨uI, hfr, z9, l5, rfl, rfl, rfl, b31, rfl, rfl, rfl⟩
    ·refine EL_y (.int .i64 (y23)) (P_move rfl) rfl rfl g8 rfl ?_
     refine EL_y (.int .i64 (i7)) (P_move rfl) rfl rfl g8 rfl ?_
     refine EL_y (.bool ((y23 != i7))) (P_int rfl rfl rfl) rfl rfl g8 rfl ?_
     refine EL_p (.bool ((y23 != i7))) (P_pick (b := (!y56)) rfl (pick_f g8 rfl)) rfl ?_
     refine EL_nil ?_
     obtain rfl := sinj h
     exact hQ _ _ ⟨uI, hfr, z9, l5, rfl, rfl, rfl, b31, rfl, rfl, rfl⟩
   ·clear hx
    obtain ⟨lL, hfr, oG, sG, tG, uG, vG, xG, yG, zG, iD⟩ := hR
    rcases csome h with ⟨yD, h⟩ | ⟨yD, h⟩
    ·refine E_cond_true (Eq.trans (show ev _ _ = .bool (x8) from iD) (congrArg Value.bool yD)) ?_
     refine E_seq (E_region (EL_at (.bool false) rfl rfl ?_))
     refine EL_nil (thn_n (E_ret (thn_r ?_)))
     obtain rfl := sinj h
     exact end1 rfl rfl (show _ = .bool false from rfl) ⟨_, hfr, rfl⟩
    ·refine E_cond_false (Eq.trans (show ev _ _ = .bool (x8) from iD) (congrArg Value.bool yD)) ?_
     exact E_skip (thn_n (eJ () _ _ ⟨lL, hfr, oG, sG, tG, uG, vG, xG, yG, zG⟩ h))
  ·rintro _ zM tO ⟨tF, hfr, rC, bA, dE, eE, iE, tB, jE, uC⟩ h
   obtain ⟨i6, hx, h⟩ := bsome h
   refine E_join (fun e w => ∃ (g : Gh) , Fr gI wI g w ∧ e 1 = p1 ∧ PT g.m w (x0 : PayTable) p1 ∧ e 5 = .bool (u3.1) ∧ e 6 = .int .i64 (u3.2) ∧ e 7 = j6 ∧ OB 2007 g w 100 (o0.1 : PayEntry) j6 ∧ e 8 = .int .i64 (o0.2) ∧ e 9 = .int .i64 (i6)) (fun Q' hQ => ?_) (fun bN uO hR => ?_)
   ·replace h := hx
    clear hx
    obtain ⟨v8, hx, h⟩ := bsome h
    refine E_join (fun e w => ∃ (g : Gh) , Fr gI wI g w ∧ e 1 = p1 ∧ PT g.m w (x0 : PayTable) p1 ∧ e 5 = .bool (u3.1) ∧ e 6 = .int .i64 (u3.2) ∧ e 7 = j6 ∧ OB 2007 g w 100 (o0.1 : PayEntry) j6 ∧ e 8 = .int .i64 (o0.2) ∧ e 9 = .int .i64 (i7) ∧ e 46 = .bool (v8)) (fun Q' hQ => ?_) (fun cN vO hR => ?_)
    ·replace h := hx
     clear hx
     refine E_region (EL_mv uC rfl ?_)
     refine EL_in (.bool ((i7 == (0 : Int)))) rfl rfl rfl rfl ?_
     refine EL_mw (.bool ((i7 == (0 : Int)))) rfl rfl ?_
     rcases csome h with ⟨l8, h⟩ | ⟨l8, h⟩
     ·refine EL_do (.yes2 rfl rfl l8) rfl (D_load (g := tF) Tryz.isAgg58 Tryz.sizeOf58 rC bA fun mL nL => ?_)
      obtain ⟨y79, iJ, h⟩ := bsome h
      refine EL_do (.yes2 rfl rfl l8) rfl (D_call (g := tF) (vs := [mL]) en32 (.cons rfl .nil) (wk32 nL iJ) fun oL dN xO hs hr => ?_)
      have hfr := hfr.ext hs
      have bA := bA.ext hs
      have tB := tB.ext hs
      have pL := hr
      refine EL_y (.int .i64 ((y79).length : Int)) (P_len Tryz.underlying62 rfl pL) rfl rfl l8 rfl ?_
      refine EL_y (.bool ((decide (((y79).length : Int) > (0 : Int))))) (P_int rfl rfl rfl) rfl rfl l8 rfl ?_
      refine EL_p (.bool ((decide (((y79).length : Int) > (0 : Int))))) (P_pick (b := (i7 == (0 : Int))) rfl (pick_t l8 rfl)) rfl ?_
      refine EL_nil ?_
      obtain rfl := sinj h
      exact hQ _ _ ⟨oL, hfr, rC, bA, dE, eE, iE, tB, jE, uC, rfl⟩
     ·refine EL_s rfl rfl l8 rfl rfl ?_
      iterate 3 refine EL_s rfl rfl l8 rfl rfl ?_
      refine EL_p (.bool false) (P_pick (b := (i7 == (0 : Int))) rfl (pick_f l8 rfl)) rfl ?_
      refine EL_nil ?_
      obtain rfl := sinj h
      exact hQ _ _ ⟨tF, hfr, rC, bA, dE, eE, iE, tB, jE, uC, rfl⟩
    ·clear hx
     obtain ⟨vI, hfr, kE, lE, mE, nE, oE, rE, sE, aH, jD⟩ := hR
     rcases csome h with ⟨zD, h⟩ | ⟨zD, h⟩
     ·refine E_cond_true (Eq.trans (show ev _ _ = .bool (v8) from jD) (congrArg Value.bool zD)) ?_
      refine E_region (EL_at (.int .i64 (7)) rfl rfl ?_)
      refine EL_nil ?_
      obtain rfl := sinj h
      exact hQ _ _ ⟨vI, hfr, kE, lE, mE, nE, oE, rE, sE, rfl⟩
     ·refine E_cond_false (Eq.trans (show ev _ _ = .bool (v8) from jD) (congrArg Value.bool zD)) ?_
      refine E_skip ?_
      obtain rfl := sinj h
      exact hQ _ _ ⟨vI, hfr, kE, lE, mE, nE, oE, rE, sE, aH⟩
   ·clear hx
    obtain ⟨qL, hfr, cH, dH, gH, iH, jH, kH, lH, tE⟩ := hR
    refine E_joinC h (fun (s : Unit) e w => ∃ (g : Gh) , Fr gI wI g w ∧ e 1 = p1 ∧ PT g.m w (x0 : PayTable) p1 ∧ e 5 = .bool (u3.1) ∧ e 7 = j6 ∧ OB 2007 g w 100 (o0.1 : PayEntry) j6 ∧ e 8 = .int .i64 (o0.2) ∧ e 9 = .int .i64 (i6)) (fun X84 kI jJ h => ?_) ?_
    ·refine E_seq (E_region (EL_mv iH rfl ?_))
     refine EL_mv tE rfl ?_
     refine EL_in (.bool ((u3.2 != i6))) rfl rfl rfl rfl ?_
     refine EL_nil (thn_n ?_)
     rcases csome h with ⟨aE, h⟩ | ⟨aE, h⟩
     ·refine E_ct aE rfl ?_
      refine E_seq (E_region (EL_at (.bool false) rfl rfl ?_))
      refine EL_nil (thn_n (E_ret (thn_r ?_)))
      obtain rfl := sinj h
      exact end1 rfl rfl (show _ = .bool false from rfl) ⟨_, hfr, rfl⟩
     ·refine E_cf aE rfl ?_
      exact E_skip (thn_n (jJ () _ _ ⟨qL, hfr, cH, dH, gH, jH, kH, lH, tE⟩ h))
    ·rintro _ eN rL ⟨vB, hfr, mH, nH, uE, vE, xE, yE, zE⟩ h
     refine E_joinC h (fun (s : Unit) e w => ∃ (g : Gh) , Fr gI wI g w ∧ e 1 = p1 ∧ PT g.m w (x0 : PayTable) p1 ∧ e 5 = .bool (u3.1) ∧ e 7 = j6 ∧ OB 2007 g w 100 (o0.1 : PayEntry) j6 ∧ e 8 = .int .i64 (o0.2)) (fun X103 oF oH h => ?_) ?_
     ·refine E_seq (E_region (EL_mv zE rfl ?_))
      refine EL_in (.bool ((i6 != (0 : Int)))) rfl rfl rfl rfl ?_
      refine EL_nil (thn_n ?_)
      rcases csome h with ⟨vC, h⟩ | ⟨vC, h⟩
      ·refine E_ct vC rfl ?_
       obtain ⟨y9, hx, h⟩ := bsome h
       refine E_join (fun e w => ∃ (g : Gh) , Fr gI wI g w ∧ e 2 = .bool (y9)) (fun Q' hQ => ?_) (fun aM gN hR => ?_)
       ·replace h := hx
        clear hx
        refine E_region (EL_mv yE rfl ?_)
        refine EL_mv zE rfl ?_
        refine EL_in (.bool ((o0.2 == i6))) rfl rfl rfl rfl ?_
        refine EL_mw (.bool ((o0.2 == i6))) rfl rfl ?_
        rcases csome h with ⟨m8, h⟩ | ⟨m8, h⟩
        ·refine EL_y (.bool (u3.1)) (P_move uE) rfl rfl m8 rfl ?_
         refine EL_y (.bool (!u3.1)) (P_not rfl) rfl rfl m8 rfl ?_
         refine EL_p (.bool (!u3.1)) (P_pick (b := (o0.2 == i6)) rfl (pick_t m8 rfl)) rfl ?_
         refine EL_mw (.bool (!u3.1)) rfl rfl ?_
         rcases csome h with ⟨x6, h⟩ | ⟨x6, h⟩
         ·refine EL_do (.yes2 rfl rfl x6) rfl (D_loadO (g := vB) Tryz.isAgg100 Tryz.sizeOf100 vE xE fun iN kJ => ?_)
          have uF : RV vB.m rL (⟨0, 0, 0, 0⟩ : PayEntry) (.agg (setCh [[.int .i64 0], [.int .i64 0], [.int .i64 0], [.int .i64 0]] []).flatten.toArray) := RV_build rfl (rep_pair (rep_int) (rep_pair (rep_int) (rep_pair (rep_int) (rep_last (rep_int)))))
          generalize pH : (Value.agg (setCh [[.int .i64 0], [.int .i64 0], [.int .i64 0], [.int .i64 0]] []).flatten.toArray) = lJ at uF
          refine EL_y lJ (pH ▸ P_build (vs := []) [[.int .i64 0], [.int .i64 0], [.int .i64 0], [.int .i64 0]] lay_100 rfl rfl .nil trivial) rfl rfl x6 rfl ?_
          refine EL_y (.bool ((decide (o0.1 = (⟨0, 0, 0, 0⟩ : PayEntry))))) (P_seq seq_100 rfl eg_100 rfl rfl kJ uF) rfl rfl x6 rfl ?_
          refine EL_p (.bool ((decide (o0.1 = (⟨0, 0, 0, 0⟩ : PayEntry))))) (P_pick (b := (!u3.1)) rfl (pick_t x6 rfl)) rfl ?_
          refine EL_mw (.bool ((decide (o0.1 = (⟨0, 0, 0, 0⟩ : PayEntry))))) rfl rfl ?_
          rcases csome h with ⟨iA, h⟩ | ⟨iA, h⟩
          ·obtain ⟨eC, qH, h⟩ := bsome h
           refine EL_do (.yes2 rfl rfl iA) rfl (D_call (g := vB) (vs := []) en12 .nil (wk12  qH) fun mJ bM jN hs hr => ?_)
           have hfr := hfr.ext hs
           subst hr
           refine EL_p (.bool (eC)) (P_pick (b := (decide (o0.1 = (⟨0, 0, 0, 0⟩ : PayEntry)))) rfl (pick_t iA rfl)) rfl ?_
           refine EL_at (.bool (eC)) rfl rfl ?_
           refine EL_nil ?_
           obtain rfl := sinj h
           exact hQ _ _ ⟨mJ, hfr, rfl⟩
          ·refine EL_s rfl rfl iA rfl rfl ?_
           refine EL_p (.bool false) (P_pick (b := (decide (o0.1 = (⟨0, 0, 0, 0⟩ : PayEntry)))) rfl (pick_f iA rfl)) rfl ?_
           refine EL_at (.bool false) rfl rfl ?_
           refine EL_nil ?_
           obtain rfl := sinj h
           exact hQ _ _ ⟨vB, hfr, rfl⟩
         ·refine EL_s rfl rfl x6 rfl rfl ?_
          refine EL_s rfl rfl x6 rfl rfl ?_
          refine EL_s rfl rfl x6 rfl rfl ?_
          refine EL_p (.bool false) (P_pick (b := (!u3.1)) rfl (pick_f x6 rfl)) rfl ?_
          refine EL_dead 3 rfl ?_
          refine EL_at (.bool false) rfl rfl ?_
          refine EL_nil ?_
          obtain rfl := sinj h
          exact hQ _ _ ⟨vB, hfr, rfl⟩
        ·refine EL_s rfl rfl m8 rfl rfl ?_
         refine EL_s rfl rfl m8 rfl rfl ?_
         refine EL_p (.bool false) (P_pick (b := (o0.2 == i6)) rfl (pick_f m8 rfl)) rfl ?_
         refine EL_dead 8 rfl ?_
         refine EL_at (.bool false) rfl rfl ?_
         refine EL_nil ?_
         obtain rfl := sinj h
         exact hQ _ _ ⟨vB, hfr, rfl⟩
       ·clear hx
        obtain ⟨kN, hfr, vF⟩ := hR
        refine E_ret (thn_r ?_)
        obtain rfl := sinj h
        exact end1 rfl rfl (show _ = .bool (y9) from vF) ⟨_, hfr, rfl⟩
      ·refine E_cf vC rfl ?_
       exact E_skip (thn_n (oH () _ _ ⟨vB, hfr, mH, nH, uE, vE, xE, yE⟩ h))
     ·rintro _ cM lN ⟨xF, hfr, lD, rA, mD, nD, yA, oD⟩ h
      refine E_joinC h (fun (s : Unit) e w => ∃ (g : Gh) , Fr gI wI g w ∧ e 1 = p1 ∧ PT g.m w (x0 : PayTable) p1 ∧ e 5 = .bool (u3.1) ∧ e 7 = j6 ∧ OB 2007 g w 100 (o0.1 : PayEntry) j6 ∧ e 8 = .int .i64 (o0.2)) (fun X140 iF sH h => ?_) ?_
      ·refine E_seq (E_region (EL_do .plain rfl (D_load (g := xF) Tryz.isAgg58 Tryz.sizeOf58 lD rA fun nJ oJ => ?_)))
       obtain ⟨nF, tH, h⟩ := bsome h
       refine EL_do .plain rfl (D_call (g := xF) (vs := [nJ]) en46 (.cons rfl .nil) (wk46 oJ tH) fun d9 uH mN hs hr => ?_)
       have hfr := hfr.ext hs
       have rA := rA.ext hs
       have yA := yA.ext hs
       subst hr
       refine EL_nil (thn_n ?_)
       rcases csome h with ⟨aD, h⟩ | ⟨aD, h⟩
       ·refine E_ct aD rfl ?_
        obtain ⟨u9, hx, h⟩ := bsome h
        refine E_join (fun e w => ∃ (g : Gh) , Fr gI wI g w ∧ e 2 = .bool (u9)) (fun Q' hQ => ?_) (fun dM nN hR => ?_)
        ·replace h := hx
         clear hx
         refine E_region (EL_mv mD rfl ?_)
         refine EL_mw (.bool (u3.1)) rfl rfl ?_
         rcases csome h with ⟨n8, h⟩ | ⟨n8, h⟩
         ·refine EL_y (.int .i64 (o0.2)) (P_move oD) rfl rfl n8 rfl ?_
          refine EL_y (.bool ((o0.2 == (0 : Int)))) (P_int rfl rfl rfl) rfl rfl n8 rfl ?_
          refine EL_p (.bool ((o0.2 == (0 : Int)))) (P_pick (b := u3.1) rfl (pick_t n8 rfl)) rfl ?_
          refine EL_mw (.bool ((o0.2 == (0 : Int)))) rfl rfl ?_
          rcases csome h with ⟨y6, h⟩ | ⟨y6, h⟩
          ·refine EL_do (.yes2 rfl rfl y6) rfl (D_loadO (g := d9) Tryz.isAgg100 Tryz.sizeOf100 nD yA fun oN pJ => ?_)
           have yF : RV d9.m uH (⟨0, 0, 0, 0⟩ : PayEntry) (.agg (setCh [[.int .i64 0], [.int .i64 0], [.int .i64 0], [.int .i64 0]] []).flatten.toArray) := RV_build rfl (rep_pair (rep_int) (rep_pair (rep_int) (rep_pair (rep_int) (rep_last (rep_int)))))
           generalize xH : (Value.agg (setCh [[.int .i64 0], [.int .i64 0], [.int .i64 0], [.int .i64 0]] []).flatten.toArray) = qJ at yF
           refine EL_y qJ (xH ▸ P_build (vs := []) [[.int .i64 0], [.int .i64 0], [.int .i64 0], [.int .i64 0]] lay_100 rfl rfl .nil trivial) rfl rfl y6 rfl ?_
           refine EL_y (.bool ((decide (o0.1 = (⟨0, 0, 0, 0⟩ : PayEntry))))) (P_seq seq_100 rfl eg_100 rfl rfl pJ yF) rfl rfl y6 rfl ?_
           refine EL_p (.bool ((decide (o0.1 = (⟨0, 0, 0, 0⟩ : PayEntry))))) (P_pick (b := (o0.2 == (0 : Int))) rfl (pick_t y6 rfl)) rfl ?_
           refine EL_mw (.bool ((decide (o0.1 = (⟨0, 0, 0, 0⟩ : PayEntry))))) rfl rfl ?_
           rcases csome h with ⟨aB, h⟩ | ⟨aB, h⟩
           ·obtain ⟨y158, yH, h⟩ := bsome h
            refine EL_do (.yes2 rfl rfl aB) rfl (D_call (g := d9) (vs := []) en12 .nil (wk12  yH) fun rJ eM pN hs hr => ?_)
            have hfr := hfr.ext hs
            subst hr
            refine EL_p (.bool (y158)) (P_pick (b := (decide (o0.1 = (⟨0, 0, 0, 0⟩ : PayEntry)))) rfl (pick_t aB rfl)) rfl ?_
            refine EL_at (.bool (y158)) rfl rfl ?_
            refine EL_nil ?_
            obtain rfl := sinj h
            exact hQ _ _ ⟨rJ, hfr, rfl⟩
           ·refine EL_s rfl rfl aB rfl rfl ?_
            refine EL_p (.bool false) (P_pick (b := (decide (o0.1 = (⟨0, 0, 0, 0⟩ : PayEntry)))) rfl (pick_f aB rfl)) rfl ?_
            refine EL_at (.bool false) rfl rfl ?_
            refine EL_nil ?_
            obtain rfl := sinj h
            exact hQ _ _ ⟨d9, hfr, rfl⟩
          ·refine EL_s rfl rfl y6 rfl rfl ?_
           refine EL_s rfl rfl y6 rfl rfl ?_
           refine EL_s rfl rfl y6 rfl rfl ?_
           refine EL_p (.bool false) (P_pick (b := (o0.2 == (0 : Int))) rfl (pick_f y6 rfl)) rfl ?_
           refine EL_dead 3 rfl ?_
           refine EL_at (.bool false) rfl rfl ?_
           refine EL_nil ?_
           obtain rfl := sinj h
           exact hQ _ _ ⟨d9, hfr, rfl⟩
         ·refine EL_s rfl rfl n8 rfl rfl ?_
          refine EL_s rfl rfl n8 rfl rfl ?_
          refine EL_p (.bool false) (P_pick (b := u3.1) rfl (pick_f n8 rfl)) rfl ?_
          refine EL_dead 8 rfl ?_
          refine EL_at (.bool false) rfl rfl ?_
          refine EL_nil ?_
          obtain rfl := sinj h
          exact hQ _ _ ⟨d9, hfr, rfl⟩
        ·clear hx
         obtain ⟨qN, hfr, zF⟩ := hR
         refine E_ret (thn_r ?_)
         obtain rfl := sinj h
         exact end1 rfl rfl (show _ = .bool (u9) from zF) ⟨_, hfr, rfl⟩
       ·refine E_cf aD rfl ?_
        exact E_skip (thn_n (sH () _ _ ⟨d9, hfr, lD, rA, mD, nD, yA, oD⟩ h))
      ·rintro _ iM rN ⟨aG, hfr, bG, cG, sD, tD, dB, uD⟩ h
       refine E_seq (E_region (EL_do .plain rfl (D_load (g := aG) Tryz.isAgg58 Tryz.sizeOf58 bG cG fun sJ vJ => ?_)))
       obtain ⟨mB, zH, h⟩ := bsome h
       refine EL_do .plain rfl (D_call (g := aG) (vs := [sJ]) en47 (.cons rfl .nil) (wk47 vJ zH) fun k9 aI a9 hs hr => ?_)
       have hfr := hfr.ext hs
       have dB := dB.ext hs
       have eG := hr
       refine EL_at a9 rfl rfl ?_
       refine EL_nil (thn_n (E_joinC h (fun (s : Unit) e w => ∃ (g : Gh) , Fr gI wI g w ∧ e 5 = .bool (u3.1) ∧ e 7 = j6 ∧ OB 2007 g w 100 (o0.1 : PayEntry) j6 ∧ e 8 = .int .i64 (o0.2) ∧ e 10 = a9 ∧ RV g.m w (mB : List PayEntry) a9) (fun X180 eF bI h => ?_) ?_))
       ·refine E_seq (E_region (EL_mw a9 rfl rfl ?_))
        refine EL_p (.int .i64 ((mB).length : Int)) (P_len Tryz.underlying110 rfl eG) rfl ?_
        refine EL_in (.bool ((((mB).length : Int) == (0 : Int)))) rfl rfl rfl rfl ?_
        refine EL_nil (thn_n ?_)
        rcases csome h with ⟨bD, h⟩ | ⟨bD, h⟩
        ·refine E_ct bD rfl ?_
         obtain ⟨n9, hx, h⟩ := bsome h
         refine E_join (fun e w => ∃ (g : Gh) , Fr gI wI g w ∧ e 2 = .bool (n9)) (fun Q' hQ => ?_) (fun jM sN hR => ?_)
         ·replace h := hx
          clear hx
          refine E_region (EL_mv sD rfl ?_)
          refine EL_p (.bool (!u3.1)) (P_not rfl) rfl ?_
          refine EL_mw (.bool (!u3.1)) rfl rfl ?_
          rcases csome h with ⟨r8, h⟩ | ⟨r8, h⟩
          ·refine EL_y (.int .i64 (o0.2)) (P_move uD) rfl rfl r8 rfl ?_
           refine EL_y (.bool ((o0.2 == (9 : Int)))) (P_int rfl rfl rfl) rfl rfl r8 rfl ?_
           refine EL_p (.bool ((o0.2 == (9 : Int)))) (P_pick (b := (!u3.1)) rfl (pick_t r8 rfl)) rfl ?_
           refine EL_mw (.bool ((o0.2 == (9 : Int)))) rfl rfl ?_
           rcases csome h with ⟨d7, h⟩ | ⟨d7, h⟩
           ·refine EL_do (.yes2 rfl rfl d7) rfl (D_loadO (g := k9) Tryz.isAgg100 Tryz.sizeOf100 tD dB fun tN xJ => ?_)
            have gG : RV k9.m aI (⟨0, 0, 0, 0⟩ : PayEntry) (.agg (setCh [[.int .i64 0], [.int .i64 0], [.int .i64 0], [.int .i64 0]] []).flatten.toArray) := RV_build rfl (rep_pair (rep_int) (rep_pair (rep_int) (rep_pair (rep_int) (rep_last (rep_int)))))
            generalize dI : (Value.agg (setCh [[.int .i64 0], [.int .i64 0], [.int .i64 0], [.int .i64 0]] []).flatten.toArray) = yJ at gG
            refine EL_y yJ (dI ▸ P_build (vs := []) [[.int .i64 0], [.int .i64 0], [.int .i64 0], [.int .i64 0]] lay_100 rfl rfl .nil trivial) rfl rfl d7 rfl ?_
            refine EL_y (.bool ((decide (o0.1 = (⟨0, 0, 0, 0⟩ : PayEntry))))) (P_seq seq_100 rfl eg_100 rfl rfl xJ gG) rfl rfl d7 rfl ?_
            refine EL_p (.bool ((decide (o0.1 = (⟨0, 0, 0, 0⟩ : PayEntry))))) (P_pick (b := (o0.2 == (9 : Int))) rfl (pick_t d7 rfl)) rfl ?_
            refine EL_mw (.bool ((decide (o0.1 = (⟨0, 0, 0, 0⟩ : PayEntry))))) rfl rfl ?_
            rcases csome h with ⟨iB, h⟩ | ⟨iB, h⟩
            ·obtain ⟨cC, iI, h⟩ := bsome h
             refine EL_do (.yes2 rfl rfl iB) rfl (D_call (g := k9) (vs := []) en12 .nil (wk12  iI) fun zJ kM uN hs hr => ?_)
             have hfr := hfr.ext hs
             subst hr
             refine EL_p (.bool (cC)) (P_pick (b := (decide (o0.1 = (⟨0, 0, 0, 0⟩ : PayEntry)))) rfl (pick_t iB rfl)) rfl ?_
             refine EL_at (.bool (cC)) rfl rfl ?_
             refine EL_nil ?_
             obtain rfl := sinj h
             exact hQ _ _ ⟨zJ, hfr, rfl⟩
            ·refine EL_s rfl rfl iB rfl rfl ?_
             refine EL_p (.bool false) (P_pick (b := (decide (o0.1 = (⟨0, 0, 0, 0⟩ : PayEntry)))) rfl (pick_f iB rfl)) rfl ?_
             refine EL_at (.bool false) rfl rfl ?_
             refine EL_nil ?_
             obtain rfl := sinj h
             exact hQ _ _ ⟨k9, hfr, rfl⟩
           ·refine EL_s rfl rfl d7 rfl rfl ?_
            refine EL_s rfl rfl d7 rfl rfl ?_
            refine EL_s rfl rfl d7 rfl rfl ?_
            refine EL_p (.bool false) (P_pick (b := (o0.2 == (9 : Int))) rfl (pick_f d7 rfl)) rfl ?_
            refine EL_dead 3 rfl ?_
            refine EL_at (.bool false) rfl rfl ?_
            refine EL_nil ?_
            obtain rfl := sinj h
            exact hQ _ _ ⟨k9, hfr, rfl⟩
          ·refine EL_s rfl rfl r8 rfl rfl ?_
           refine EL_s rfl rfl r8 rfl rfl ?_
           refine EL_p (.bool false) (P_pick (b := (!u3.1)) rfl (pick_f r8 rfl)) rfl ?_
           refine EL_dead 8 rfl ?_
           refine EL_at (.bool false) rfl rfl ?_
           refine EL_nil ?_
           obtain rfl := sinj h
           exact hQ _ _ ⟨k9, hfr, rfl⟩
         ·clear hx
          obtain ⟨vN, hfr, hG⟩ := hR
          refine E_ret (thn_r ?_)
          obtain rfl := sinj h
          exact end1 rfl rfl (show _ = .bool (n9) from hG) ⟨_, hfr, rfl⟩
        ·refine E_cf bD rfl ?_
         exact E_skip (thn_n (bI () _ _ ⟨k9, hfr, sD, tD, dB, uD, rfl, eG⟩ h))
       ·rintro _ mM xN ⟨cD, hfr, jB, vD, iG, yB, zB, oB⟩ h
        obtain ⟨l9, hx, h⟩ := bsome h
        refine E_join (fun e w => ∃ (g : Gh) , Fr gI wI g w ∧ e 2 = .bool (l9)) (fun Q' hQ => ?_) (fun nM yN hR => ?_)
        ·replace h := hx
         clear hx
         rcases csome h with ⟨x5, h⟩ | ⟨x5, h⟩
         ·rcases csome h with ⟨t5, h⟩ | ⟨t5, h⟩
          ·refine L_loadO0 (x := .tmp 7) Tryz.isAgg100 Tryz.sizeOf100 iG fun jG kG cF => ?_
           obtain ⟨m7, eD, h⟩ := bsome h
           have aK := PT_idx oB eD
           refine L_load (x := .tmp 110) Tryz.isAgg100 Tryz.sizeOf100 aK fun lG mG dF => ?_
           rcases csome h with ⟨lB, h⟩ | ⟨lB, h⟩
           ·obtain ⟨nB, jI, h⟩ := bsome h
            refine E_drawL (g := cD) (n := 17) [(14, (fun v g w => v = .bool (nB)))] [0, 1, 2, 3, 4, 5, 6, 7, 8, 9, 10, 11, 12, 13, 14, 15, 16] rfl mixed (by kernel_rfl) (⟨fun _ => up_eq _, trivial⟩) ?_
            refine L_p (.bool (u3.1)) rfl rfl (P_move jB) ?_
            refine L_p (.bool (!u3.1)) rfl rfl (P_not rfl) ?_
            refine L_p (.bool (!u3.1)) rfl rfl (P_move rfl) ?_
            refine L_y (.int .i64 (o0.2)) rfl rfl rfl rfl x5 (P_move yB) ?_
            refine L_y (.bool ((o0.2 == (0 : Int)))) rfl rfl rfl rfl x5 (P_int rfl rfl rfl) ?_
            refine L_p (.bool ((o0.2 == (0 : Int)))) rfl rfl (P_pick (b := (!u3.1)) rfl (pick_t x5 rfl)) ?_
            refine L_p (.bool ((o0.2 == (0 : Int)))) rfl rfl (P_move rfl) ?_
            refine L_ld (c := jG) rfl rfl (.yes2 rfl rfl t5) (fun _ _ h => ⟨h.ch, fun b hb _ => h.below.block b hb⟩) cF vD ?_
            refine L_y a9 rfl rfl rfl rfl t5 (P_move zB) ?_
            refine L_y (ePtr a9 (0 : Int) 4) rfl rfl rfl rfl t5 (P_indexAddr (α := PayEntry) Tryz.underlying110 Tryz.sizeOf100 rfl oB rfl eD) ?_
            refine L_ld (c := lG) rfl rfl (.yes2 rfl rfl t5) (fun _ _ h => h.ch) dF rfl ?_
            refine L_y (.bool ((decide (o0.1 = m7)))) rfl rfl rfl rfl t5 (P_seq seq_100 rfl eg_100 rfl rfl kG mG) ?_
            refine L_p (.bool ((decide (o0.1 = m7)))) rfl rfl (P_pick (b := (o0.2 == (0 : Int))) rfl (pick_t t5 rfl)) ?_
            refine L_p (.bool ((decide (o0.1 = m7)))) rfl rfl (P_move rfl) ?_
            refine L_do (φ := fun v g w => v = .bool (nB)) rfl rfl (.yes2 rfl rfl lB) (fun g w hd => D_call (g := g) (vs := []) en12 .nil (wk12  jI) fun g' w' v hs hr => ⟨g', hs, hr⟩) (fun zN hv => ?_)
            obtain ⟨_, _, _, rfl⟩ := hv
            refine L_p (.bool (nB)) rfl rfl (P_pick (b := (decide (o0.1 = m7))) rfl (pick_t lB rfl)) ?_
            refine L_p (.bool (nB)) rfl rfl (P_assign rfl) ?_
            refine L_nl fun bK aO hs => ?_
            have hfr := hfr.ext hs
            clear hs
            refine EL_nil ?_
            obtain rfl := sinj h
            exact hQ _ _ ⟨bK, hfr, rfl⟩
           ·refine E_drawL (g := cD) (n := 17) [] [0, 1, 2, 3, 4, 5, 6, 7, 8, 9, 10, 11, 12, 13, 14, 15, 16] rfl mixed (by kernel_rfl) trivial ?_
            refine L_p (.bool (u3.1)) rfl rfl (P_move jB) ?_
            refine L_p (.bool (!u3.1)) rfl rfl (P_not rfl) ?_
            refine L_p (.bool (!u3.1)) rfl rfl (P_move rfl) ?_
            refine L_y (.int .i64 (o0.2)) rfl rfl rfl rfl x5 (P_move yB) ?_
            refine L_y (.bool ((o0.2 == (0 : Int)))) rfl rfl rfl rfl x5 (P_int rfl rfl rfl) ?_
            refine L_p (.bool ((o0.2 == (0 : Int)))) rfl rfl (P_pick (b := (!u3.1)) rfl (pick_t x5 rfl)) ?_
            refine L_p (.bool ((o0.2 == (0 : Int)))) rfl rfl (P_move rfl) ?_
            refine L_ld (c := jG) rfl rfl (.yes2 rfl rfl t5) (fun _ _ h => ⟨h.ch, fun b hb _ => h.below.block b hb⟩) cF vD ?_
            refine L_y a9 rfl rfl rfl rfl t5 (P_move zB) ?_
            refine L_y (ePtr a9 (0 : Int) 4) rfl rfl rfl rfl t5 (P_indexAddr (α := PayEntry) Tryz.underlying110 Tryz.sizeOf100 rfl oB rfl eD) ?_
            refine L_ld (c := lG) rfl rfl (.yes2 rfl rfl t5) (fun _ _ h => h.ch) dF rfl ?_
            refine L_y (.bool ((decide (o0.1 = m7)))) rfl rfl rfl rfl t5 (P_seq seq_100 rfl eg_100 rfl rfl kG mG) ?_
            refine L_p (.bool ((decide (o0.1 = m7)))) rfl rfl (P_pick (b := (o0.2 == (0 : Int))) rfl (pick_t t5 rfl)) ?_
            refine L_p (.bool ((decide (o0.1 = m7)))) rfl rfl (P_move rfl) ?_
            refine L_s rfl rfl rfl lB rfl ?_
            refine L_p (.bool false) rfl rfl (P_pick (b := (decide (o0.1 = m7))) rfl (pick_f lB rfl)) ?_
            refine L_p (.bool false) rfl rfl (P_assign rfl) ?_
            refine L_nl fun cK bO hs => ?_
            have hfr := hfr.ext hs
            clear hs
            refine EL_nil ?_
            obtain rfl := sinj h
            exact hQ _ _ ⟨cK, hfr, rfl⟩
          ·refine E_drawL (g := cD) (n := 17) [] [0, 1, 2, 3, 4, 5, 6, 7, 8, 9, 10, 11, 12, 13, 14, 15, 16] rfl mixed (by kernel_rfl) trivial ?_
           refine L_p (.bool (u3.1)) rfl rfl (P_move jB) ?_
           refine L_p (.bool (!u3.1)) rfl rfl (P_not rfl) ?_
           refine L_p (.bool (!u3.1)) rfl rfl (P_move rfl) ?_
           refine L_y (.int .i64 (o0.2)) rfl rfl rfl rfl x5 (P_move yB) ?_
           refine L_y (.bool ((o0.2 == (0 : Int)))) rfl rfl rfl rfl x5 (P_int rfl rfl rfl) ?_
           refine L_p (.bool ((o0.2 == (0 : Int)))) rfl rfl (P_pick (b := (!u3.1)) rfl (pick_t x5 rfl)) ?_
           refine L_p (.bool ((o0.2 == (0 : Int)))) rfl rfl (P_move rfl) ?_
           iterate 5 refine L_s rfl rfl rfl t5 rfl ?_
           refine L_p (.bool false) rfl rfl (P_pick (b := (o0.2 == (0 : Int))) rfl (pick_f t5 rfl)) ?_
           refine L_dead (fun _ => rfl) 3 rfl ?_
           refine L_p (.bool false) rfl rfl (P_assign rfl) ?_
           refine L_nl fun dK cO hs => ?_
           have hfr := hfr.ext hs
           clear hs
           refine EL_nil ?_
           obtain rfl := sinj h
           exact hQ _ _ ⟨dK, hfr, rfl⟩
         ·refine E_drawL (g := cD) (n := 17) [] [0, 1, 2, 3, 4, 5, 6, 7, 8, 9, 10, 11, 12, 13, 14, 15, 16] rfl mixed (by kernel_rfl) trivial ?_
          refine L_p (.bool (u3.1)) rfl rfl (P_move jB) ?_
          refine L_p (.bool (!u3.1)) rfl rfl (P_not rfl) ?_
          refine L_p (.bool (!u3.1)) rfl rfl (P_move rfl) ?_
          refine L_s rfl rfl rfl x5 rfl ?_
          refine L_s rfl rfl rfl x5 rfl ?_
          refine L_p (.bool false) rfl rfl (P_pick (b := (!u3.1)) rfl (pick_f x5 rfl)) ?_
          refine L_dead (fun _ => rfl) 10 rfl ?_
          refine L_p (.bool false) rfl rfl (P_assign rfl) ?_
          refine L_nl fun lK dO hs => ?_
          have hfr := hfr.ext hs
          clear hs
          refine EL_nil ?_
          obtain rfl := sinj h
          exact hQ _ _ ⟨lK, hfr, rfl⟩
        ·clear hx
         obtain ⟨eO, hfr, nG⟩ := hR
         refine E_ret ?_
         obtain rfl := sinj h
         exact end1 rfl rfl (show _ = .bool (l9) from nG) ⟨_, hfr, rfl⟩
end Go.Proofs.YtkmbkaoolacofaaGreat
