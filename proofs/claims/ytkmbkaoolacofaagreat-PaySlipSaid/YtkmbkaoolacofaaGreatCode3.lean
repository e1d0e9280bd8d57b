import Derived.Test.YtkmbkaoolacofaaGreatCode2
set_option maxRecDepth 8000
set_option maxHeartbeats 4000000
namespace Go.Proofs.YtkmbkaoolacofaaGreat
open Go.RowKit
def f35 (x0 : PayTable) : Option (PayTable) :=
 (f62 x0).bind fun y5 =>
 some (y5)
theorem en35 : Enters Tryz.prog 35 := enters_of Tryz.func35 (by kernel_rfl) rfl
theorem wk35 {gI : Gh} {wI : World} {x0 : PayTable} {up0 : Value} (rp0 : RV gI.m wI x0 up0) {r : PayTable} (h : f35 x0 = some r) : Fn Tryz.prog 35 #[up0] gI wI (fun m w v => RV m w (r) v) := by
 unfold f35 at h
 refine fn_of_E Tryz.func35 rfl (Nat.le_of_ble_eq_true rfl) fun g0 hm hfr => ?_
 have rp0 : RV g0.m wI x0 up0 := hm ▸ rp0
 show E _ 5 none _ _ _ _ _
 refine E_seq (E_region (EL_do .plain rfl (D_box (g := g0) rfl rp0 fun g1 w1 p1 hs q1 => ?_)))
 have hfr := hfr.ext hs
 refine EL_do .plain rfl (D_allocOc (g := g1) 2002 (⟨[], [], [], 0⟩ : PayTable) Tryz.zeroValue58 (fun m w => ⟨_, (rep_two rep_nil (rep_two rep_nil (rep_two rep_nil rep_int))), rfl⟩) fun g2 w2 p2 hs b2 cb => ?_)
 have hfr := hfr.stp hs
 have q1 := q1.stp hs
 have o0 : OSF 2002 60200 0 g2 w2 23 58 ([] : List (List Int)) p2 := cb.osf (by rfl)
 have u3 : OSF 2002 60201 1 g2 w2 3 58 ([] : List Int) p2 := cb.osf (by rfl)
 have l5 : OSF 2002 60202 2 g2 w2 3 58 ([] : List Int) p2 := cb.osf (by rfl)
 clear cb
 refine EL_nil (thn_n (E_seq (E_region (EL_do .plain rfl (D_load (g := g2) Tryz.isAgg58 Tryz.sizeOf58 rfl q1 fun v3 r3 => ?_)))))
 obtain ⟨y5, hy5, h⟩ := bsome h
 refine EL_do .plain rfl (D_call (g := g2) (vs := [v3]) en62 (.cons rfl .nil) (wk62 r3 hy5) fun g4 w4_ v4 hs hr => ?_)
 have hfr := hfr.ext hs
 have b2 := b2.ext hs
 have r4 := hr
 refine EL_do .plain rfl (D_storeOc (g := g4) (v := v4) Tryz.sizeOf58 rfl b2 rfl r4 fun g6 w6 hs b6 cb => ?_)
 clear cb
 have hfr := hfr.stp hs
 refine EL_nil (thn_n (E_ret ?_))
 obtain rfl := sinj h
 obtain ⟨ad7, cv7, hp7, hl7, cr7⟩ := ob_read Tryz.isAgg58 Tryz.sizeOf58 b6
 exact endm_c rfl rfl ((show _ = p2 from rfl).trans hp7) hl7 ⟨_, hfr, cr7⟩
theorem W35 {iO : Nat} {gI : Gh} {wI : World} {x0 : PayTable} {up0 : Value} (rp0 : RV gI.m wI x0 up0) {r : PayTable} (h : f35 x0 = some r) : FnG Tryz.prog 35 #[up0] gI wI (fun g w v => OWx ow_PayTable iO g w r v) := by
 unfold f35 at h
 refine fnG_of_E Tryz.func35 rfl (Nat.le_of_ble_eq_true rfl) fun g0 hm hfr => ?_
 have rp0 : RV g0.m wI x0 up0 := hm ▸ rp0
 show E _ 5 none _ _ _ _ _
 refine E_seq (E_region (EL_do .plain rfl (D_box (g := g0) rfl rp0 fun g1 w1 p1 hs q1 => ?_)))
 have hfr := hfr.ext hs
 refine EL_do .plain rfl (D_allocOc (g := g1) 2002 (⟨[], [], [], 0⟩ : PayTable) Tryz.zeroValue58 (fun m w => ⟨_, (rep_two rep_nil (rep_two rep_nil (rep_two rep_nil rep_int))), rfl⟩) fun g2 w2 p2 hs b2 cb => ?_)
 have hfr := hfr.stp hs
 have q1 := q1.stp hs
 have o0 : OSF 2002 60200 0 g2 w2 23 58 ([] : List (List Int)) p2 := cb.osf (by rfl)
 have u3 : OSF 2002 60201 1 g2 w2 3 58 ([] : List Int) p2 := cb.osf (by rfl)
 have l5 : OSF 2002 60202 2 g2 w2 3 58 ([] : List Int) p2 := cb.osf (by rfl)
 clear cb
 refine EL_nil (thn_n (E_seq (E_region (EL_do .plain rfl (D_load (g := g2) Tryz.isAgg58 Tryz.sizeOf58 rfl q1 fun v3 r3 => ?_)))))
 obtain ⟨y5, hy5, h⟩ := bsome h
 refine EL_do .plain rfl (D_callG (g := g2) (vs := [v3]) en62 (.cons rfl .nil) (W62 (iO := 4004) r3 hy5) fun g4 w4 v4 hs hm4 => ?_)
 have hfr := hfr.ext hs
 have b2 := b2.ext hs
 obtain ⟨sk4, ow4, ok4⟩ := hm4
 refine EL_do .plain rfl (D_storeOW (g := g4) Tryz.sizeOf58 rfl b2 rfl ow4 rfl fun gj6 g6 w6 bk6 hsa hsb hpp b6 => ?_)
 have hfr := hfr.stp hsa
 have hfr := hfr.stp hsb
 clear hsa hsb
 subst hpp
 refine EL_nil (thn_n (E_ret ?_))
 obtain rfl := sinj h
 obtain ⟨v7, hl7, ow7⟩ := OV.read (t := 58) Tryz.isAgg58 Tryz.sizeOf58 b6 rfl
 obtain ⟨gh, hxh, _, homh⟩ := OW.hand (i := iO) hfr ow7 ok4
 exact endm_c rfl rfl (show _ = (Value.pointer (some ⟨bk6, 0, none⟩)) from rfl) hl7 ⟨gh, hxh, homh⟩
def f67 (x0 : PaySheet) : Option ((List Int) × (List Int) × Int × Int) :=
 Option.bind (α := (List Int)) (
  lp (σ := (List Int) × Int) (fun aI (vB, u3) =>
   bif (decide (u3 < ((((x0).PayTable).Rows).length : Int))) then
    Option.bind (α := (List Int)) (
     (idx (((x0).PayTable).Rows) u3).bind fun y130 =>
     (f89 y130).bind fun i7 =>
     (idx (((x0).PayTable).Across) u3).bind fun m7 =>
     (apnd 8 vB (([(w64 (i7 - m7))] : List Int))).bind fun aE =>
     some (aE)
     ) fun r8 =>
    aI (r8, (w64 (u3 + (1 : Int))))
   else
    some (vB)
   ) big ([], (0 : Int))
  ) fun i6 =>
 Option.bind (α := (List Int)) (
  lp (σ := (List Int) × Int) (fun bE (rA, o0) =>
   bif (decide (o0 < ((((x0).PayTable).Down).length : Int))) then
    Option.bind (α := (List Int)) (
     (idx (((x0).PayTable).Down) o0).bind fun d9 =>
     (f97 x0 o0).bind fun iE =>
     (f89 iE).bind fun yA =>
     (apnd 8 rA (([(w64 (yA - d9))] : List Int))).bind fun lE =>
     some (lE)
     ) fun v8 =>
    bE (v8, (w64 (o0 + (1 : Int))))
   else
    some (rA)
   ) big ([], (0 : Int))
  ) fun n9 =>
 (f89 (((x0).PayTable).Across)).bind fun k9 =>
 (f89 (((x0).PayTable).Down)).bind fun l9 =>
 some (i6, n9, (w64 (k9 - ((x0).PayTable).Total)), (w64 (l9 - ((x0).PayTable).Total)))
theorem en67 : Enters Tryz.prog 67 := enters_of Tryz.func67 (by kernel_rfl) rfl
theorem wk67 {gI : Gh} {wI : World} {x0 : PaySheet} {up0 : Value} (rp0 : RV gI.m wI x0 up0) {r : (List Int) × (List Int) × Int × Int} (h : f67 x0 = some r) : Fn Tryz.prog 67 #[up0] gI wI (fun m w v => ∃ y0 y1 y2 y3, v = .tuple #[y0, y1, y2, y3] ∧ RV m w (r.1) y0 ∧ RV m w (r.2.1) y1 ∧ y2 = .int .i64 (r.2.2.1) ∧ y3 = .int .i64 (r.2.2.2)) := by
 unfold f67 at h
 refine fn_of_E Tryz.func67 rfl (Nat.le_of_ble_eq_true rfl) fun g0 hm hfr => ?_
 have rp0 : RV g0.m wI x0 up0 := hm ▸ rp0
 show E _ 69 none _ _ _ _ _
 refine E_seq (E_region (EL_do .plain rfl (D_box (g := g0) rfl rp0 fun g1 w1 p1 hs q1 => ?_)))
 have hfr := hfr.ext hs
 refine EL_at (.slice none 0 0) rfl rfl ?_
 refine EL_at (.slice none 0 0) rfl rfl ?_
 refine EL_at (.int .i64 (0)) rfl rfl ?_
 refine EL_at (.int .i64 (0)) rfl rfl ?_
 refine EL_nil (thn_n ?_)
 obtain ⟨i6, hx, h⟩ := bsome h
 refine E_join (fun e w => ∃ (g : Gh) (v2 : Value), Fr gI wI g w ∧ e 1 = p1 ∧ PT g.m w (x0 : PaySheet) p1 ∧ e 2 = v2 ∧ RV g.m w (i6 : List Int) v2 ∧ OS 1002 g w 3 (i6 : List Int) v2 ∧ e 3 = .slice none 0 0 ∧ RV g.m w ([] : List Int) (Value.slice none 0 0)) (fun Q' hQ => ?_) (fun nK vK hR => ?_)
 ·replace h := hx
  clear hx
  refine E_seq (E_region (EL_p (fPtr p1 0) (P_fieldAddr at_132_0 rfl (PT.ptr q1)) rfl ?_))
  have bI := PT_field (part_PaySheet_0).1 q1
  refine EL_p (fPtr (fPtr p1 0) 0) (P_fieldAddr at_58_0 rfl (PT.ptr bI)) rfl ?_
  have dK := PT_field (part_PayTable_0).1 bI
  refine EL_do .plain rfl (D_load (g := g1) Tryz.isAgg56 Tryz.sizeOf56 rfl dK fun mC dI => ?_)
  refine EL_p (.int .i64 ((((x0).PayTable).Rows).length : Int)) (P_len Tryz.underlying56 rfl dI) rfl ?_
  refine EL_mw (.int .i64 (0)) rfl rfl ?_
  refine EL_nil (thn_n (E_block ?_))
  refine E_lp h (fun (s : (List Int) × Int) e w => ∃ (g : Gh) (v2 : Value), Fr gI wI g w ∧ e 1 = p1 ∧ PT g.m w (x0 : PaySheet) p1 ∧ e 2 = v2 ∧ RV g.m w (s.1 : List Int) v2 ∧ OS 1002 g w 3 (s.1 : List Int) v2 ∧ e 3 = .slice none 0 0 ∧ RV g.m w ([] : List Int) (Value.slice none 0 0) ∧ e 12 = mC ∧ RV g.m w (((x0).PayTable).Rows : List (List Int)) mC ∧ e 13 = .int .i64 (((((x0).PayTable).Rows).length : Int)) ∧ e 14 = .int .i64 (s.2)) ⟨g1, (.slice none 0 0), hfr, rfl, q1, rfl, RV_nil, OS.nil, rfl, RV_nil, rfl, dI, rfl, rfl⟩ (fun X89 aI iI => ?_)
  rintro ⟨vB, u3⟩ xK xL ⟨mE, eD, hfr, yB, n8, gD, bA, iA, iD, x8, qC, m8, rC, u9⟩ h
  refine E_seq (E_region (EL_p (.bool ((decide (u3 < ((((x0).PayTable).Rows).length : Int))))) (P_int u9 rC rfl) rfl ?_))
  refine EL_nil (thn_n (E_seq ?_))
  rcases csome h with ⟨bD, h⟩ | ⟨bD, h⟩
  ·refine E_ct bD rfl ?_
   refine E_skip (thn_n ?_)
   obtain ⟨r8, hx, h⟩ := bsome h
   refine E_join (fun e w => ∃ (g : Gh) (v2 : Value), Fr gI wI g w ∧ e 1 = p1 ∧ PT g.m w (x0 : PaySheet) p1 ∧ e 2 = v2 ∧ RV g.m w (r8 : List Int) v2 ∧ OS 1002 g w 3 (r8 : List Int) v2 ∧ e 3 = .slice none 0 0 ∧ RV g.m w ([] : List Int) (Value.slice none 0 0) ∧ e 12 = mC ∧ RV g.m w (((x0).PayTable).Rows : List (List Int)) mC ∧ e 13 = .int .i64 (((((x0).PayTable).Rows).length : Int)) ∧ e 14 = .int .i64 (u3)) (fun Q' hQ => ?_) (fun oK yK hR => ?_)
   ·replace h := hx
    clear hx
    refine E_block ?_
    refine E_seq (E_region (EL_mv u9 rfl ?_))
    obtain ⟨y130, jD, h⟩ := bsome h
    refine EL_p (ePtr mC u3 1) (P_indexAddr (α := List Int) Tryz.underlying56 Tryz.sizeOf23 qC m8 u9 jD) rfl ?_
    have jI := PT_idx m8 jD
    refine EL_do .plain rfl (D_load (g := mE) Tryz.isAgg23 Tryz.sizeOf23 rfl jI fun cD kI => ?_)
    refine EL_at (.int .i64 (u3)) rfl rfl ?_
    refine EL_at cD rfl rfl ?_
    refine EL_nil (thn_n ?_)
    obtain ⟨i7, jH, h⟩ := bsome h
    have nE := PT_field (part_PaySheet_0).1 n8
    have lI := PT_field (part_PayTable_1).1 nE
    refine L_load (x := .tmp 23) Tryz.isAgg23 Tryz.sizeOf23 lI fun oE rE kH => ?_
    obtain ⟨m7, lD, h⟩ := bsome h
    have mI := PT_idx rE lD
    refine L_load (x := .tmp 26) Tryz.isAgg3 Tryz.sizeOf3 mI fun zK nI lH => ?_
    obtain rfl := RV_int.1 nI
    refine E_drawL (g := mE) (n := 11) [(2, (fun v g w => v = .int .i64 (i7))), (10, (fun v g w => RV g.m w ([(w64 (i7 - m7))] : List Int) v ∧ OS 3029 g w 3 ([(w64 (i7 - m7))] : List Int) v ∧ FullV v))] [0, 1, 2, 3, 4, 5, 6, 7, 8, 9, 10] rfl mixed (by kernel_rfl) (⟨fun _ => up_eq _, fun _ => up_and up_rv (up_and up_os (up_eq _)), trivial⟩) ?_
    refine L_p eD rfl rfl (P_move gD) ?_
    refine L_p cD rfl rfl (P_move rfl) ?_
    refine L_do (φ := fun v g w => v = .int .i64 (i7)) rfl rfl .plain (fun g w hd => D_call (g := g) (vs := [cD]) en89 (.cons rfl .nil) (wk89 (kI.ext hd.1) jH) fun g' w' v hs hr => ⟨g', hs, hr⟩) (fun aL hv => ?_)
    obtain ⟨_, _, _, rfl⟩ := hv
    refine L_p (fPtr p1 0) rfl rfl (P_fieldAddr at_132_0 yB (PT.ptr n8)) ?_
    refine L_p (fPtr (fPtr p1 0) 1) rfl rfl (P_fieldAddr at_58_1 rfl (PT.ptr nE)) ?_
    refine L_ld (c := oE) rfl rfl .plain (fun _ _ h => h.ch) kH rfl ?_
    refine L_p (.int .i64 (u3)) rfl rfl (P_move rfl) ?_
    refine L_p (ePtr oE u3 1) rfl rfl (P_indexAddr (α := Int) Tryz.underlying23 Tryz.sizeOf3 rfl rE rfl lD) ?_
    refine L_ld (c := .int .i64 (m7)) rfl rfl .plain (fun _ _ h => h.ch) lH rfl ?_
    refine L_p (.int .i64 ((w64 (i7 - m7)))) rfl rfl (P_int rfl rfl rfl) ?_
    refine L_do (φ := fun v g w => RV g.m w ([(w64 (i7 - m7))] : List Int) v ∧ OS 3029 g w 3 ([(w64 (i7 - m7))] : List Int) v ∧ FullV v) rfl rfl .plain (fun g w hd => D_buildSlice (g := g) 3029 (xs := ([(w64 (i7 - m7))] : List Int)) (vs := [.int .i64 ((w64 (i7 - m7)))]) Tryz.underlying23 Tryz.sizeOf3 Tryz.zeroValue3 rfl rfl (.cons rfl .nil) (RVs.cons (RV_int.2 rfl) RVs.nil) rfl rfl fun g' w' v hs o r hxt hfl => ⟨g', hxt, r, o, hfl⟩) (fun z9 hv => ?_)
    clear hv
    refine L_nil fun pI bL hall => ?_
    have hs := hall.1
    have hfr := hfr.ext hs
    have n8 := n8.ext hs
    have bA := bA.ext hs
    have iA := iA.ext hs
    have x8 := x8.ext hs
    have m8 := m8.ext hs
    have qI := (word_all (A := fun g w => RV g.m w ([(w64 (i7 - m7))] : List Int) z9 ∧ OS 3029 g w 3 ([(w64 (i7 - m7))] : List Int) z9 ∧ FullV z9) 10 rfl hall).1
    have o165 := (word_all (A := fun g w => RV g.m w ([(w64 (i7 - m7))] : List Int) z9 ∧ OS 3029 g w 3 ([(w64 (i7 - m7))] : List Int) z9 ∧ FullV z9) 10 rfl hall).2.1
    clear hs hall
    obtain ⟨aE, mH, h⟩ := bsome h
    refine EL_do .plain rfl (D_append (g := pI) (i := 1002) Tryz.underlying23 info_3 rfl rfl iA bA rfl qI mH fun sI dL uE hs o166 tI _ => ?_)
    have hfr := hfr.stp hs
    have n8 := n8.stp hs
    have x8 := x8.stp hs
    have m8 := m8.stp hs
    refine EL_at uE rfl rfl ?_
    refine EL_nil (blk_n ?_)
    obtain rfl := sinj h
    exact hQ _ _ ⟨sI, (uE), hfr, yB, n8, rfl, tI, o166, iD, x8, qC, m8, rC, u9⟩
   ·clear hx
    obtain ⟨uI, vE, hfr, xE, yE, zE, cF, dF, eF, rF, oD, sD, tD, uD⟩ := hR
    refine E_region (EL_in (.int .i64 ((w64 (u3 + (1 : Int))))) uD rfl rfl rfl ?_)
    refine EL_mw (.int .i64 ((w64 (u3 + (1 : Int))))) rfl rfl ?_
    exact EL_nil (thn_n (iI (r8, (w64 (u3 + (1 : Int)))) _ _ ⟨uI, (vE), hfr, xE, yE, zE, cF, dF, eF, rF, oD, sD, tD, rfl⟩ h))
  ·refine E_cf bD rfl ?_
   refine E_exit ?_
   refine thn_e ?_
   refine thn_e ?_
   refine blk_hit ?_
   obtain rfl := sinj h
   exact hQ _ _ ⟨mE, (eD), hfr, yB, n8, gD, bA, iA, iD, x8⟩
 ·clear hx
  obtain ⟨sF, t5, hfr, uC, aB, tF, uF, vF, xF, yF⟩ := hR
  obtain ⟨n9, hx, h⟩ := bsome h
  refine E_join (fun e w => ∃ (g : Gh) (v3 : Value), Fr gI wI g w ∧ e 1 = p1 ∧ PT g.m w (x0 : PaySheet) p1 ∧ e 2 = t5 ∧ RV g.m w (i6 : List Int) t5 ∧ OS 1002 g w 3 (i6 : List Int) t5 ∧ e 3 = v3 ∧ RV g.m w (n9 : List Int) v3 ∧ OS 1003 g w 3 (n9 : List Int) v3) (fun Q' hQ => ?_) (fun pK eL hR => ?_)
  ·replace h := hx
   clear hx
   refine E_seq (E_region (EL_p (fPtr p1 0) (P_fieldAddr at_132_0 uC (PT.ptr aB)) rfl ?_))
   have zF := PT_field (part_PaySheet_0).1 aB
   refine EL_p (fPtr (fPtr p1 0) 2) (P_fieldAddr at_58_2 rfl (PT.ptr zF)) rfl ?_
   have vI := PT_field (part_PayTable_2).1 zF
   refine EL_do .plain rfl (D_load (g := sF) Tryz.isAgg23 Tryz.sizeOf23 rfl vI fun dB aG => ?_)
   refine EL_p (.int .i64 ((((x0).PayTable).Down).length : Int)) (P_len Tryz.underlying23 rfl aG) rfl ?_
   refine EL_mw (.int .i64 (0)) rfl rfl ?_
   refine EL_nil (thn_n (E_block ?_))
   refine E_lp h (fun (s : (List Int) × Int) e w => ∃ (g : Gh) (v3 : Value), Fr gI wI g w ∧ e 1 = p1 ∧ PT g.m w (x0 : PaySheet) p1 ∧ e 2 = t5 ∧ RV g.m w (i6 : List Int) t5 ∧ OS 1002 g w 3 (i6 : List Int) t5 ∧ e 3 = v3 ∧ RV g.m w (s.1 : List Int) v3 ∧ OS 1003 g w 3 (s.1 : List Int) v3 ∧ e 34 = dB ∧ RV g.m w (((x0).PayTable).Down : List Int) dB ∧ e 35 = .int .i64 (((((x0).PayTable).Down).length : Int)) ∧ e 36 = .int .i64 (s.2)) ⟨sF, (.slice none 0 0), hfr, uC, aB, tF, uF, vF, xF, yF, OS.nil, rfl, aG, rfl, rfl⟩ (fun X202 bE nH => ?_)
   rintro ⟨rA, o0⟩ qK gL ⟨zB, bG, hfr, iB, x5, vC, x6, y6, aD, g8, k8, oB, l5, tB, a9⟩ h
   refine E_seq (E_region (EL_p (.bool ((decide (o0 < ((((x0).PayTable).Down).length : Int))))) (P_int a9 tB rfl) rfl ?_))
   refine EL_nil (thn_n (E_seq ?_))
   rcases csome h with ⟨cC, h⟩ | ⟨cC, h⟩
   ·refine E_ct cC rfl ?_
    refine E_skip (thn_n ?_)
    obtain ⟨v8, hx, h⟩ := bsome h
    refine E_join (fun e w => ∃ (g : Gh) (v3 : Value), Fr gI wI g w ∧ e 1 = p1 ∧ PT g.m w (x0 : PaySheet) p1 ∧ e 2 = t5 ∧ RV g.m w (i6 : List Int) t5 ∧ OS 1002 g w 3 (i6 : List Int) t5 ∧ e 3 = v3 ∧ RV g.m w (v8 : List Int) v3 ∧ OS 1003 g w 3 (v8 : List Int) v3 ∧ e 34 = dB ∧ RV g.m w (((x0).PayTable).Down : List Int) dB ∧ e 35 = .int .i64 (((((x0).PayTable).Down).length : Int)) ∧ e 36 = .int .i64 (o0)) (fun Q' hQ => ?_) (fun sK iL hR => ?_)
    ·replace h := hx
     clear hx
     refine E_block ?_
     refine E_seq (E_region (EL_mv a9 rfl ?_))
     obtain ⟨d9, nD, h⟩ := bsome h
     refine EL_p (ePtr dB o0 1) (P_indexAddr (α := Int) Tryz.underlying23 Tryz.sizeOf3 oB l5 a9 nD) rfl ?_
     have yI := PT_idx l5 nD
     refine EL_do .plain rfl (D_load (g := zB) Tryz.isAgg3 Tryz.sizeOf3 rfl yI fun jL zI => ?_)
     obtain rfl := RV_int.1 zI
     refine EL_at (.int .i64 (o0)) rfl rfl ?_
     refine EL_at (.int .i64 (d9)) rfl rfl ?_
     refine EL_nil (thn_n (E_region (EL_mv aD rfl ?_)))
     refine EL_do .plain rfl (D_load (g := zB) Tryz.isAgg132 Tryz.sizeOf132 iB x5 fun eJ gJ => ?_)
     refine EL_mw (.int .i64 (o0)) rfl rfl ?_
     obtain ⟨iE, oH, h⟩ := bsome h
     refine EL_do .plain rfl (D_call (g := zB) (vs := [eJ, .int .i64 (o0)]) en97 (.cons rfl (.cons rfl .nil)) (wk97 gJ oH) fun iJ tK jJ hs hr => ?_)
     have hfr := hfr.ext hs
     have x5 := x5.ext hs
     have x6 := x6.ext hs
     have y6 := y6.ext hs
     have g8 := g8.ext hs
     have k8 := k8.ext hs
     have l5 := l5.ext hs
     have kJ := hr
     obtain ⟨yA, pH, h⟩ := bsome h
     refine EL_do .plain rfl (D_call (g := iJ) (vs := [jJ]) en89 (.cons rfl .nil) (wk89 kJ pH) fun lJ uK lL hs hr => ?_)
     have hfr := hfr.ext hs
     have x5 := x5.ext hs
     have x6 := x6.ext hs
     have y6 := y6.ext hs
     have g8 := g8.ext hs
     have k8 := k8.ext hs
     have l5 := l5.ext hs
     subst hr
     refine EL_mw (.int .i64 (d9)) rfl rfl ?_
     refine EL_in (.int .i64 ((w64 (yA - d9)))) rfl rfl rfl rfl ?_
     refine EL_do .plain rfl (D_buildSlice (g := lJ) 3048 (xs := ([(w64 (yA - d9))] : List Int)) (vs := [.int .i64 ((w64 (yA - d9)))]) Tryz.underlying23 Tryz.sizeOf3 Tryz.zeroValue3 rfl rfl (.cons rfl .nil) (RVs.cons (RV_int.2 rfl) RVs.nil) rfl rfl fun mJ mL nL hs o224 nJ hxt hfl => ?_)
     have hfr := hfr.stp hs
     have x5 := x5.stp hs
     have x6 := x6.stp hs
     have y6 := y6.stp hs rfl
     have g8 := g8.stp hs
     have k8 := k8.stp hs rfl
     have l5 := l5.stp hs
     obtain ⟨lE, qH, h⟩ := bsome h
     refine EL_do .plain rfl (D_append (g := mJ) (i := 1003) Tryz.underlying23 info_3 rfl rfl k8 g8 rfl nJ qH fun oJ oL cG hs o225 pJ _ => ?_)
     have hfr := hfr.stp hs
     have x5 := x5.stp hs
     have x6 := x6.stp hs
     have y6 := y6.stp hs rfl
     have l5 := l5.stp hs
     refine EL_at cG rfl rfl ?_
     refine EL_nil (blk_n ?_)
     obtain rfl := sinj h
     exact hQ _ _ ⟨oJ, (cG), hfr, iB, x5, vC, x6, y6, rfl, pJ, o225, oB, l5, tB, a9⟩
    ·clear hx
     obtain ⟨qJ, eG, hfr, gG, hG, iG, jG, kG, lG, mG, sG, vD, xD, yD, zD⟩ := hR
     refine E_region (EL_in (.int .i64 ((w64 (o0 + (1 : Int))))) zD rfl rfl rfl ?_)
     refine EL_mw (.int .i64 ((w64 (o0 + (1 : Int))))) rfl rfl ?_
     exact EL_nil (thn_n (nH (v8, (w64 (o0 + (1 : Int)))) _ _ ⟨qJ, (eG), hfr, gG, hG, iG, jG, kG, lG, mG, sG, vD, xD, yD, rfl⟩ h))
   ·refine E_cf cC rfl ?_
    refine E_exit ?_
    refine thn_e ?_
    refine thn_e ?_
    refine blk_hit ?_
    obtain rfl := sinj h
    exact hQ _ _ ⟨zB, (bG), hfr, iB, x5, vC, x6, y6, aD, g8, k8⟩
  ·clear hx
   obtain ⟨rJ, lB, hfr, y9, l8, xG, mB, lK, yG, nB, mK⟩ := hR
   refine E_seq ?_
   have zG := PT_field (part_PaySheet_0).1 l8
   have sJ := PT_field (part_PayTable_1).1 zG
   refine L_load (x := .tmp 54) Tryz.isAgg23 Tryz.sizeOf23 sJ fun aH vJ sH => ?_
   obtain ⟨k9, tH, h⟩ := bsome h
   have cH := PT_field (part_PaySheet_0).1 l8
   have xJ := PT_field (part_PayTable_3).1 cH
   refine L_load (x := .tmp 58) Tryz.isAgg3 Tryz.sizeOf3 xJ fun pL yJ uH => ?_
   obtain rfl := RV_int.1 yJ
   have dH := PT_field (part_PaySheet_0).1 l8
   have zJ := PT_field (part_PayTable_2).1 dH
   refine L_load (x := .tmp 62) Tryz.isAgg23 Tryz.sizeOf23 zJ fun gH aK xH => ?_
   obtain ⟨l9, yH, h⟩ := bsome h
   have iH := PT_field (part_PaySheet_0).1 l8
   have bK := PT_field (part_PayTable_3).1 iH
   refine L_load (x := .tmp 66) Tryz.isAgg3 Tryz.sizeOf3 bK fun qL cK zH => ?_
   obtain rfl := RV_int.1 cK
   refine E_drawL (g := rJ) (n := 22) [(5, (fun v g w => v = .int .i64 (k9))), (13, (fun v g w => v = .int .i64 (l9)))] [0, 1, 2, 3, 4, 5, 6, 7, 8, 9, 10, 11, 12, 13, 14, 15, 16, 17, 18, 19, 20, 21] rfl mixed (by kernel_rfl) (⟨fun _ => up_eq _, fun _ => up_eq _, trivial⟩) ?_
   refine L_p t5 rfl rfl (P_move xG) ?_
   refine L_p lB rfl rfl (P_move yG) ?_
   refine L_p (fPtr p1 0) rfl rfl (P_fieldAddr at_132_0 y9 (PT.ptr l8)) ?_
   refine L_p (fPtr (fPtr p1 0) 1) rfl rfl (P_fieldAddr at_58_1 rfl (PT.ptr zG)) ?_
   refine L_ld (c := aH) rfl rfl .plain (fun _ _ h => h.ch) sH rfl ?_
   refine L_do (φ := fun v g w => v = .int .i64 (k9)) rfl rfl .plain (fun g w hd => D_call (g := g) (vs := [aH]) en89 (.cons rfl .nil) (wk89 (vJ.ext hd.1) tH) fun g' w' v hs hr => ⟨g', hs, hr⟩) (fun rL hv => ?_)
   obtain ⟨_, _, _, rfl⟩ := hv
   refine L_p (fPtr p1 0) rfl rfl (P_fieldAddr at_132_0 y9 (PT.ptr l8)) ?_
   refine L_p (fPtr (fPtr p1 0) 3) rfl rfl (P_fieldAddr at_58_3 rfl (PT.ptr cH)) ?_
   refine L_ld (c := .int .i64 (((x0).PayTable).Total)) rfl rfl .plain (fun _ _ h => h.ch) uH rfl ?_
   refine L_p (.int .i64 ((w64 (k9 - ((x0).PayTable).Total)))) rfl rfl (P_int rfl rfl rfl) ?_
   refine L_p (fPtr p1 0) rfl rfl (P_fieldAddr at_132_0 y9 (PT.ptr l8)) ?_
   refine L_p (fPtr (fPtr p1 0) 2) rfl rfl (P_fieldAddr at_58_2 rfl (PT.ptr dH)) ?_
   refine L_ld (c := gH) rfl rfl .plain (fun _ _ h => h.ch) xH rfl ?_
   refine L_do (φ := fun v g w => v = .int .i64 (l9)) rfl rfl .plain (fun g w hd => D_call (g := g) (vs := [gH]) en89 (.cons rfl .nil) (wk89 (aK.ext hd.1) yH) fun g' w' v hs hr => ⟨g', hs, hr⟩) (fun tL hv => ?_)
   obtain ⟨_, _, _, rfl⟩ := hv
   refine L_p (fPtr p1 0) rfl rfl (P_fieldAddr at_132_0 y9 (PT.ptr l8)) ?_
   refine L_p (fPtr (fPtr p1 0) 3) rfl rfl (P_fieldAddr at_58_3 rfl (PT.ptr iH)) ?_
   refine L_ld (c := .int .i64 (((x0).PayTable).Total)) rfl rfl .plain (fun _ _ h => h.ch) zH rfl ?_
   refine L_p (.int .i64 ((w64 (l9 - ((x0).PayTable).Total)))) rfl rfl (P_int rfl rfl rfl) ?_
   refine L_p t5 rfl rfl (P_assign rfl) ?_
   refine L_p lB rfl rfl (P_assign rfl) ?_
   refine L_p (.int .i64 ((w64 (k9 - ((x0).PayTable).Total)))) rfl rfl (P_assign rfl) ?_
   refine L_p (.int .i64 ((w64 (l9 - ((x0).PayTable).Total)))) rfl rfl (P_assign rfl) ?_
   refine L_nl fun uL vL hs => ?_
   have hfr := hfr.ext hs
   have mB := mB.ext hs
   have nB := nB.ext hs
   clear hs
   refine EL_nil (thn_n (E_ret ?_))
   obtain rfl := sinj h
   exact end4 rfl rfl (show _ = t5 from rfl) (show _ = lB from rfl) (show _ = .int .i64 ((w64 (k9 - ((x0).PayTable).Total))) from rfl) (show _ = .int .i64 ((w64 (l9 - ((x0).PayTable).Total))) from rfl) ⟨_, hfr, _, _, _, _, rfl, mB, nB, rfl, rfl⟩
def f68 (x0 : List Int) (x1 : Int → Option Bool) : Option (Bool) :=
 (f98 x0 x1).bind fun y2 =>
 some ((decide (y2 ≥ (0 : Int))))
theorem en68 : Enters Tryz.prog 68 := enters_of Tryz.func68 (by kernel_rfl) rfl
theorem wk68 {gI : Gh} {wI : World} {x0 : List Int} {x1 : Int → Option Bool} {up0 : Value} (rp0 : RV gI.m wI x0 up0) {up1 : Value} (rp1 : FnV1 Tryz.prog x1 up1 gI wI) {r : Bool} (h : f68 x0 x1 = some r) : Fn Tryz.prog 68 #[up0, up1] gI wI (fun _ _ v => v = .bool (r)) := by
 unfold f68 at h
 refine fn_of_E Tryz.func68 rfl (Nat.le_of_ble_eq_true rfl) fun g0 hm hfr => ?_
 have rp0 : RV g0.m wI x0 up0 := hm ▸ rp0
 obtain ⟨ff1, fa1, fc1, rfl, fen1, fcl1⟩ := rp1
 show E _ 9 none _ _ _ _ _
 refine E_seq (E_region (EL_at (.bool false) rfl rfl ?_))
 refine EL_nil (thn_n (E_seq (E_region (EL_mw up0 rfl rfl ?_))))
 refine EL_mw ((.func (.func ff1) fa1 fc1)) rfl rfl ?_
 obtain ⟨y2, hy2, h⟩ := bsome h
 refine EL_do .plain rfl (D_call (g := g0) (vs := [up0, (.func (.func ff1) fa1 fc1)]) en98 (.cons rfl (.cons rfl .nil)) (wk98 rp0 (FnV1.ch ⟨_, _, _, rfl, fen1, fcl1⟩ hfr.ch) hy2) fun g1 w1_ v1 hs hr => ?_)
 have hfr := hfr.ext hs
 subst hr
 refine EL_in (.bool ((decide (y2 ≥ (0 : Int))))) rfl rfl rfl rfl ?_
 refine EL_at (.bool ((decide (y2 ≥ (0 : Int))))) rfl rfl ?_
 refine EL_nil (thn_n (E_ret ?_))
 obtain rfl := sinj h
 exact end1 rfl rfl (show _ = .bool ((decide (y2 ≥ (0 : Int)))) from rfl) ⟨_, hfr, rfl⟩
def f69 (x0 : List (List Int)) : Option ((List Int)) :=
 Option.bind (α := Int) (
  lp (σ := Int × Int) (fun gD (l5, o0) =>
   bif (decide (o0 < ((x0).length : Int))) then
    Option.bind (α := Int) (
     (idx x0 o0).bind fun i6 =>
     bif (decide ((w64 (l5 + ((i6).length : Int))) < (0 : Int))) then
      none
     else
      some ((w64 (l5 + ((i6).length : Int))))
     ) fun x6 =>
    gD (x6, (w64 (o0 + (1 : Int))))
   else
    some (l5)
   ) big ((0 : Int), (0 : Int))
  ) fun y6 =>
 (f99 y6).bind fun iD =>
 Option.bind (α := (List Int)) (
  lp (σ := (List Int) × Int) (fun jD (l8, u3) =>
   bif (decide (u3 < ((x0).length : Int))) then
    Option.bind (α := (List Int)) (
     (idx x0 u3).bind fun lD =>
     (apnd 8 l8 lD).bind fun nD =>
     some (nD)
     ) fun x5 =>
    jD (x5, (w64 (u3 + (1 : Int))))
   else
    some (l8)
   ) big (iD, (0 : Int))
  ) fun i7 =>
 some (i7)
theorem en69 : Enters Tryz.prog 69 := enters_of Tryz.func69 (by kernel_rfl) rfl
theorem wk69 {gI : Gh} {wI : World} {x0 : List (List Int)} {up0 : Value} (rp0 : RV gI.m wI x0 up0) {r : (List Int)} (h : f69 x0 = some r) : Fn Tryz.prog 69 #[up0] gI wI (fun m w v => RV m w (r) v) := by
 unfold f69 at h
 refine fn_of_E Tryz.func69 rfl (Nat.le_of_ble_eq_true rfl) fun g0 hm hfr => ?_
 have rp0 : RV g0.m wI x0 up0 := hm ▸ rp0
 show E _ 36 none _ _ _ _ _
 refine E_seq (E_region (EL_at (.slice none 0 0) rfl rfl ?_))
 refine EL_nil (thn_n (E_seq (E_region (EL_at (.int .i64 (0)) rfl rfl ?_))))
 refine EL_nil (thn_n ?_)
 obtain ⟨y6, hx, h⟩ := bsome h
 refine E_join (fun e w => ∃ (g : Gh) , Fr gI wI g w ∧ e 0 = up0 ∧ RV g.m w (x0 : List (List Int)) up0 ∧ e 3 = .int .i64 (y6)) (fun Q' hQ => ?_) (fun zE tF hR => ?_)
 ·replace h := hx
  clear hx
  refine E_seq (E_region (EL_mw up0 rfl rfl ?_))
  refine EL_p (.int .i64 ((x0).length : Int)) (P_len Tryz.underlying56 rfl rp0) rfl ?_
  refine EL_mw (.int .i64 (0)) rfl rfl ?_
  refine EL_nil (thn_n (E_block ?_))
  refine E_lp h (fun (s : Int × Int) e w => ∃ (g : Gh) , Fr gI wI g w ∧ e 0 = up0 ∧ RV g.m w (x0 : List (List Int)) up0 ∧ e 3 = .int .i64 (s.1) ∧ e 9 = up0 ∧ RV g.m w (x0 : List (List Int)) up0 ∧ e 10 = .int .i64 (((x0).length : Int)) ∧ e 11 = .int .i64 (s.2)) ⟨g0, hfr, rfl, rp0, rfl, rfl, rp0, rfl, rfl⟩ (fun X13 gD vD => ?_)
  rintro ⟨l5, o0⟩ cF uF ⟨rA, hfr, k9, l9, n9, u9, m8, n8, g8⟩ h
  refine E_seq (E_region (EL_in (.bool ((decide (o0 < ((x0).length : Int))))) g8 n8 rfl rfl ?_))
  refine EL_nil (thn_n (E_seq ?_))
  rcases csome h with ⟨x8, h⟩ | ⟨x8, h⟩
  ·refine E_ct x8 rfl ?_
   refine E_skip (thn_n ?_)
   obtain ⟨x6, hx, h⟩ := bsome h
   refine E_join (fun e w => ∃ (g : Gh) , Fr gI wI g w ∧ e 0 = up0 ∧ RV g.m w (x0 : List (List Int)) up0 ∧ e 3 = .int .i64 (x6) ∧ e 9 = up0 ∧ RV g.m w (x0 : List (List Int)) up0 ∧ e 10 = .int .i64 (((x0).length : Int)) ∧ e 11 = .int .i64 (o0)) (fun Q' hQ => ?_) (fun dF vF hR => ?_)
   ·replace h := hx
    clear hx
    refine E_block ?_
    refine E_seq (E_region ?_)
    obtain ⟨i6, hy20, h⟩ := bsome h
    refine EL_p (ePtr up0 o0 1) (P_indexAddr (α := List Int) Tryz.underlying56 Tryz.sizeOf23 u9 m8 g8 hy20) rfl ?_
    have aE := PT_idx m8 hy20
    refine EL_do .plain rfl (D_load (g := rA) Tryz.isAgg23 Tryz.sizeOf23 rfl aE fun oD bE => ?_)
    refine EL_at oD rfl rfl ?_
    refine EL_nil (thn_n (E_seq (E_region (EL_mv n9 rfl ?_))))
    refine EL_mw oD rfl rfl ?_
    refine EL_p (.int .i64 ((i6).length : Int)) (P_len Tryz.underlying23 rfl bE) rfl ?_
    refine EL_in (.int .i64 ((w64 (l5 + ((i6).length : Int))))) rfl rfl rfl rfl ?_
    refine EL_at (.int .i64 ((w64 (l5 + ((i6).length : Int))))) rfl rfl ?_
    refine EL_nil (thn_n (E_seq (E_region (EL_mw (.int .i64 ((w64 (l5 + ((i6).length : Int))))) rfl rfl ?_))))
    refine EL_p (.bool ((decide ((w64 (l5 + ((i6).length : Int))) < (0 : Int))))) (P_int rfl rfl rfl) rfl ?_
    refine EL_nil (thn_n ?_)
    rcases csome h with ⟨a9, h⟩ | ⟨a9, h⟩
    ·refine E_ct a9 rfl ?_
     refine E_region ?_
     cases h
    ·refine E_cf a9 rfl ?_
     refine E_skip (blk_n ?_)
     obtain rfl := sinj h
     exact hQ _ _ ⟨rA, hfr, k9, l9, rfl, u9, m8, n8, g8⟩
   ·clear hx
    obtain ⟨iE, hfr, tB, vB, yB, zB, cC, yA, aB⟩ := hR
    refine E_region (EL_in (.int .i64 ((w64 (o0 + (1 : Int))))) aB rfl rfl rfl ?_)
    refine EL_mw (.int .i64 ((w64 (o0 + (1 : Int))))) rfl rfl ?_
    exact EL_nil (thn_n (vD (x6, (w64 (o0 + (1 : Int)))) _ _ ⟨iE, hfr, tB, vB, yB, zB, cC, yA, rfl⟩ h))
  ·refine E_cf x8 rfl ?_
   refine E_exit ?_
   refine thn_e ?_
   refine thn_e ?_
   refine blk_hit ?_
   obtain rfl := sinj h
   exact hQ _ _ ⟨rA, hfr, k9, l9, n9⟩
 ·clear hx
  obtain ⟨lE, hfr, mC, m7, qC⟩ := hR
  refine E_seq (E_region (EL_mv qC rfl ?_))
  obtain ⟨iD, xD, h⟩ := bsome h
  refine EL_do .plain rfl (D_callG (g := lE) (vs := [.slice none 0 0, .int .i64 (y6)]) en99 (.cons rfl (.cons rfl .nil)) (wk99 (iO := 4024) xD) fun mE xF sD hs m26 => ?_)
  obtain ⟨o26, nE⟩ := m26
  have hfr := hfr.ext hs
  have m7 := m7.ext hs
  refine EL_at sD rfl rfl ?_
  refine EL_nil (thn_n ?_)
  obtain ⟨i7, hx, h⟩ := bsome h
  refine E_join (fun e w => ∃ (g : Gh) (v6 : Value), Fr gI wI g w ∧ e 6 = v6 ∧ RV g.m w (i7 : List Int) v6 ∧ OS 4024 g w 3 (i7 : List Int) v6) (fun Q' hQ => ?_) (fun eF yF hR => ?_)
  ·replace h := hx
   clear hx
   refine E_seq (E_region (EL_mv mC rfl ?_))
   refine EL_p (.int .i64 ((x0).length : Int)) (P_len Tryz.underlying56 rfl m7) rfl ?_
   refine EL_mw (.int .i64 (0)) rfl rfl ?_
   refine EL_nil (thn_n (E_block ?_))
   refine E_lp h (fun (s : (List Int) × Int) e w => ∃ (g : Gh) (v6 : Value), Fr gI wI g w ∧ e 6 = v6 ∧ RV g.m w (s.1 : List Int) v6 ∧ OS 4024 g w 3 (s.1 : List Int) v6 ∧ e 25 = up0 ∧ RV g.m w (x0 : List (List Int)) up0 ∧ e 26 = .int .i64 (((x0).length : Int)) ∧ e 27 = .int .i64 (s.2)) ⟨mE, (sD), hfr, rfl, nE, o26, rfl, m7, rfl, rfl⟩ (fun X42 jD yD => ?_)
   rintro ⟨l8, u3⟩ rF zF ⟨dB, rC, hfr, y9, z9, bA, r8, t5, v8, k8⟩ h
   refine E_seq (E_region (EL_in (.bool ((decide (u3 < ((x0).length : Int))))) k8 v8 rfl rfl ?_))
   refine EL_nil (thn_n (E_seq ?_))
   rcases csome h with ⟨d9, h⟩ | ⟨d9, h⟩
   ·refine E_ct d9 rfl ?_
    refine E_skip (thn_n ?_)
    obtain ⟨x5, hx, h⟩ := bsome h
    refine E_join (fun e w => ∃ (g : Gh) (v6 : Value), Fr gI wI g w ∧ e 6 = v6 ∧ RV g.m w (x5 : List Int) v6 ∧ OS 4024 g w 3 (x5 : List Int) v6 ∧ e 25 = up0 ∧ RV g.m w (x0 : List (List Int)) up0 ∧ e 26 = .int .i64 (((x0).length : Int)) ∧ e 27 = .int .i64 (u3)) (fun Q' hQ => ?_) (fun sF aG hR => ?_)
    ·replace h := hx
     clear hx
     refine E_block ?_
     refine E_seq (E_region ?_)
     obtain ⟨lD, iB, h⟩ := bsome h
     refine EL_p (ePtr up0 u3 1) (P_indexAddr (α := List Int) Tryz.underlying56 Tryz.sizeOf23 r8 t5 k8 iB) rfl ?_
     have oE := PT_idx t5 iB
     refine EL_do .plain rfl (D_load (g := dB) Tryz.isAgg23 Tryz.sizeOf23 rfl oE fun tD rE => ?_)
     refine EL_at tD rfl rfl ?_
     refine EL_nil (thn_n (E_region (EL_mv y9 rfl ?_)))
     refine EL_mw tD rfl rfl ?_
     obtain ⟨nD, zD, h⟩ := bsome h
     refine EL_do .plain rfl (D_append (g := dB) (i := 4024) Tryz.underlying23 info_3 rfl rfl bA z9 rfl rE zD fun uE bG uD hs o53 vE _ => ?_)
     have hfr := hfr.stp hs
     have t5 := t5.stp hs
     refine EL_at uD rfl rfl ?_
     refine EL_nil (blk_n ?_)
     obtain rfl := sinj h
     exact hQ _ _ ⟨uE, (uD), hfr, rfl, vE, o53, r8, t5, v8, k8⟩
    ·clear hx
     obtain ⟨xE, uC, hfr, vC, aD, bD, lB, mB, nB, oB⟩ := hR
     refine E_region (EL_in (.int .i64 ((w64 (u3 + (1 : Int))))) oB rfl rfl rfl ?_)
     refine EL_mw (.int .i64 ((w64 (u3 + (1 : Int))))) rfl rfl ?_
     exact EL_nil (thn_n (yD (x5, (w64 (u3 + (1 : Int)))) _ _ ⟨xE, (uC), hfr, vC, aD, bD, lB, mB, nB, rfl⟩ h))
   ·refine E_cf d9 rfl ?_
    refine E_exit ?_
    refine thn_e ?_
    refine thn_e ?_
    refine blk_hit ?_
    obtain rfl := sinj h
    exact hQ _ _ ⟨dB, (rC), hfr, y9, z9, bA⟩
  ·clear hx
   obtain ⟨cG, iA, hfr, cD, eD, yE⟩ := hR
   refine E_seq (E_region (EL_mv cD rfl ?_))
   refine EL_at iA rfl rfl ?_
   refine EL_nil (thn_n (E_ret ?_))
   obtain rfl := sinj h
   exact end1 rfl rfl (show _ = iA from rfl) ⟨_, hfr, eD⟩
def f108 (x0 : List (List Int)) (x1 : (List Int) → Option Bool) : Option (Bool) :=
 (f129 x0 x1).bind fun y2 =>
 some ((decide (y2 ≥ (0 : Int))))
theorem en108 : Enters Tryz.prog 108 := enters_of Tryz.func108 (by kernel_rfl) rfl
theorem wk108 {gI : Gh} {wI : World} {x0 : List (List Int)} {x1 : (List Int) → Option Bool} {up0 : Value} (rp0 : RV gI.m wI x0 up0) {up1 : Value} (rp1 : FnV1 Tryz.prog x1 up1 gI wI) {r : Bool} (h : f108 x0 x1 = some r) : Fn Tryz.prog 108 #[up0, up1] gI wI (fun _ _ v => v = .bool (r)) := by
 unfold f108 at h
 refine fn_of_E Tryz.func108 rfl (Nat.le_of_ble_eq_true rfl) fun g0 hm hfr => ?_
 have rp0 : RV g0.m wI x0 up0 := hm ▸ rp0
 obtain ⟨ff1, fa1, fc1, rfl, fen1, fcl1⟩ := rp1
 show E _ 9 none _ _ _ _ _
 refine E_seq (E_region (EL_at (.bool false) rfl rfl ?_))
 refine EL_nil (thn_n (E_seq (E_region (EL_mw up0 rfl rfl ?_))))
 refine EL_mw ((.func (.func ff1) fa1 fc1)) rfl rfl ?_
 obtain ⟨y2, hy2, h⟩ := bsome h
 refine EL_do .plain rfl (D_call (g := g0) (vs := [up0, (.func (.func ff1) fa1 fc1)]) en129 (.cons rfl (.cons rfl .nil)) (wk129 rp0 (FnV1.ch ⟨_, _, _, rfl, fen1, fcl1⟩ hfr.ch) hy2) fun g1 w1_ v1 hs hr => ?_)
 have hfr := hfr.ext hs
 subst hr
 refine EL_in (.bool ((decide (y2 ≥ (0 : Int))))) rfl rfl rfl rfl ?_
 refine EL_at (.bool ((decide (y2 ≥ (0 : Int))))) rfl rfl ?_
 refine EL_nil (thn_n (E_ret ?_))
 obtain rfl := sinj h
 exact end1 rfl rfl (show _ = .bool ((decide (y2 ≥ (0 : Int)))) from rfl) ⟨_, hfr, rfl⟩
end Go.Proofs.YtkmbkaoolacofaaGreat
