import Derived.Test.YtkmbkaoolacofaaGreatCode2
set_option maxRecDepth 8000
set_option maxHeartbeats 4000000
namespace Go.Proofs.YtkmbkaoolacofaaGreat
open Go.RowKit
def f35 (x0 : PayTable) : Option (PayTable) :=
 (f62 x0).bind fun y5 =>
 some (y5)
theorem en35 : Enters Tryz.prog 35 := enters_of Tryz.func35 (by kernel_rfl) rfl
theorem wk35 {gI : Gh} {wI : World} {x0 : PayTable} {up0 : Value} (rp0 : RV gI.m wI x0 up0) {r : PayTable} (h : f35 x0 = some r) : Fn Tryz.prog 35 #[up0] gI wI (fun m w v => RV m w (r) v) := by
 unfold f35 at h
 refine fn_of_E Tryz.func35 rfl (Nat.le_of_ble_eq_true rfl) fun g0 hm hfr => ?_
 have rp0 : RV g0.m wI x0 up0 := hm ▸ rp0
 show E _ 5 none _ _ _ _ _
 refine E_seq (E_region (EL_do .plain rfl (D_box (g := g0) rfl rp0 fun g1 w1 p1 hs q1 => ?_)))
 have hfr := hfr.ext hs
 refine EL_do .plain rfl (D_allocOc (g := g1) 2002 (⟨[], [], [], 0⟩ : PayTable) Tryz.zeroValue58 (fun m w => ⟨_, (rep_two rep_nil (rep_two rep_nil (rep_two rep_nil rep_int))), rfl⟩) fun g2 w2 p2 hs b2 cb => ?_)
 have hfr := hfr.stp hs
 have q1 := q1.stp hs
 have o0 : OSF 2002 60200 0 g2 w2 23 58 ([] : List (List Int)) p2 := cb.osf (by rfl)
 have u3 : OSF 2002 60201 1 g2 w2 3 58 ([] : List Int) p2 := cb.osf (by rfl)
 have l5 : OSF 2002 60202 2 g2 w2 3 58 ([] : List Int) p2 := cb.osf (by rfl)
 clear cb
 refine EL_nil (thn_n (E_seq (E_region (EL_do .plain rfl (D_load (g := g2) Tryz.isAgg58 Tryz.sizeOf58 rfl q1 fun v3 r3 => ?_)))))
 obtain ⟨y5, hy5, h⟩ := bsome h
 refine EL_do .plain rfl (D_call (g := g2) (vs := [v3]) en62 (.cons rfl .nil) (wk62 r3 hy5) fun g4 w4_ v4 hs hr => ?_)
 have hfr := hfr.ext hs
 have b2 := b2.ext hs
 have r4 := hr
 refine EL_do .plain rfl (D_storeOc (g := g4) (v := v4) Tryz.sizeOf58 rfl b2 rfl r4 fun g6 w6 hs b6 cb => ?_)
 clear cb
 have hfr := hfr.stp hs
 refine EL_nil (thn_n (E_ret ?_))
 obtain rfl := sinj h
 obtain ⟨ad7, cv7, hp7, hl7, cr7⟩ := ob_read Tryz.isAgg58 Tryz.sizeOf58 b6
 exact endm_c rfl rfl ((show _ = p2 from rfl).trans hp7) hl7 ⟨_, hfr, cr7⟩
def f67 (x0 : PaySheet) : Option ((List Int) × (List Int) × Int × Int) :=
 Option.bind (α := (List Int)) (
  lp (σ := (List Int) × Int) (fun xG (nB, u3) =>
   bif (decide (u3 < ((((x0).PayTable).Rows).length : Int))) then
    Option.bind (α := (List Int)) (
     (idx (((x0).PayTable).Rows) u3).bind fun y130 =>
     (f89 y130).bind fun y6 =>
     (idx (((x0).PayTable).Across) u3).bind fun d7 =>
     (apnd 8 nB (([(w64 (y6 - d7))] : List Int))).bind fun uD =>
     some (uD)
     ) fun m8 =>
    xG (m8, (w64 (u3 + (1 : Int))))
   else
    some (nB)
   ) big ([], (0 : Int))
  ) fun i6 =>
 Option.bind (α := (List Int)) (
  lp (σ := (List Int) × Int) (fun vD (bA, o0) =>
   bif (decide (o0 < ((((x0).PayTable).Down).length : Int))) then
    Option.bind (α := (List Int)) (
     (idx (((x0).PayTable).Down) o0).bind fun x8 =>
     (f97 x0 o0).bind fun xD =>
     (f89 xD).bind fun iA =>
     (apnd 8 bA (([(w64 (iA - x8))] : List Int))).bind fun yD =>
     some (yD)
     ) fun n8 =>
    vD (n8, (w64 (o0 + (1 : Int))))
   else
    some (bA)
   ) big ([], (0 : Int))
  ) fun k9 =>
 (f89 (((x0).PayTable).Across)).bind fun a9 =>
 (f89 (((x0).PayTable).Down)).bind fun d9 =>
 some (i6, k9, (w64 (a9 - ((x0).PayTable).Total)), (w64 (d9 - ((x0).PayTable).Total)))
theorem en67 : Enters Tryz.prog 67 := enters_of Tryz.func67 (by kernel_rfl) rfl
theorem wk67 {gI : Gh} {wI : World} {x0 : PaySheet} {up0 : Value} (rp0 : RV gI.m wI x0 up0) {r : (List Int) × (List Int) × Int × Int} (h : f67 x0 = some r) : Fn Tryz.prog 67 #[up0] gI wI (fun m w v => ∃ y0 y1 y2 y3, v = .tuple #[y0, y1, y2, y3] ∧ RV m w (r.1) y0 ∧ RV m w (r.2.1) y1 ∧ y2 = .int .i64 (r.2.2.1) ∧ y3 = .int .i64 (r.2.2.2)) := by
 unfold f67 at h
 refine fn_of_E Tryz.func67 rfl (Nat.le_of_ble_eq_true rfl) fun g0 hm hfr => ?_
 have rp0 : RV g0.m wI x0 up0 := hm ▸ rp0
 show E _ 69 none _ _ _ _ _
 refine E_seq (E_region (EL_do .plain rfl (D_box (g := g0) rfl rp0 fun g1 w1 p1 hs q1 => ?_)))
 have hfr := hfr.ext hs
 refine EL_at (.slice none 0 0) rfl rfl ?_
 refine EL_at (.slice none 0 0) rfl rfl ?_
 refine EL_at (.int .i64 (0)) rfl rfl ?_
 refine EL_at (.int .i64 (0)) rfl rfl ?_
 refine EL_nil (thn_n ?_)
 obtain ⟨i6, hx, h⟩ := bsome h
 refine E_join (fun e w => ∃ (g : Gh) (v2 : Value), Fr gI wI g w ∧ e 1 = p1 ∧ PT g.m w (x0 : PaySheet) p1 ∧ e 2 = v2 ∧ RV g.m w (i6 : List Int) v2 ∧ OS 1002 g w 3 (i6 : List Int) v2 ∧ e 3 = .slice none 0 0 ∧ RV g.m w ([] : List Int) (Value.slice none 0 0)) (fun Q' hQ => ?_) (fun aJ jJ hR => ?_)
 ·replace h := hx
  clear hx
  refine E_seq (E_region (EL_p (fPtr p1 0) (P_fieldAddr at_132_0 rfl (PT.ptr q1)) rfl ?_))
  have yG := PT_field (part_PaySheet_0).1 q1
  refine EL_p (fPtr (fPtr p1 0) 0) (P_fieldAddr at_58_0 rfl (PT.ptr yG)) rfl ?_
  have xI := PT_field (part_PayTable_0).1 yG
  refine EL_do .plain rfl (D_load (g := g1) Tryz.isAgg56 Tryz.sizeOf56 rfl xI fun yB zG => ?_)
  refine EL_p (.int .i64 ((((x0).PayTable).Rows).length : Int)) (P_len Tryz.underlying56 rfl zG) rfl ?_
  refine EL_mw (.int .i64 (0)) rfl rfl ?_
  refine EL_nil (thn_n (E_block ?_))
  refine E_lp h (fun (s : (List Int) × Int) e w => ∃ (g : Gh) (v2 : Value), Fr gI wI g w ∧ e 1 = p1 ∧ PT g.m w (x0 : PaySheet) p1 ∧ e 2 = v2 ∧ RV g.m w (s.1 : List Int) v2 ∧ OS 1002 g w 3 (s.1 : List Int) v2 ∧ e 3 = .slice none 0 0 ∧ RV g.m w ([] : List Int) (Value.slice none 0 0) ∧ e 12 = yB ∧ RV g.m w (((x0).PayTable).Rows : List (List Int)) yB ∧ e 13 = .int .i64 (((((x0).PayTable).Rows).length : Int)) ∧ e 14 = .int .i64 (s.2)) ⟨g1, (.slice none 0 0), hfr, rfl, q1, rfl, RV_nil, OS.nil, rfl, RV_nil, rfl, zG, rfl, rfl⟩ (fun X89 xG aH => ?_)
  rintro ⟨nB, u3⟩ kJ oK ⟨zD, vC, hfr, oB, l8, aD, y9, z9, bD, r8, zB, k8, cC, l9⟩ h
  refine E_seq (E_region (EL_p (.bool ((decide (u3 < ((((x0).PayTable).Rows).length : Int))))) (P_int l9 cC rfl) rfl ?_))
  refine EL_nil (thn_n (E_seq ?_))
  rcases csome h with ⟨rC, h⟩ | ⟨rC, h⟩
  ·refine E_ct rC rfl ?_
   refine E_skip (thn_n ?_)
   obtain ⟨m8, hx, h⟩ := bsome h
   refine E_join (fun e w => ∃ (g : Gh) (v2 : Value), Fr gI wI g w ∧ e 1 = p1 ∧ PT g.m w (x0 : PaySheet) p1 ∧ e 2 = v2 ∧ RV g.m w (m8 : List Int) v2 ∧ OS 1002 g w 3 (m8 : List Int) v2 ∧ e 3 = .slice none 0 0 ∧ RV g.m w ([] : List Int) (Value.slice none 0 0) ∧ e 12 = yB ∧ RV g.m w (((x0).PayTable).Rows : List (List Int)) yB ∧ e 13 = .int .i64 (((((x0).PayTable).Rows).length : Int)) ∧ e 14 = .int .i64 (u3)) (fun Q' hQ => ?_) (fun bJ lJ hR => ?_)
   ·replace h := hx
    clear hx
    refine E_block ?_
    refine E_seq (E_region (EL_mv l9 rfl ?_))
    obtain ⟨y130, cD, h⟩ := bsome h
    refine EL_p (ePtr yB u3 1) (P_indexAddr (α := List Int) Tryz.underlying56 Tryz.sizeOf23 zB k8 l9 cD) rfl ?_
    have cH := PT_idx k8 cD
    refine EL_do .plain rfl (D_load (g := zD) Tryz.isAgg23 Tryz.sizeOf23 rfl cH fun uC dH => ?_)
    refine EL_at (.int .i64 (u3)) rfl rfl ?_
    refine EL_at uC rfl rfl ?_
    refine EL_nil (thn_n ?_)
    obtain ⟨y6, eG, h⟩ := bsome h
    have aE := PT_field (part_PaySheet_0).1 l8
    have gH := PT_field (part_PayTable_1).1 aE
    refine L_load (x := .tmp 23) Tryz.isAgg23 Tryz.sizeOf23 gH fun bE cE gG => ?_
    obtain ⟨d7, eD, h⟩ := bsome h
    have iH := PT_idx cE eD
    refine L_load (x := .tmp 26) Tryz.isAgg3 Tryz.sizeOf3 iH fun mJ jH hG => ?_
    obtain rfl := RV_int.1 jH
    refine E_drawL (g := zD) (n := 11) [(2, (fun v g w => v = .int .i64 (y6))), (10, (fun v g w => RV g.m w ([(w64 (y6 - d7))] : List Int) v ∧ OS 3029 g w 3 ([(w64 (y6 - d7))] : List Int) v ∧ FullV v))] [0, 1, 2, 3, 4, 5, 6, 7, 8, 9, 10] rfl mixed (by kernel_rfl) (⟨fun _ => up_eq _, fun _ => up_and up_rv (up_and up_os (up_eq _)), trivial⟩) ?_
    refine L_p vC rfl rfl (P_move aD) ?_
    refine L_p uC rfl rfl (P_move rfl) ?_
    refine L_do (φ := fun v g w => v = .int .i64 (y6)) rfl rfl .plain (fun g w hd => D_call (g := g) (vs := [uC]) en89 (.cons rfl .nil) (wk89 (dH.ext hd.1) eG) fun g' w' v hs hr => ⟨g', hs, hr⟩) (fun nJ hv => ?_)
    obtain ⟨_, _, _, rfl⟩ := hv
    refine L_p (fPtr p1 0) rfl rfl (P_fieldAddr at_132_0 oB (PT.ptr l8)) ?_
    refine L_p (fPtr (fPtr p1 0) 1) rfl rfl (P_fieldAddr at_58_1 rfl (PT.ptr aE)) ?_
    refine L_ld (c := bE) rfl rfl .plain (fun _ _ h => h.ch) gG rfl ?_
    refine L_p (.int .i64 (u3)) rfl rfl (P_move rfl) ?_
    refine L_p (ePtr bE u3 1) rfl rfl (P_indexAddr (α := Int) Tryz.underlying23 Tryz.sizeOf3 rfl cE rfl eD) ?_
    refine L_ld (c := .int .i64 (d7)) rfl rfl .plain (fun _ _ h => h.ch) hG rfl ?_
    refine L_p (.int .i64 ((w64 (y6 - d7)))) rfl rfl (P_int rfl rfl rfl) ?_
    refine L_do (φ := fun v g w => RV g.m w ([(w64 (y6 - d7))] : List Int) v ∧ OS 3029 g w 3 ([(w64 (y6 - d7))] : List Int) v ∧ FullV v) rfl rfl .plain (fun g w hd => D_buildSlice (g := g) 3029 (xs := ([(w64 (y6 - d7))] : List Int)) (vs := [.int .i64 ((w64 (y6 - d7)))]) Tryz.underlying23 Tryz.sizeOf3 Tryz.zeroValue3 rfl rfl (.cons rfl .nil) (RVs.cons (RV_int.2 rfl) RVs.nil) rfl rfl fun g' w' v hs o r hxt hfl => ⟨g', hxt, r, o, hfl⟩) (fun u9 hv => ?_)
    clear hv
    refine L_nil fun kH oJ hall => ?_
    have hs := hall.1
    have hfr := hfr.ext hs
    have l8 := l8.ext hs
    have y9 := y9.ext hs
    have z9 := z9.ext hs
    have r8 := r8.ext hs
    have k8 := k8.ext hs
    have lH := (word_all (A := fun g w => RV g.m w ([(w64 (y6 - d7))] : List Int) u9 ∧ OS 3029 g w 3 ([(w64 (y6 - d7))] : List Int) u9 ∧ FullV u9) 10 rfl hall).1
    have o165 := (word_all (A := fun g w => RV g.m w ([(w64 (y6 - d7))] : List Int) u9 ∧ OS 3029 g w 3 ([(w64 (y6 - d7))] : List Int) u9 ∧ FullV u9) 10 rfl hall).2.1
    clear hs hall
    obtain ⟨uD, iG, h⟩ := bsome h
    refine EL_do .plain rfl (D_append (g := kH) (i := 1002) Tryz.underlying23 info_3 rfl rfl z9 y9 rfl lH iG fun mH pJ dE hs o166 nH _ => ?_)
    have hfr := hfr.stp hs
    have l8 := l8.stp hs
    have r8 := r8.stp hs
    have k8 := k8.stp hs
    refine EL_at dE rfl rfl ?_
    refine EL_nil (blk_n ?_)
    obtain rfl := sinj h
    exact hQ _ _ ⟨mH, (dE), hfr, oB, l8, rfl, nH, o166, bD, r8, zB, k8, cC, l9⟩
   ·clear hx
    obtain ⟨oH, eE, hfr, iE, jE, kE, lE, mE, nE, oE, iD, jD, lD, mD⟩ := hR
    refine E_region (EL_in (.int .i64 ((w64 (u3 + (1 : Int))))) mD rfl rfl rfl ?_)
    refine EL_mw (.int .i64 ((w64 (u3 + (1 : Int))))) rfl rfl ?_
    exact EL_nil (thn_n (aH (m8, (w64 (u3 + (1 : Int)))) _ _ ⟨oH, (eE), hfr, iE, jE, kE, lE, mE, nE, oE, iD, jD, lD, rfl⟩ h))
  ·refine E_cf rC rfl ?_
   refine E_exit ?_
   refine thn_e ?_
   refine thn_e ?_
   refine blk_hit ?_
   obtain rfl := sinj h
   exact hQ _ _ ⟨zD, (vC), hfr, oB, l8, aD, y9, z9, bD, r8⟩
 ·clear hx
  obtain ⟨rE, t5, hfr, eC, rA, sE, tE, uE, vE, xE⟩ := hR
  obtain ⟨k9, hx, h⟩ := bsome h
  refine E_join (fun e w => ∃ (g : Gh) (v3 : Value), Fr gI wI g w ∧ e 1 = p1 ∧ PT g.m w (x0 : PaySheet) p1 ∧ e 2 = t5 ∧ RV g.m w (i6 : List Int) t5 ∧ OS 1002 g w 3 (i6 : List Int) t5 ∧ e 3 = v3 ∧ RV g.m w (k9 : List Int) v3 ∧ OS 1003 g w 3 (k9 : List Int) v3) (fun Q' hQ => ?_) (fun cJ qJ hR => ?_)
  ·replace h := hx
   clear hx
   refine E_seq (E_region (EL_p (fPtr p1 0) (P_fieldAddr at_132_0 eC (PT.ptr rA)) rfl ?_))
   have yE := PT_field (part_PaySheet_0).1 rA
   refine EL_p (fPtr (fPtr p1 0) 2) (P_fieldAddr at_58_2 rfl (PT.ptr yE)) rfl ?_
   have pH := PT_field (part_PayTable_2).1 yE
   refine EL_do .plain rfl (D_load (g := rE) Tryz.isAgg23 Tryz.sizeOf23 rfl pH fun yA zE => ?_)
   refine EL_p (.int .i64 ((((x0).PayTable).Down).length : Int)) (P_len Tryz.underlying23 rfl zE) rfl ?_
   refine EL_mw (.int .i64 (0)) rfl rfl ?_
   refine EL_nil (thn_n (E_block ?_))
   refine E_lp h (fun (s : (List Int) × Int) e w => ∃ (g : Gh) (v3 : Value), Fr gI wI g w ∧ e 1 = p1 ∧ PT g.m w (x0 : PaySheet) p1 ∧ e 2 = t5 ∧ RV g.m w (i6 : List Int) t5 ∧ OS 1002 g w 3 (i6 : List Int) t5 ∧ e 3 = v3 ∧ RV g.m w (s.1 : List Int) v3 ∧ OS 1003 g w 3 (s.1 : List Int) v3 ∧ e 34 = yA ∧ RV g.m w (((x0).PayTable).Down : List Int) yA ∧ e 35 = .int .i64 (((((x0).PayTable).Down).length : Int)) ∧ e 36 = .int .i64 (s.2)) ⟨rE, (.slice none 0 0), hfr, eC, rA, sE, tE, uE, vE, xE, OS.nil, rfl, zE, rfl, rfl⟩ (fun X202 vD jG => ?_)
   rintro ⟨bA, o0⟩ dJ rJ ⟨tB, cF, hfr, aB, x5, mC, j6, x6, qC, i7, m7, lB, l5, mB, v8⟩ h
   refine E_seq (E_region (EL_p (.bool ((decide (o0 < ((((x0).PayTable).Down).length : Int))))) (P_int v8 mB rfl) rfl ?_))
   refine EL_nil (thn_n (E_seq ?_))
   rcases csome h with ⟨vB, h⟩ | ⟨vB, h⟩
   ·refine E_ct vB rfl ?_
    refine E_skip (thn_n ?_)
    obtain ⟨n8, hx, h⟩ := bsome h
    refine E_join (fun e w => ∃ (g : Gh) (v3 : Value), Fr gI wI g w ∧ e 1 = p1 ∧ PT g.m w (x0 : PaySheet) p1 ∧ e 2 = t5 ∧ RV g.m w (i6 : List Int) t5 ∧ OS 1002 g w 3 (i6 : List Int) t5 ∧ e 3 = v3 ∧ RV g.m w (n8 : List Int) v3 ∧ OS 1003 g w 3 (n8 : List Int) v3 ∧ e 34 = yA ∧ RV g.m w (((x0).PayTable).Down : List Int) yA ∧ e 35 = .int .i64 (((((x0).PayTable).Down).length : Int)) ∧ e 36 = .int .i64 (o0)) (fun Q' hQ => ?_) (fun eJ sJ hR => ?_)
    ·replace h := hx
     clear hx
     refine E_block ?_
     refine E_seq (E_region (EL_mv v8 rfl ?_))
     obtain ⟨x8, gD, h⟩ := bsome h
     refine EL_p (ePtr yA o0 1) (P_indexAddr (α := Int) Tryz.underlying23 Tryz.sizeOf3 lB l5 v8 gD) rfl ?_
     have qH := PT_idx l5 gD
     refine EL_do .plain rfl (D_load (g := tB) Tryz.isAgg3 Tryz.sizeOf3 rfl qH fun vJ sH => ?_)
     obtain rfl := RV_int.1 sH
     refine EL_at (.int .i64 (o0)) rfl rfl ?_
     refine EL_at (.int .i64 (x8)) rfl rfl ?_
     refine EL_nil (thn_n (E_region (EL_mv qC rfl ?_)))
     refine EL_do .plain rfl (D_load (g := tB) Tryz.isAgg132 Tryz.sizeOf132 aB x5 fun tH uH => ?_)
     refine EL_mw (.int .i64 (o0)) rfl rfl ?_
     obtain ⟨xD, kG, h⟩ := bsome h
     refine EL_do .plain rfl (D_call (g := tB) (vs := [tH, .int .i64 (o0)]) en97 (.cons rfl (.cons rfl .nil)) (wk97 uH kG) fun xH gJ yH hs hr => ?_)
     have hfr := hfr.ext hs
     have x5 := x5.ext hs
     have j6 := j6.ext hs
     have x6 := x6.ext hs
     have i7 := i7.ext hs
     have m7 := m7.ext hs
     have l5 := l5.ext hs
     have zH := hr
     obtain ⟨iA, lG, h⟩ := bsome h
     refine EL_do .plain rfl (D_call (g := xH) (vs := [yH]) en89 (.cons rfl .nil) (wk89 zH lG) fun aI iJ xJ hs hr => ?_)
     have hfr := hfr.ext hs
     have x5 := x5.ext hs
     have j6 := j6.ext hs
     have x6 := x6.ext hs
     have i7 := i7.ext hs
     have m7 := m7.ext hs
     have l5 := l5.ext hs
     subst hr
     refine EL_mw (.int .i64 (x8)) rfl rfl ?_
     refine EL_in (.int .i64 ((w64 (iA - x8)))) rfl rfl rfl rfl ?_
     refine EL_do .plain rfl (D_buildSlice (g := aI) 3048 (xs := ([(w64 (iA - x8))] : List Int)) (vs := [.int .i64 ((w64 (iA - x8)))]) Tryz.underlying23 Tryz.sizeOf3 Tryz.zeroValue3 rfl rfl (.cons rfl .nil) (RVs.cons (RV_int.2 rfl) RVs.nil) rfl rfl fun bI yJ zJ hs o224 dI hxt hfl => ?_)
     have hfr := hfr.stp hs
     have x5 := x5.stp hs
     have j6 := j6.stp hs
     have x6 := x6.stp hs rfl
     have i7 := i7.stp hs
     have m7 := m7.stp hs rfl
     have l5 := l5.stp hs
     obtain ⟨yD, mG, h⟩ := bsome h
     refine EL_do .plain rfl (D_append (g := bI) (i := 1003) Tryz.underlying23 info_3 rfl rfl m7 i7 rfl dI mG fun iI aK dF hs o225 jI _ => ?_)
     have hfr := hfr.stp hs
     have x5 := x5.stp hs
     have j6 := j6.stp hs
     have x6 := x6.stp hs rfl
     have l5 := l5.stp hs
     refine EL_at dF rfl rfl ?_
     refine EL_nil (blk_n ?_)
     obtain rfl := sinj h
     exact hQ _ _ ⟨iI, (dF), hfr, aB, x5, mC, j6, x6, rfl, jI, o225, lB, l5, mB, v8⟩
    ·clear hx
     obtain ⟨kI, eF, hfr, iF, nF, oF, pF, qF, rF, sF, tF, nD, oD, sD, tD⟩ := hR
     refine E_region (EL_in (.int .i64 ((w64 (o0 + (1 : Int))))) tD rfl rfl rfl ?_)
     refine EL_mw (.int .i64 ((w64 (o0 + (1 : Int))))) rfl rfl ?_
     exact EL_nil (thn_n (jG (n8, (w64 (o0 + (1 : Int)))) _ _ ⟨kI, (eF), hfr, iF, nF, oF, pF, qF, rF, sF, tF, nD, oD, sD, rfl⟩ h))
   ·refine E_cf vB rfl ?_
    refine E_exit ?_
    refine thn_e ?_
    refine thn_e ?_
    refine blk_hit ?_
    obtain rfl := sinj h
    exact hQ _ _ ⟨tB, (cF), hfr, aB, x5, mC, j6, x6, qC, i7, m7⟩
  ·clear hx
   obtain ⟨lI, dB, hfr, n9, g8, uF, iB, yI, vF, jB, zI⟩ := hR
   refine E_seq ?_
   have xF := PT_field (part_PaySheet_0).1 g8
   have mI := PT_field (part_PayTable_1).1 xF
   refine L_load (x := .tmp 54) Tryz.isAgg23 Tryz.sizeOf23 mI fun yF nI nG => ?_
   obtain ⟨a9, oG, h⟩ := bsome h
   have zF := PT_field (part_PaySheet_0).1 g8
   have pI := PT_field (part_PayTable_3).1 zF
   refine L_load (x := .tmp 58) Tryz.isAgg3 Tryz.sizeOf3 pI fun bK qI sG => ?_
   obtain rfl := RV_int.1 qI
   have aG := PT_field (part_PaySheet_0).1 g8
   have sI := PT_field (part_PayTable_2).1 aG
   refine L_load (x := .tmp 62) Tryz.isAgg23 Tryz.sizeOf23 sI fun bG tI tG => ?_
   obtain ⟨d9, uG, h⟩ := bsome h
   have cG := PT_field (part_PaySheet_0).1 g8
   have uI := PT_field (part_PayTable_3).1 cG
   refine L_load (x := .tmp 66) Tryz.isAgg3 Tryz.sizeOf3 uI fun cK vI vG => ?_
   obtain rfl := RV_int.1 vI
   refine E_drawL (g := lI) (n := 22) [(5, (fun v g w => v = .int .i64 (a9))), (13, (fun v g w => v = .int .i64 (d9)))] [0, 1, 2, 3, 4, 5, 6, 7, 8, 9, 10, 11, 12, 13, 14, 15, 16, 17, 18, 19, 20, 21] rfl mixed (by kernel_rfl) (⟨fun _ => up_eq _, fun _ => up_eq _, trivial⟩) ?_
   refine L_p t5 rfl rfl (P_move uF) ?_
   refine L_p dB rfl rfl (P_move vF) ?_
   refine L_p (fPtr p1 0) rfl rfl (P_fieldAddr at_132_0 n9 (PT.ptr g8)) ?_
   refine L_p (fPtr (fPtr p1 0) 1) rfl rfl (P_fieldAddr at_58_1 rfl (PT.ptr xF)) ?_
   refine L_ld (c := yF) rfl rfl .plain (fun _ _ h => h.ch) nG rfl ?_
   refine L_do (φ := fun v g w => v = .int .i64 (a9)) rfl rfl .plain (fun g w hd => D_call (g := g) (vs := [yF]) en89 (.cons rfl .nil) (wk89 (nI.ext hd.1) oG) fun g' w' v hs hr => ⟨g', hs, hr⟩) (fun dK hv => ?_)
   obtain ⟨_, _, _, rfl⟩ := hv
   refine L_p (fPtr p1 0) rfl rfl (P_fieldAddr at_132_0 n9 (PT.ptr g8)) ?_
   refine L_p (fPtr (fPtr p1 0) 3) rfl rfl (P_fieldAddr at_58_3 rfl (PT.ptr zF)) ?_
   refine L_ld (c := .int .i64 (((x0).PayTable).Total)) rfl rfl .plain (fun _ _ h => h.ch) sG rfl ?_
   refine L_p (.int .i64 ((w64 (a9 - ((x0).PayTable).Total)))) rfl rfl (P_int rfl rfl rfl) ?_
   refine L_p (fPtr p1 0) rfl rfl (P_fieldAddr at_132_0 n9 (PT.ptr g8)) ?_
   refine L_p (fPtr (fPtr p1 0) 2) rfl rfl (P_fieldAddr at_58_2 rfl (PT.ptr aG)) ?_
   refine L_ld (c := bG) rfl rfl .plain (fun _ _ h => h.ch) tG rfl ?_
   refine L_do (φ := fun v g w => v = .int .i64 (d9)) rfl rfl .plain (fun g w hd => D_call (g := g) (vs := [bG]) en89 (.cons rfl .nil) (wk89 (tI.ext hd.1) uG) fun g' w' v hs hr => ⟨g', hs, hr⟩) (fun lK hv => ?_)
   obtain ⟨_, _, _, rfl⟩ := hv
   refine L_p (fPtr p1 0) rfl rfl (P_fieldAddr at_132_0 n9 (PT.ptr g8)) ?_
   refine L_p (fPtr (fPtr p1 0) 3) rfl rfl (P_fieldAddr at_58_3 rfl (PT.ptr cG)) ?_
   refine L_ld (c := .int .i64 (((x0).PayTable).Total)) rfl rfl .plain (fun _ _ h => h.ch) vG rfl ?_
   refine L_p (.int .i64 ((w64 (d9 - ((x0).PayTable).Total)))) rfl rfl (P_int rfl rfl rfl) ?_
   refine L_p t5 rfl rfl (P_assign rfl) ?_
   refine L_p dB rfl rfl (P_assign rfl) ?_
   refine L_p (.int .i64 ((w64 (a9 - ((x0).PayTable).Total)))) rfl rfl (P_assign rfl) ?_
   refine L_p (.int .i64 ((w64 (d9 - ((x0).PayTable).Total)))) rfl rfl (P_assign rfl) ?_
   refine L_nl fun mK nK hs => ?_
   have hfr := hfr.ext hs
   have iB := iB.ext hs
   have jB := jB.ext hs
   clear hs
   refine EL_nil (thn_n (E_ret ?_))
   obtain rfl := sinj h
   exact end4 rfl rfl (show _ = t5 from rfl) (show _ = dB from rfl) (show _ = .int .i64 ((w64 (a9 - ((x0).PayTable).Total))) from rfl) (show _ = .int .i64 ((w64 (d9 - ((x0).PayTable).Total))) from rfl) ⟨_, hfr, _, _, _, _, rfl, iB, jB, rfl, rfl⟩
def f68 (x0 : List Int) (x1 : Int → Option Bool) : Option (Bool) :=
 (f98 x0 x1).bind fun y2 =>
 some ((decide (y2 ≥ (0 : Int))))
theorem en68 : Enters Tryz.prog 68 := enters_of Tryz.func68 (by kernel_rfl) rfl
theorem wk68 {gI : Gh} {wI : World} {x0 : List Int} {x1 : Int → Option Bool} {up0 : Value} (rp0 : RV gI.m wI x0 up0) {up1 : Value} (rp1 : FnV1 Tryz.prog x1 up1 gI wI) {r : Bool} (h : f68 x0 x1 = some r) : Fn Tryz.prog 68 #[up0, up1] gI wI (fun _ _ v => v = .bool (r)) := by
 unfold f68 at h
 refine fn_of_E Tryz.func68 rfl (Nat.le_of_ble_eq_true rfl) fun g0 hm hfr => ?_
 have rp0 : RV g0.m wI x0 up0 := hm ▸ rp0
 obtain ⟨ff1, fa1, fc1, rfl, fen1, fcl1⟩ := rp1
 show E _ 9 none _ _ _ _ _
 refine E_seq (E_region (EL_at (.bool false) rfl rfl ?_))
 refine EL_nil (thn_n (E_seq (E_region (EL_mw up0 rfl rfl ?_))))
 refine EL_mw ((.func (.func ff1) fa1 fc1)) rfl rfl ?_
 obtain ⟨y2, hy2, h⟩ := bsome h
 refine EL_do .plain rfl (D_call (g := g0) (vs := [up0, (.func (.func ff1) fa1 fc1)]) en98 (.cons rfl (.cons rfl .nil)) (wk98 rp0 (FnV1.ch ⟨_, _, _, rfl, fen1, fcl1⟩ hfr.ch) hy2) fun g1 w1_ v1 hs hr => ?_)
 have hfr := hfr.ext hs
 subst hr
 refine EL_in (.bool ((decide (y2 ≥ (0 : Int))))) rfl rfl rfl rfl ?_
 refine EL_at (.bool ((decide (y2 ≥ (0 : Int))))) rfl rfl ?_
 refine EL_nil (thn_n (E_ret ?_))
 obtain rfl := sinj h
 exact end1 rfl rfl (show _ = .bool ((decide (y2 ≥ (0 : Int)))) from rfl) ⟨_, hfr, rfl⟩
def f69 (x0 : List (List Int)) : Option ((List Int)) :=
 Option.bind (α := Int) (
  lp (σ := Int × Int) (fun aD (l5, o0) =>
   bif (decide (o0 < ((x0).length : Int))) then
    Option.bind (α := Int) (
     (idx x0 o0).bind fun i6 =>
     bif (decide ((w64 (l5 + ((i6).length : Int))) < (0 : Int))) then
      none
     else
      some ((w64 (l5 + ((i6).length : Int))))
     ) fun j6 =>
    aD (j6, (w64 (o0 + (1 : Int))))
   else
    some (l5)
   ) big ((0 : Int), (0 : Int))
  ) fun x6 =>
 (f99 x6).bind fun bD =>
 Option.bind (α := (List Int)) (
  lp (σ := (List Int) × Int) (fun cD (g8, u3) =>
   bif (decide (u3 < ((x0).length : Int))) then
    Option.bind (α := (List Int)) (
     (idx x0 u3).bind fun eD =>
     (apnd 8 g8 eD).bind fun gD =>
     some (gD)
     ) fun x5 =>
    cD (x5, (w64 (u3 + (1 : Int))))
   else
    some (g8)
   ) big (bD, (0 : Int))
  ) fun y6 =>
 some (y6)
theorem en69 : Enters Tryz.prog 69 := enters_of Tryz.func69 (by kernel_rfl) rfl
theorem wk69 {gI : Gh} {wI : World} {x0 : List (List Int)} {up0 : Value} (rp0 : RV gI.m wI x0 up0) {r : (List Int)} (h : f69 x0 = some r) : Fn Tryz.prog 69 #[up0] gI wI (fun m w v => RV m w (r) v) := by
 unfold f69 at h
 refine fn_of_E Tryz.func69 rfl (Nat.le_of_ble_eq_true rfl) fun g0 hm hfr => ?_
 have rp0 : RV g0.m wI x0 up0 := hm ▸ rp0
 show E _ 36 none _ _ _ _ _
 refine E_seq (E_region (EL_at (.slice none 0 0) rfl rfl ?_))
 refine EL_nil (thn_n (E_seq (E_region (EL_at (.int .i64 (0)) rfl rfl ?_))))
 refine EL_nil (thn_n ?_)
 obtain ⟨x6, hx, h⟩ := bsome h
 refine E_join (fun e w => ∃ (g : Gh) , Fr gI wI g w ∧ e 0 = up0 ∧ RV g.m w (x0 : List (List Int)) up0 ∧ e 3 = .int .i64 (x6)) (fun Q' hQ => ?_) (fun kE sE hR => ?_)
 ·replace h := hx
  clear hx
  refine E_seq (E_region (EL_mw up0 rfl rfl ?_))
  refine EL_p (.int .i64 ((x0).length : Int)) (P_len Tryz.underlying56 rfl rp0) rfl ?_
  refine EL_mw (.int .i64 (0)) rfl rfl ?_
  refine EL_nil (thn_n (E_block ?_))
  refine E_lp h (fun (s : Int × Int) e w => ∃ (g : Gh) , Fr gI wI g w ∧ e 0 = up0 ∧ RV g.m w (x0 : List (List Int)) up0 ∧ e 3 = .int .i64 (s.1) ∧ e 9 = up0 ∧ RV g.m w (x0 : List (List Int)) up0 ∧ e 10 = .int .i64 (((x0).length : Int)) ∧ e 11 = .int .i64 (s.2)) ⟨g0, hfr, rfl, rp0, rfl, rfl, rp0, rfl, rfl⟩ (fun X13 aD nD => ?_)
  rintro ⟨l5, o0⟩ lE tE ⟨bA, hfr, a9, d9, k9, l9, k8, l8, i7⟩ h
  refine E_seq (E_region (EL_in (.bool ((decide (o0 < ((x0).length : Int))))) i7 l8 rfl rfl ?_))
  refine EL_nil (thn_n (E_seq ?_))
  rcases csome h with ⟨r8, h⟩ | ⟨r8, h⟩
  ·refine E_ct r8 rfl ?_
   refine E_skip (thn_n ?_)
   obtain ⟨j6, hx, h⟩ := bsome h
   refine E_join (fun e w => ∃ (g : Gh) , Fr gI wI g w ∧ e 0 = up0 ∧ RV g.m w (x0 : List (List Int)) up0 ∧ e 3 = .int .i64 (j6) ∧ e 9 = up0 ∧ RV g.m w (x0 : List (List Int)) up0 ∧ e 10 = .int .i64 (((x0).length : Int)) ∧ e 11 = .int .i64 (o0)) (fun Q' hQ => ?_) (fun mE uE hR => ?_)
   ·replace h := hx
    clear hx
    refine E_block ?_
    refine E_seq (E_region ?_)
    obtain ⟨i6, hy20, h⟩ := bsome h
    refine EL_p (ePtr up0 o0 1) (P_indexAddr (α := List Int) Tryz.underlying56 Tryz.sizeOf23 l9 k8 i7 hy20) rfl ?_
    have uD := PT_idx k8 hy20
    refine EL_do .plain rfl (D_load (g := bA) Tryz.isAgg23 Tryz.sizeOf23 rfl uD fun iD vD => ?_)
    refine EL_at iD rfl rfl ?_
    refine EL_nil (thn_n (E_seq (E_region (EL_mv k9 rfl ?_))))
    refine EL_mw iD rfl rfl ?_
    refine EL_p (.int .i64 ((i6).length : Int)) (P_len Tryz.underlying23 rfl vD) rfl ?_
    refine EL_in (.int .i64 ((w64 (l5 + ((i6).length : Int))))) rfl rfl rfl rfl ?_
    refine EL_at (.int .i64 ((w64 (l5 + ((i6).length : Int))))) rfl rfl ?_
    refine EL_nil (thn_n (E_seq (E_region (EL_mw (.int .i64 ((w64 (l5 + ((i6).length : Int))))) rfl rfl ?_))))
    refine EL_p (.bool ((decide ((w64 (l5 + ((i6).length : Int))) < (0 : Int))))) (P_int rfl rfl rfl) rfl ?_
    refine EL_nil (thn_n ?_)
    rcases csome h with ⟨v8, h⟩ | ⟨v8, h⟩
    ·refine E_ct v8 rfl ?_
     refine E_region ?_
     cases h
    ·refine E_cf v8 rfl ?_
     refine E_skip (blk_n ?_)
     obtain rfl := sinj h
     exact hQ _ _ ⟨bA, hfr, a9, d9, rfl, l9, k8, l8, i7⟩
   ·clear hx
    obtain ⟨xD, hfr, mB, nB, oB, tB, vB, iA, rA⟩ := hR
    refine E_region (EL_in (.int .i64 ((w64 (o0 + (1 : Int))))) rA rfl rfl rfl ?_)
    refine EL_mw (.int .i64 ((w64 (o0 + (1 : Int))))) rfl rfl ?_
    exact EL_nil (thn_n (nD (j6, (w64 (o0 + (1 : Int)))) _ _ ⟨xD, hfr, mB, nB, oB, tB, vB, iA, rfl⟩ h))
  ·refine E_cf r8 rfl ?_
   refine E_exit ?_
   refine thn_e ?_
   refine thn_e ?_
   refine blk_hit ?_
   obtain rfl := sinj h
   exact hQ _ _ ⟨bA, hfr, a9, d9, k9⟩
 ·clear hx
  obtain ⟨yD, hfr, yB, d7, zB⟩ := hR
  refine E_seq (E_region (EL_mv zB rfl ?_))
  obtain ⟨bD, oD, h⟩ := bsome h
  refine EL_do .plain rfl (D_callG (g := yD) (vs := [.slice none 0 0, .int .i64 (x6)]) en99 (.cons rfl (.cons rfl .nil)) (wk99 (iO := 4024) oD) fun zD vE jD hs m26 => ?_)
  obtain ⟨o26, aE⟩ := m26
  have hfr := hfr.ext hs
  have d7 := d7.ext hs
  refine EL_at jD rfl rfl ?_
  refine EL_nil (thn_n ?_)
  obtain ⟨y6, hx, h⟩ := bsome h
  refine E_join (fun e w => ∃ (g : Gh) (v6 : Value), Fr gI wI g w ∧ e 6 = v6 ∧ RV g.m w (y6 : List Int) v6 ∧ OS 4024 g w 3 (y6 : List Int) v6) (fun Q' hQ => ?_) (fun nE xE hR => ?_)
  ·replace h := hx
   clear hx
   refine E_seq (E_region (EL_mv yB rfl ?_))
   refine EL_p (.int .i64 ((x0).length : Int)) (P_len Tryz.underlying56 rfl d7) rfl ?_
   refine EL_mw (.int .i64 (0)) rfl rfl ?_
   refine EL_nil (thn_n (E_block ?_))
   refine E_lp h (fun (s : (List Int) × Int) e w => ∃ (g : Gh) (v6 : Value), Fr gI wI g w ∧ e 6 = v6 ∧ RV g.m w (s.1 : List Int) v6 ∧ OS 4024 g w 3 (s.1 : List Int) v6 ∧ e 25 = up0 ∧ RV g.m w (x0 : List (List Int)) up0 ∧ e 26 = .int .i64 (((x0).length : Int)) ∧ e 27 = .int .i64 (s.2)) ⟨zD, (jD), hfr, rfl, aE, o26, rfl, d7, rfl, rfl⟩ (fun X42 cD sD => ?_)
   rintro ⟨g8, u3⟩ oE yE ⟨yA, cC, hfr, n9, u9, y9, m8, t5, n8, m7⟩ h
   refine E_seq (E_region (EL_in (.bool ((decide (u3 < ((x0).length : Int))))) m7 n8 rfl rfl ?_))
   refine EL_nil (thn_n (E_seq ?_))
   rcases csome h with ⟨x8, h⟩ | ⟨x8, h⟩
   ·refine E_ct x8 rfl ?_
    refine E_skip (thn_n ?_)
    obtain ⟨x5, hx, h⟩ := bsome h
    refine E_join (fun e w => ∃ (g : Gh) (v6 : Value), Fr gI wI g w ∧ e 6 = v6 ∧ RV g.m w (x5 : List Int) v6 ∧ OS 4024 g w 3 (x5 : List Int) v6 ∧ e 25 = up0 ∧ RV g.m w (x0 : List (List Int)) up0 ∧ e 26 = .int .i64 (((x0).length : Int)) ∧ e 27 = .int .i64 (u3)) (fun Q' hQ => ?_) (fun rE zE hR => ?_)
    ·replace h := hx
     clear hx
     refine E_block ?_
     refine E_seq (E_region ?_)
     obtain ⟨eD, aB, h⟩ := bsome h
     refine EL_p (ePtr up0 u3 1) (P_indexAddr (α := List Int) Tryz.underlying56 Tryz.sizeOf23 m8 t5 m7 aB) rfl ?_
     have bE := PT_idx t5 aB
     refine EL_do .plain rfl (D_load (g := yA) Tryz.isAgg23 Tryz.sizeOf23 rfl bE fun lD cE => ?_)
     refine EL_at lD rfl rfl ?_
     refine EL_nil (thn_n (E_region (EL_mv n9 rfl ?_)))
     refine EL_mw lD rfl rfl ?_
     obtain ⟨gD, tD, h⟩ := bsome h
     refine EL_do .plain rfl (D_append (g := yA) (i := 4024) Tryz.underlying23 info_3 rfl rfl y9 u9 rfl cE tD fun dE cF mD hs o53 eE _ => ?_)
     have hfr := hfr.stp hs
     have t5 := t5.stp hs
     refine EL_at mD rfl rfl ?_
     refine EL_nil (blk_n ?_)
     obtain rfl := sinj h
     exact hQ _ _ ⟨dE, (mD), hfr, rfl, eE, o53, m8, t5, n8, m7⟩
    ·clear hx
     obtain ⟨iE, eC, hfr, mC, qC, rC, dB, iB, jB, lB⟩ := hR
     refine E_region (EL_in (.int .i64 ((w64 (u3 + (1 : Int))))) lB rfl rfl rfl ?_)
     refine EL_mw (.int .i64 ((w64 (u3 + (1 : Int))))) rfl rfl ?_
     exact EL_nil (thn_n (sD (x5, (w64 (u3 + (1 : Int)))) _ _ ⟨iE, (eC), hfr, mC, qC, rC, dB, iB, jB, rfl⟩ h))
   ·refine E_cf x8 rfl ?_
    refine E_exit ?_
    refine thn_e ?_
    refine thn_e ?_
    refine blk_hit ?_
    obtain rfl := sinj h
    exact hQ _ _ ⟨yA, (cC), hfr, n9, u9, y9⟩
  ·clear hx
   obtain ⟨dF, z9, hfr, uC, vC, jE⟩ := hR
   refine E_seq (E_region (EL_mv uC rfl ?_))
   refine EL_at z9 rfl rfl ?_
   refine EL_nil (thn_n (E_ret ?_))
   obtain rfl := sinj h
   exact end1 rfl rfl (show _ = z9 from rfl) ⟨_, hfr, vC⟩
def f74 (x0 : PayTable) (x1 : PayEntry) : Option (PayTable) :=
 (f62 x0).bind fun y6 =>
 Option.bind (α := PayTable) (
  bif ((x1).Kind == (1 : Int)) then
   (idx ((y6).Rows) ((x1).Row)).bind fun i7 =>
   (idx i7 ((x1).Column)).bind fun bD =>
   some (({ y6 with Rows := (List.set ((y6).Rows) (Int.toNat ((x1).Row)) (List.set i7 (Int.toNat ((x1).Column)) (x1).Number)) } : PayTable))
  else
   bif ((x1).Kind == (2 : Int)) then
    (idx ((y6).Across) ((x1).Row)).bind fun y135 =>
    some (({ y6 with Across := (List.set ((y6).Across) (Int.toNat ((x1).Row)) (x1).Number) } : PayTable))
   else
    bif ((x1).Kind == (3 : Int)) then
     (idx ((y6).Down) ((x1).Column)).bind fun bA =>
     some (({ y6 with Down := (List.set ((y6).Down) (Int.toNat ((x1).Column)) (x1).Number) } : PayTable))
    else
     some (({ y6 with Total := (x1).Number } : PayTable))
  ) fun x6 =>
 some (x6)
theorem en74 : Enters Tryz.prog 74 := enters_of Tryz.func74 (by kernel_rfl) rfl
theorem wk74 {gI : Gh} {wI : World} {x0 : PayTable} {x1 : PayEntry} {up0 : Value} (rp0 : RV gI.m wI x0 up0) {up1 : Value} (rp1 : RV gI.m wI x1 up1) {r : PayTable} (h : f74 x0 x1 = some r) : Fn Tryz.prog 74 #[up0, up1] gI wI (fun m w v => RV m w (r) v) := by
 unfold f74 at h
 refine fn_of_E Tryz.func74 rfl (Nat.le_of_ble_eq_true rfl) fun g0 hm hfr => ?_
 have rp0 : RV g0.m wI x0 up0 := hm ▸ rp0
 have rp1 : RV g0.m wI x1 up1 := hm ▸ rp1
 show E _ 45 none _ _ _ _ _
 refine E_seq (E_region (EL_do .plain rfl (D_box (g := g0) rfl rp0 fun g1 w1 p1 hs q1 => ?_)))
 have hfr := hfr.ext hs
 have rp1 := rp1.ext hs
 refine EL_do .plain rfl (D_box (g := g1) rfl rp1 fun g2 w2 p2 hs q2 => ?_)
 have hfr := hfr.ext hs
 have q1 := q1.ext hs
 refine EL_do .plain rfl (D_allocOc (g := g2) 2004 (⟨[], [], [], 0⟩ : PayTable) Tryz.zeroValue58 (fun m w => ⟨_, (rep_two rep_nil (rep_two rep_nil (rep_two rep_nil rep_int))), rfl⟩) fun g3 w3 p3 hs b3 cb => ?_)
 have hfr := hfr.stp hs
 have q1 := q1.stp hs
 have q2 := q2.stp hs
 have o0 : OSF 2004 60400 0 g3 w3 23 58 ([] : List (List Int)) p3 := cb.osf (by rfl)
 have u3 : OSF 2004 60401 1 g3 w3 3 58 ([] : List Int) p3 := cb.osf (by rfl)
 have l5 : OSF 2004 60402 2 g3 w3 3 58 ([] : List Int) p3 := cb.osf (by rfl)
 clear cb
 refine EL_nil (thn_n (E_seq (E_region (EL_do .plain rfl (D_load (g := g3) Tryz.isAgg58 Tryz.sizeOf58 rfl q1 fun v4 r4 => ?_)))))
 obtain ⟨y6, cD, h⟩ := bsome h
 refine EL_do .plain rfl (D_callG (g := g3) (vs := [v4]) en62 (.cons rfl .nil) (W62 (iO := 4007) r4 cD) fun g5 w5 v5 hs hm5 => ?_)
 have hfr := hfr.ext hs
 have q2 := q2.ext hs
 have o0 := o0.ext hs
 have u3 := u3.ext hs
 have l5 := l5.ext hs
 have b3 := b3.ext hs
 obtain ⟨sk5, ow5, ok5⟩ := hm5
 refine EL_do .plain rfl (D_allocOc (g := g5) 2005 (⟨[], [], [], 0⟩ : PayTable) Tryz.zeroValue58 (fun m w => ⟨_, (rep_two rep_nil (rep_two rep_nil (rep_two rep_nil rep_int))), rfl⟩) fun g7 w7 p7 hs b7 cb => ?_)
 have hfr := hfr.stp hs
 have q2 := q2.stp hs
 have o0 := o0.stp hs rfl
 have u3 := u3.stp hs rfl
 have l5 := l5.stp hs rfl
 have b3 := b3.stp hs rfl
 have ow5 := ow5.stp hs rfl
 have tD : OSF 2005 60500 0 g7 w7 23 58 ([] : List (List Int)) p7 := cb.osf (by rfl)
 have uD : OSF 2005 60501 1 g7 w7 3 58 ([] : List Int) p7 := cb.osf (by rfl)
 have vD : OSF 2005 60502 2 g7 w7 3 58 ([] : List Int) p7 := cb.osf (by rfl)
 clear cb
 refine EL_do .plain rfl (D_storeOW (g := g7) Tryz.sizeOf58 rfl b7 rfl ow5 rfl fun gj8 g8 w8 bk8 hsa hsb hpp b8 => ?_)
 have hfr := hfr.stp hsa
 have q2 := q2.stp hsa
 have o0 := o0.stp hsa rfl
 have u3 := u3.stp hsa rfl
 have l5 := l5.stp hsa rfl
 have b3 := b3.stp hsa rfl
 have hfr := hfr.stp hsb
 have q2 := q2.stp hsb
 have o0 := o0.stp hsb rfl
 have u3 := u3.stp hsb rfl
 have l5 := l5.stp hsb rfl
 have b3 := b3.stp hsb rfl
 clear hsa hsb
 subst hpp
 refine EL_nil (thn_n ?_)
 obtain ⟨x6, hx, h⟩ := bsome h
 refine E_join (fun e w => ∃ (g : Gh) , Fr gI wI g w ∧ e 4 = p3 ∧ OB 2004 g w 58 ((⟨[], [], [], 0⟩ : PayTable) : PayTable) p3 ∧ OSF 2004 60400 0 g w 23 58 (((⟨[], [], [], 0⟩ : PayTable)).Rows) p3 ∧ OSF 2004 60401 1 g w 3 58 (((⟨[], [], [], 0⟩ : PayTable)).Across) p3 ∧ OSF 2004 60402 2 g w 3 58 (((⟨[], [], [], 0⟩ : PayTable)).Down) p3 ∧ e 5 = (Value.pointer (some ⟨bk8, 0, none⟩)) ∧ OVb ow_PayTable 2005 g w 58 (x6 : PayTable) bk8) (fun Q' hQ => ?_) (fun sD xD hR => ?_)
 ·replace h := hx
  clear hx
  refine E_seq (E_region (EL_p (fPtr p2 0) (P_fieldAddr at_100_0 rfl (PT.ptr q2)) rfl ?_))
  have eD := PT_field (part_PayEntry_0).1 q2
  refine EL_do .plain rfl (D_load (g := g8) Tryz.isAgg98 Tryz.sizeOf98 rfl eD fun kE gD => ?_)
  obtain rfl := RV_int.1 gD
  refine EL_nil (thn_n (E_block ?_))
  refine E_seq (E_region (EL_in (.bool (((x1).Kind == (1 : Int)))) rfl rfl rfl rfl ?_))
  refine EL_at (.bool (((x1).Kind == (1 : Int)))) rfl rfl ?_
  refine EL_nil (thn_n ?_)
  rcases csome h with ⟨n8, h⟩ | ⟨n8, h⟩
  ·refine E_ct n8 rfl ?_
   refine L_loadH (x := .tmp 15) (Cxt.fld (Cxt.root ow_PayTable bk8) fl_PayTable_0 (y6) (sk5)) rfl rfl (ok5.1) Tryz.isAgg56 b8 fun iA => ?_
   have iD := PT_field (part_PayEntry_1).1 q2
   refine L_load (x := .tmp 17) Tryz.isAgg3 Tryz.sizeOf3 iD fun lE jD rA => ?_
   obtain rfl := RV_int.1 jD
   obtain ⟨i7, t5, h⟩ := bsome h
   obtain ⟨bb92, cc92, ss92, hq92, x5⟩ := (OV.slice b8 (Cxt.fld (Cxt.root ow_PayTable bk8) fl_PayTable_0 (y6) (sk5)) rfl rfl (ok5.1)).2 t5
   refine L_loadH (x := .tmp 19) (Cxt.idx (Cxt.fld (Cxt.root ow_PayTable bk8) fl_PayTable_0 (y6) (sk5)) ((y6).Rows) (Int.toNat ((x1).Row)) bb92 cc92 ss92 (idx_nat t5).2 x5) ((congrArg (fun q => ({ y6 with Rows := q } : PayTable)) (set_idx t5)).trans rfl) (((congrArg (fun q => ((Sl.at bb92 cc92 q), Prod.snd sk5)) (set_getD (by rw [x5]; exact (idx_nat t5).2))).trans (congrArg (fun q => (q, Prod.snd sk5)) (hq92).symm)).trans rfl) (ok_at (ok5.1) hq92 (by rw [x5]; exact (idx_nat t5).2)) Tryz.isAgg23 b8 fun yA => ?_
   have lD := PT_field (part_PayEntry_2).1 q2
   refine L_load (x := .tmp 21) Tryz.isAgg3 Tryz.sizeOf3 lD fun mE mD aB => ?_
   obtain rfl := RV_int.1 mD
   have nD := PT_field (part_PayEntry_3).1 q2
   refine L_load (x := .tmp 23) Tryz.isAgg3 Tryz.sizeOf3 nD fun nE oD dB => ?_
   obtain rfl := RV_int.1 oD
   obtain ⟨bD, m7, h⟩ := bsome h
   obtain ⟨bb100, cc100, ss100, hq100, n9⟩ := (OV.slice b8 (Cxt.idx (Cxt.fld (Cxt.root ow_PayTable bk8) fl_PayTable_0 (y6) (sk5)) ((y6).Rows) (Int.toNat ((x1).Row)) bb92 cc92 ss92 (idx_nat t5).2 x5) ((congrArg (fun q => ({ y6 with Rows := q } : PayTable)) (set_idx t5)).trans rfl) (((congrArg (fun q => ((Sl.at bb92 cc92 q), Prod.snd sk5)) (set_getD (by rw [x5]; exact (idx_nat t5).2))).trans (congrArg (fun q => (q, Prod.snd sk5)) (hq92).symm)).trans rfl) (ok_at (ok5.1) hq92 (by rw [x5]; exact (idx_nat t5).2))).2 m7
   refine E_drawL (g := g8) (n := 11) [] [0, 1, 2, 3, 4, 5, 6, 7, 8, 9, 10] rfl mixed (by kernel_rfl) trivial ?_
   refine L_p ((.pointer (some ⟨bk8, (0 + 0), none⟩))) rfl rfl (P_fieldAddrH at_58_0 rfl) ?_
   refine L_ld (c := (hdrV (Prod.fst sk5) ((y6).Rows).length)) rfl rfl .plain (fun _ _ h => ⟨h.ch, fun b hb _ => h.below.block b hb⟩) iA rfl ?_
   refine L_p (fPtr p2 1) rfl rfl (P_fieldAddr at_100_1 rfl (PT.ptr q2)) ?_
   refine L_ld (c := .int .i64 ((x1).Row)) rfl rfl .plain (fun _ _ h => h.ch) rA rfl ?_
   refine L_p ((.pointer (some ⟨bb92, ((Int.toNat ((x1).Row)) * 1), none⟩))) rfl rfl (P_indexH Tryz.underlying56 Tryz.sizeOf23 (rfl.trans (hdr_at hq92 _)) rfl (idx_nat t5)) ?_
   refine L_ld (c := (hdrV (List.getD ss92 (Int.toNat ((x1).Row)) ((Ow.list 3 (Ow.sh Int))).df) (i7).length)) rfl rfl .plain (fun _ _ h => ⟨h.ch, fun b hb _ => h.below.block b hb⟩) yA rfl ?_
   refine L_p (fPtr p2 2) rfl rfl (P_fieldAddr at_100_2 rfl (PT.ptr q2)) ?_
   refine L_ld (c := .int .i64 ((x1).Column)) rfl rfl .plain (fun _ _ h => h.ch) aB rfl ?_
   refine L_p (fPtr p2 3) rfl rfl (P_fieldAddr at_100_3 rfl (PT.ptr q2)) ?_
   refine L_ld (c := .int .i64 ((x1).Number)) rfl rfl .plain (fun _ _ h => h.ch) dB rfl ?_
   refine L_p ((.pointer (some ⟨bb100, ((Int.toNat ((x1).Column)) * 1), none⟩))) rfl rfl (P_indexH Tryz.underlying23 Tryz.sizeOf3 (rfl.trans (hdr_at hq100 _)) rfl (idx_nat m7)) ?_
   refine L_nl fun iB yD hs => ?_
   have hfr := hfr.ext hs
   have o0 := o0.ext hs
   have u3 := u3.ext hs
   have l5 := l5.ext hs
   have b3 := b3.ext hs
   have b8 := b8.ext hs
   clear hs
   refine EL_do .plain rfl (D_storeOV (g := iB) (u' := ((x1).Number : Int)) (Cxt.idx (Cxt.idx (Cxt.fld (Cxt.root ow_PayTable bk8) fl_PayTable_0 (y6) (sk5)) ((y6).Rows) (Int.toNat ((x1).Row)) bb92 cc92 ss92 (idx_nat t5).2 x5) (i7) (Int.toNat ((x1).Column)) bb100 cc100 ss100 (idx_nat m7).2 n9) ((congrArg (fun q => ({ y6 with Rows := (List.set ((y6).Rows) (Int.toNat ((x1).Row)) q) } : PayTable)) (set_idx m7)).trans ((congrArg (fun q => ({ y6 with Rows := q } : PayTable)) (set_idx t5)).trans rfl)) (((congrArg (fun q => ((Sl.at bb92 cc92 (List.set ss92 (Int.toNat ((x1).Row)) (Sl.at bb100 cc100 q))), Prod.snd sk5)) set_unit).trans (congrArg (fun q => ((Sl.at bb92 cc92 (List.set ss92 (Int.toNat ((x1).Row)) q)), Prod.snd sk5)) (hq100).symm)).trans (((congrArg (fun q => ((Sl.at bb92 cc92 q), Prod.snd sk5)) (set_getD (by rw [x5]; exact (idx_nat t5).2))).trans (congrArg (fun q => (q, Prod.snd sk5)) (hq92).symm)).trans rfl)) Tryz.sizeOf3 rfl b8 rfl (RV_int.2 rfl) fun v8 jB hs b126 => ?_)
   have hfr := hfr.stp hs
   have o0 := o0.stp hs rfl
   have u3 := u3.stp hs rfl
   have l5 := l5.stp hs rfl
   have b3 := b3.stp hs rfl
   replace b126 : OV ow_PayTable 2005 v8 jB 58 (({ y6 with Rows := (List.set ((y6).Rows) (Int.toNat ((x1).Row)) (List.set i7 (Int.toNat ((x1).Column)) (x1).Number)) } : PayTable) : PayTable) bk8 sk5 := b126
   refine EL_nil (blk_n ?_)
   obtain rfl := sinj h
   exact hQ _ _ ⟨v8, hfr, rfl, b3, o0, u3, l5, rfl, ⟨_, b126, ok5⟩⟩
  ·refine E_cf n8 rfl ?_
   refine E_seq (E_region (EL_in (.bool (((x1).Kind == (2 : Int)))) rfl rfl rfl rfl ?_))
   refine EL_at (.bool (((x1).Kind == (2 : Int)))) rfl rfl ?_
   refine EL_nil (thn_n ?_)
   rcases csome h with ⟨k8, h⟩ | ⟨k8, h⟩
   ·refine E_ct k8 rfl ?_
    refine E_region (EL_p ((.pointer (some ⟨bk8, (0 + 1), none⟩))) (P_fieldAddrH at_58_1 rfl) rfl ?_)
    refine EL_do .plain rfl (D_loadH (g := g8) (Cxt.fld (Cxt.root ow_PayTable bk8) fl_PayTable_1 (y6) (sk5)) rfl rfl ((ok5.2).1) Tryz.isAgg23 rfl b8 ?_)
    refine EL_p (fPtr p2 1) (P_fieldAddr at_100_1 rfl (PT.ptr q2)) rfl ?_
    have lB := PT_field (part_PayEntry_1).1 q2
    refine EL_do .plain rfl (D_load (g := g8) Tryz.isAgg3 Tryz.sizeOf3 rfl lB fun zD mB => ?_)
    obtain rfl := RV_int.1 mB
    refine EL_p (fPtr p2 3) (P_fieldAddr at_100_3 rfl (PT.ptr q2)) rfl ?_
    have nB := PT_field (part_PayEntry_3).1 q2
    refine EL_do .plain rfl (D_load (g := g8) Tryz.isAgg3 Tryz.sizeOf3 rfl nB fun aE oB => ?_)
    obtain rfl := RV_int.1 oB
    obtain ⟨y135, i6, h⟩ := bsome h
    obtain ⟨bb136, cc136, ss136, hq136, u9⟩ := (OV.slice b8 (Cxt.fld (Cxt.root ow_PayTable bk8) fl_PayTable_1 (y6) (sk5)) rfl rfl ((ok5.2).1)).2 i6
    refine EL_p ((.pointer (some ⟨bb136, ((Int.toNat ((x1).Row)) * 1), none⟩))) (P_indexH Tryz.underlying23 Tryz.sizeOf3 (rfl.trans (hdr_at hq136 _)) rfl (idx_nat i6)) rfl ?_
    refine EL_do .plain rfl (D_storeOV (g := g8) (u' := ((x1).Number : Int)) (Cxt.idx (Cxt.fld (Cxt.root ow_PayTable bk8) fl_PayTable_1 (y6) (sk5)) ((y6).Across) (Int.toNat ((x1).Row)) bb136 cc136 ss136 (idx_nat i6).2 u9) ((congrArg (fun q => ({ y6 with Across := q } : PayTable)) (set_idx i6)).trans rfl) (((congrArg (fun q => (Prod.fst sk5, ((Sl.at bb136 cc136 q), Prod.snd (Prod.snd sk5)))) set_unit).trans (congrArg (fun q => (Prod.fst sk5, (q, Prod.snd (Prod.snd sk5)))) (hq136).symm)).trans rfl) Tryz.sizeOf3 rfl b8 rfl (RV_int.2 rfl) fun x8 tB hs b138 => ?_)
    have hfr := hfr.stp hs
    have o0 := o0.stp hs rfl
    have u3 := u3.stp hs rfl
    have l5 := l5.stp hs rfl
    have b3 := b3.stp hs rfl
    replace b138 : OV ow_PayTable 2005 x8 tB 58 (({ y6 with Across := (List.set ((y6).Across) (Int.toNat ((x1).Row)) (x1).Number) } : PayTable) : PayTable) bk8 sk5 := b138
    refine EL_nil (blk_n ?_)
    obtain rfl := sinj h
    exact hQ _ _ ⟨x8, hfr, rfl, b3, o0, u3, l5, rfl, ⟨_, b138, ok5⟩⟩
   ·refine E_cf k8 rfl ?_
    refine E_seq (E_region (EL_in (.bool (((x1).Kind == (3 : Int)))) rfl rfl rfl rfl ?_))
    refine EL_at (.bool (((x1).Kind == (3 : Int)))) rfl rfl ?_
    refine EL_nil (thn_n ?_)
    rcases csome h with ⟨l8, h⟩ | ⟨l8, h⟩
    ·refine E_ct l8 rfl ?_
     refine E_region (EL_p ((.pointer (some ⟨bk8, (0 + 2), none⟩))) (P_fieldAddrH at_58_2 rfl) rfl ?_)
     refine EL_do .plain rfl (D_loadH (g := g8) (Cxt.fld (Cxt.root ow_PayTable bk8) fl_PayTable_2 (y6) (sk5)) rfl rfl (((ok5.2).2).1) Tryz.isAgg23 rfl b8 ?_)
     refine EL_p (fPtr p2 2) (P_fieldAddr at_100_2 rfl (PT.ptr q2)) rfl ?_
     have vB := PT_field (part_PayEntry_2).1 q2
     refine EL_do .plain rfl (D_load (g := g8) Tryz.isAgg3 Tryz.sizeOf3 rfl vB fun bE yB => ?_)
     obtain rfl := RV_int.1 yB
     refine EL_p (fPtr p2 3) (P_fieldAddr at_100_3 rfl (PT.ptr q2)) rfl ?_
     have zB := PT_field (part_PayEntry_3).1 q2
     refine EL_do .plain rfl (D_load (g := g8) Tryz.isAgg3 Tryz.sizeOf3 rfl zB fun cE cC => ?_)
     obtain rfl := RV_int.1 cC
     obtain ⟨bA, j6, h⟩ := bsome h
     obtain ⟨bb148, cc148, ss148, hq148, y9⟩ := (OV.slice b8 (Cxt.fld (Cxt.root ow_PayTable bk8) fl_PayTable_2 (y6) (sk5)) rfl rfl (((ok5.2).2).1)).2 j6
     refine EL_p ((.pointer (some ⟨bb148, ((Int.toNat ((x1).Column)) * 1), none⟩))) (P_indexH Tryz.underlying23 Tryz.sizeOf3 (rfl.trans (hdr_at hq148 _)) rfl (idx_nat j6)) rfl ?_
     refine EL_do .plain rfl (D_storeOV (g := g8) (u' := ((x1).Number : Int)) (Cxt.idx (Cxt.fld (Cxt.root ow_PayTable bk8) fl_PayTable_2 (y6) (sk5)) ((y6).Down) (Int.toNat ((x1).Column)) bb148 cc148 ss148 (idx_nat j6).2 y9) ((congrArg (fun q => ({ y6 with Down := q } : PayTable)) (set_idx j6)).trans rfl) (((congrArg (fun q => (Prod.fst sk5, (Prod.fst (Prod.snd sk5), ((Sl.at bb148 cc148 q), Prod.snd (Prod.snd (Prod.snd sk5)))))) set_unit).trans (congrArg (fun q => (Prod.fst sk5, (Prod.fst (Prod.snd sk5), (q, Prod.snd (Prod.snd (Prod.snd sk5)))))) (hq148).symm)).trans rfl) Tryz.sizeOf3 rfl b8 rfl (RV_int.2 rfl) fun a9 eC hs b150 => ?_)
     have hfr := hfr.stp hs
     have o0 := o0.stp hs rfl
     have u3 := u3.stp hs rfl
     have l5 := l5.stp hs rfl
     have b3 := b3.stp hs rfl
     replace b150 : OV ow_PayTable 2005 a9 eC 58 (({ y6 with Down := (List.set ((y6).Down) (Int.toNat ((x1).Column)) (x1).Number) } : PayTable) : PayTable) bk8 sk5 := b150
     refine EL_nil (blk_n ?_)
     obtain rfl := sinj h
     exact hQ _ _ ⟨a9, hfr, rfl, b3, o0, u3, l5, rfl, ⟨_, b150, ok5⟩⟩
    ·refine E_cf l8 rfl ?_
     refine E_region (EL_p (fPtr p2 3) (P_fieldAddr at_100_3 rfl (PT.ptr q2)) rfl ?_)
     have mC := PT_field (part_PayEntry_3).1 q2
     refine EL_do .plain rfl (D_load (g := g8) Tryz.isAgg3 Tryz.sizeOf3 rfl mC fun dE qC => ?_)
     obtain rfl := RV_int.1 qC
     refine EL_p ((.pointer (some ⟨bk8, (0 + 3), none⟩))) (P_fieldAddrH at_58_3 rfl) rfl ?_
     refine EL_do .plain rfl (D_storeOV (g := g8) (u' := ((x1).Number : Int)) (Cxt.fld (Cxt.root ow_PayTable bk8) fl_PayTable_3 (y6) (sk5)) rfl rfl Tryz.sizeOf3 rfl b8 rfl (RV_int.2 rfl) fun d9 rC hs b155 => ?_)
     have hfr := hfr.stp hs
     have o0 := o0.stp hs rfl
     have u3 := u3.stp hs rfl
     have l5 := l5.stp hs rfl
     have b3 := b3.stp hs rfl
     replace b155 : OV ow_PayTable 2005 d9 rC 58 (({ y6 with Total := (x1).Number } : PayTable) : PayTable) bk8 sk5 := b155
     refine EL_nil (blk_n ?_)
     obtain rfl := sinj h
     exact hQ _ _ ⟨d9, hfr, rfl, b3, o0, u3, l5, rfl, ⟨_, b155, ok5⟩⟩
 ·clear hx
  obtain ⟨eE, hfr, m8, d7, u4_0_156, u4_1_156, u4_2_156, k9, ⟨aD, l9, r8⟩⟩ := hR
  refine E_seq (E_region ?_)
  obtain ⟨go158, hs, b158⟩ := OV.toOB l9 r8
  have hfr := hfr.stp hs
  have d7 := d7.stp hs rfl
  refine EL_do .plain rfl (D_loadO (g := go158) Tryz.isAgg58 Tryz.sizeOf58 k9 b158 fun uC vC => ?_)
  refine EL_do .plain rfl (D_storeOc (g := go158) (v := uC) Tryz.sizeOf58 m8 d7 rfl vC fun iE jE hs b160 cb => ?_)
  clear cb
  have hfr := hfr.stp hs
  refine EL_nil (thn_n (E_ret ?_))
  obtain rfl := sinj h
  obtain ⟨ad161, cv161, hp161, z9, cr161⟩ := ob_read Tryz.isAgg58 Tryz.sizeOf58 b160
  exact endm_c rfl rfl ((show _ = p3 from m8).trans hp161) z9 ⟨_, hfr, cr161⟩
def f108 (x0 : List (List Int)) (x1 : (List Int) → Option Bool) : Option (Bool) :=
 (f129 x0 x1).bind fun y2 =>
 some ((decide (y2 ≥ (0 : Int))))
theorem en108 : Enters Tryz.prog 108 := enters_of Tryz.func108 (by kernel_rfl) rfl
theorem wk108 {gI : Gh} {wI : World} {x0 : List (List Int)} {x1 : (List Int) → Option Bool} {up0 : Value} (rp0 : RV gI.m wI x0 up0) {up1 : Value} (rp1 : FnV1 Tryz.prog x1 up1 gI wI) {r : Bool} (h : f108 x0 x1 = some r) : Fn Tryz.prog 108 #[up0, up1] gI wI (fun _ _ v => v = .bool (r)) := by
 unfold f108 at h
 refine fn_of_E Tryz.func108 rfl (Nat.le_of_ble_eq_true rfl) fun g0 hm hfr => ?_
 have rp0 : RV g0.m wI x0 up0 := hm ▸ rp0
 obtain ⟨ff1, fa1, fc1, rfl, fen1, fcl1⟩ := rp1
 show E _ 9 none _ _ _ _ _
 refine E_seq (E_region (EL_at (.bool false) rfl rfl ?_))
 refine EL_nil (thn_n (E_seq (E_region (EL_mw up0 rfl rfl ?_))))
 refine EL_mw ((.func (.func ff1) fa1 fc1)) rfl rfl ?_
 obtain ⟨y2, hy2, h⟩ := bsome h
 refine EL_do .plain rfl (D_call (g := g0) (vs := [up0, (.func (.func ff1) fa1 fc1)]) en129 (.cons rfl (.cons rfl .nil)) (wk129 rp0 (FnV1.ch ⟨_, _, _, rfl, fen1, fcl1⟩ hfr.ch) hy2) fun g1 w1_ v1 hs hr => ?_)
 have hfr := hfr.ext hs
 subst hr
 refine EL_in (.bool ((decide (y2 ≥ (0 : Int))))) rfl rfl rfl rfl ?_
 refine EL_at (.bool ((decide (y2 ≥ (0 : Int))))) rfl rfl ?_
 refine EL_nil (thn_n (E_ret ?_))
 obtain rfl := sinj h
 exact end1 rfl rfl (show _ = .bool ((decide (y2 ≥ (0 : Int)))) from rfl) ⟨_, hfr, rfl⟩
def f47 (x0 : PayTable) : Option ((List PayEntry)) :=
 (f73 x0).bind fun y5 =>
 Option.bind (α := (List PayEntry)) (
  lp (σ := (List PayEntry) × Int) (fun k114 (i6, o0) =>
   jn (σ := Unit) (fun _ =>
    Option.bind (α := (List PayEntry)) (
     (idx y5 o0).bind fun y171 =>
     (f74 x0 y171).bind fun y175 =>
     Option.bind (α := Bool) (
      (f31 y175).bind fun a9 =>
      bif (a9 == (0 : Int)) then
       (f32 y175).bind fun g8 =>
       bif (((g8).length : Int) == (0 : Int)) then
        (f46 y175).bind fun lB =>
        some (lB)
       else
        some (false)
      else
       some (false)
      ) fun d7 =>
     bif d7 then
      (idx y5 o0).bind fun mB =>
      (apnd 32 i6 (([mB] : List PayEntry))).bind fun zB =>
      some (zB)
     else
      some (i6)
     ) fun k8 =>
    k114 (k8, (w64 (o0 + (1 : Int))))
    ) fun cC =>
   bif (decide (o0 < ((y5).length : Int))) then
    cC ()
   else
    some (i6)
   ) big (([] : List PayEntry), (0 : Int))
  ) fun l8 =>
 some (l8)
theorem en47 : Enters Tryz.prog 47 := enters_of Tryz.func47 (by kernel_rfl) rfl
theorem wk47 {gI : Gh} {wI : World} {x0 : PayTable} {up0 : Value} (rp0 : RV gI.m wI x0 up0) {r : (List PayEntry)} (h : f47 x0 = some r) : Fn Tryz.prog 47 #[up0] gI wI (fun m w v => RV m w (r) v) := by
 unfold f47 at h
 refine fn_of_E Tryz.func47 rfl (Nat.le_of_ble_eq_true rfl) fun g0 hm hfr => ?_
 have rp0 : RV g0.m wI x0 up0 := hm ▸ rp0
 show E _ 43 none _ _ _ _ _
 refine E_seq (E_region (EL_do .plain rfl (D_box (g := g0) rfl rp0 fun g1 w1 p1 hs q1 => ?_)))
 have hfr := hfr.ext hs
 refine EL_at (.slice none 0 0) rfl rfl ?_
 refine EL_nil (thn_n (E_seq (E_region (EL_do .plain rfl (D_buildSlice (g := g1) 3007 (xs := ([] : List PayEntry)) (vs := []) Tryz.underlying110 Tryz.sizeOf100 Tryz.zeroValue100 rfl rfl .nil RVs.nil rfl rfl fun g2 w2 v2 hs o2 r2 hxt hfl => ?_)))))
 have hfr := hfr.stp hs
 have q1 := q1.stp hs
 refine EL_do .plain rfl (D_load (g := g2) Tryz.isAgg58 Tryz.sizeOf58 rfl q1 fun v3 r3 => ?_)
 obtain ⟨y5, hy5, h⟩ := bsome h
 refine EL_do .plain rfl (D_call (g := g2) (vs := [v3]) en73 (.cons rfl .nil) (wk73 r3 hy5) fun g4 w4_ v4 hs hr => ?_)
 have hfr := hfr.ext hs
 have q1 := q1.ext hs
 have r2 := r2.ext hs
 have o2 := o2.ext hs
 have r4 := hr
 refine EL_at v2 rfl rfl ?_
 refine EL_at v4 rfl rfl ?_
 refine EL_nil (thn_n ?_)
 obtain ⟨l8, hx, h⟩ := bsome h
 refine E_join (fun e w => ∃ (g : Gh) (v3 : Value), Fr gI wI g w ∧ e 3 = v3 ∧ RV g.m w (l8 : List PayEntry) v3 ∧ OS 3007 g w 100 (l8 : List PayEntry) v3) (fun Q' hQ => ?_) (fun rF aG hR => ?_)
 ·replace h := hx
  clear hx
  refine E_seq (E_region (EL_at (.int .i64 (0)) rfl rfl ?_))
  refine EL_nil (thn_n (E_block ?_))
  refine E_lp h (fun (s : (List PayEntry) × Int) e w => ∃ (g : Gh) (v3 : Value), Fr gI wI g w ∧ e 1 = p1 ∧ PT g.m w (x0 : PayTable) p1 ∧ e 3 = v3 ∧ RV g.m w (s.1 : List PayEntry) v3 ∧ OS 3007 g w 100 (s.1 : List PayEntry) v3 ∧ e 4 = v4 ∧ RV g.m w (y5 : List PayEntry) v4 ∧ e 5 = .int .i64 (s.2)) ⟨g4, (v2), hfr, rfl, q1, rfl, r2, o2, rfl, r4, rfl⟩ (fun X114 k114 uD => ?_)
  rintro ⟨i6, o0⟩ sF bG ⟨eC, j6, hfr, mC, qC, z9, bA, iA, rA, yA, aB⟩ h
  refine E_joinC h (fun (s : Unit) e w => ∃ (g : Gh) , Fr gI wI g w ∧ e 1 = p1 ∧ PT g.m w (x0 : PayTable) p1 ∧ e 3 = j6 ∧ RV g.m w (i6 : List PayEntry) j6 ∧ OS 3007 g w 100 (i6 : List PayEntry) j6 ∧ e 4 = v4 ∧ RV g.m w (y5 : List PayEntry) v4 ∧ e 5 = .int .i64 (o0)) (fun X117 cC vD h => ?_) ?_
  ·refine E_seq (E_region (EL_mv aB rfl ?_))
   refine EL_mv rA rfl ?_
   refine EL_p (.int .i64 ((y5).length : Int)) (P_len Tryz.underlying110 rfl yA) rfl ?_
   refine EL_in (.bool ((decide (o0 < ((y5).length : Int))))) rfl rfl rfl rfl ?_
   refine EL_nil (thn_n ?_)
   rcases csome h with ⟨u9, h⟩ | ⟨u9, h⟩
   ·refine E_ct u9 rfl ?_
    exact E_skip (thn_n (vD () _ _ ⟨eC, hfr, mC, qC, z9, bA, iA, rA, yA, aB⟩ h))
   ·refine E_cf u9 rfl ?_
    refine E_exit ?_
    refine thn_e ?_
    refine thn_e ?_
    refine blk_hit ?_
    obtain rfl := sinj h
    exact hQ _ _ ⟨eC, (j6), hfr, z9, bA, iA⟩
  ·rintro _ tF cG ⟨eE, hfr, m8, l5, d9, t5, x5, n8, u3, r8⟩ h
   obtain ⟨k8, hx, h⟩ := bsome h
   refine E_join (fun e w => ∃ (g : Gh) (v3 : Value), Fr gI wI g w ∧ e 1 = p1 ∧ PT g.m w (x0 : PayTable) p1 ∧ e 3 = v3 ∧ RV g.m w (k8 : List PayEntry) v3 ∧ OS 3007 g w 100 (k8 : List PayEntry) v3 ∧ e 4 = v4 ∧ RV g.m w (y5 : List PayEntry) v4 ∧ e 5 = .int .i64 (o0)) (fun Q' hQ => ?_) (fun uF eG hR => ?_)
   ·replace h := hx
    clear hx
    refine E_block ?_
    refine E_seq (L_load (x := .tmp 1) Tryz.isAgg58 Tryz.sizeOf58 l5 fun rC iE xD => ?_)
    obtain ⟨y171, vB, h⟩ := bsome h
    have jE := PT_idx u3 vB
    refine L_load (x := .tmp 19) Tryz.isAgg100 Tryz.sizeOf100 jE fun uC kE yD => ?_
    obtain ⟨y175, zD, h⟩ := bsome h
    refine E_drawL (g := eE) (n := 7) [(5, (fun v g w => RV g.m w y175 v)), (6, (fun v g w => OB 2006 g w 58 (⟨[], [], [], 0⟩ : PayTable) v))] [0, 1, 2, 3, 4, 5, 6] rfl mixed (by kernel_rfl) (⟨fun _ => up_rv, fun _ => up_ob, trivial⟩) ?_
    refine L_ld (c := rC) rfl rfl .plain (fun _ _ h => h.ch) xD m8 ?_
    refine L_p v4 rfl rfl (P_move n8) ?_
    refine L_p (.int .i64 (o0)) rfl rfl (P_move r8) ?_
    refine L_p (ePtr v4 o0 4) rfl rfl (P_indexAddr (α := PayEntry) Tryz.underlying110 Tryz.sizeOf100 rfl u3 rfl vB) ?_
    refine L_ld (c := uC) rfl rfl .plain (fun _ _ h => h.ch) yD rfl ?_
    refine L_do (φ := fun v g w => RV g.m w y175 v) rfl rfl .plain (fun g w hd => D_call (g := g) (vs := [rC, uC]) en74 (.cons rfl (.cons rfl .nil)) (wk74 (iE.ext hd.1) (kE.ext hd.1) zD) fun g' w' v hs hr => ⟨g', hs, hr⟩) (fun vC hv => ?_)
    obtain ⟨_, _, _, rq174⟩ := hv
    refine L_do (φ := fun v g w => OB 2006 g w 58 (⟨[], [], [], 0⟩ : PayTable) v) rfl rfl .plain (fun g w hd => D_allocX (g := g) 2006 (⟨[], [], [], 0⟩ : PayTable) Tryz.zeroValue58 (fun m w => ⟨_, (rep_two rep_nil (rep_two rep_nil (rep_two rep_nil rep_int))), rfl⟩) fun g' w' v hs b => ⟨g', hs, b⟩) (fun lE hv => ?_)
    clear hv
    refine L_nil fun mE gG hall => ?_
    have hs := hall.1
    have hfr := hfr.ext hs
    have l5 := l5.ext hs
    have t5 := t5.ext hs
    have x5 := x5.ext hs
    have u3 := u3.ext hs
    have nE := (word_all (A := fun g w => RV g.m w y175 vC) 5 rfl hall)
    have b188 := (word_all (A := fun g w => OB 2006 g w 58 (⟨[], [], [], 0⟩ : PayTable) lE) 6 rfl hall)
    clear hs hall
    refine EL_do .plain rfl (D_storeOc (g := mE) (v := vC) Tryz.sizeOf58 rfl b188 rfl nE fun aD hG hs b189 cb => ?_)
    clear cb
    have hfr := hfr.stp hs
    have l5 := l5.stp hs
    have t5 := t5.stp hs
    have x5 := x5.stp hs rfl
    have u3 := u3.stp hs
    refine EL_nil (thn_n ?_)
    obtain ⟨d7, hx, h⟩ := bsome h
    refine E_join (fun e w => ∃ (g : Gh) , Fr gI wI g w ∧ e 1 = p1 ∧ PT g.m w (x0 : PayTable) p1 ∧ e 3 = j6 ∧ RV g.m w (i6 : List PayEntry) j6 ∧ OS 3007 g w 100 (i6 : List PayEntry) j6 ∧ e 4 = v4 ∧ RV g.m w (y5 : List PayEntry) v4 ∧ e 5 = .int .i64 (o0) ∧ e 34 = .bool (d7)) (fun Q' hQ => ?_) (fun vF iG hR => ?_)
    ·replace h := hx
     clear hx
     refine E_region (EL_do .plain rfl (D_loadO (g := aD) Tryz.isAgg58 Tryz.sizeOf58 rfl b189 fun oE rE => ?_))
     obtain ⟨a9, aE, h⟩ := bsome h
     refine EL_do .plain rfl (D_call (g := aD) (vs := [oE]) en31 (.cons rfl .nil) (wk31 rE aE) fun nB xF jG hs hr => ?_)
     have hfr := hfr.ext hs
     have l5 := l5.ext hs
     have t5 := t5.ext hs
     have x5 := x5.ext hs
     have u3 := u3.ext hs
     have b189 := b189.ext hs
     subst hr
     refine EL_in (.bool ((a9 == (0 : Int)))) rfl rfl rfl rfl ?_
     refine EL_mw (.bool ((a9 == (0 : Int)))) rfl rfl ?_
     rcases csome h with ⟨y6, h⟩ | ⟨y6, h⟩
     ·refine EL_do (.yes2 rfl rfl y6) rfl (D_loadO (g := nB) Tryz.isAgg58 Tryz.sizeOf58 rfl b189 fun sE tE => ?_)
      obtain ⟨g8, bE, h⟩ := bsome h
      refine EL_do (.yes2 rfl rfl y6) rfl (D_call (g := nB) (vs := [sE]) en32 (.cons rfl .nil) (wk32 tE bE) fun oB yF kG hs hr => ?_)
      have hfr := hfr.ext hs
      have l5 := l5.ext hs
      have t5 := t5.ext hs
      have x5 := x5.ext hs
      have u3 := u3.ext hs
      have b189 := b189.ext hs
      have uE := hr
      refine EL_y (.int .i64 ((g8).length : Int)) (P_len Tryz.underlying62 rfl uE) rfl rfl y6 rfl ?_
      refine EL_y (.bool ((((g8).length : Int) == (0 : Int)))) (P_int rfl rfl rfl) rfl rfl y6 rfl ?_
      refine EL_p (.bool ((((g8).length : Int) == (0 : Int)))) (P_pick (b := (a9 == (0 : Int))) rfl (pick_t y6 rfl)) rfl ?_
      refine EL_mw (.bool ((((g8).length : Int) == (0 : Int)))) rfl rfl ?_
      rcases csome h with ⟨m7, h⟩ | ⟨m7, h⟩
      ·refine EL_do (.yes2 rfl rfl m7) rfl (D_loadO (g := oB) Tryz.isAgg58 Tryz.sizeOf58 rfl b189 fun vE xE => ?_)
       obtain ⟨lB, cE, h⟩ := bsome h
       refine EL_do (.yes2 rfl rfl m7) rfl (D_call (g := oB) (vs := [vE]) en46 (.cons rfl .nil) (wk46 xE cE) fun yE zF lG hs hr => ?_)
       have hfr := hfr.ext hs
       have l5 := l5.ext hs
       have t5 := t5.ext hs
       have x5 := x5.ext hs
       have u3 := u3.ext hs
       subst hr
       refine EL_p (.bool (lB)) (P_pick (b := (((g8).length : Int) == (0 : Int))) rfl (pick_t m7 rfl)) rfl ?_
       refine EL_nil ?_
       obtain rfl := sinj h
       exact hQ _ _ ⟨yE, hfr, m8, l5, d9, t5, x5, n8, u3, r8, rfl⟩
      ·refine EL_s rfl rfl m7 rfl rfl ?_
       refine EL_s rfl rfl m7 rfl rfl ?_
       refine EL_p (.bool false) (P_pick (b := (((g8).length : Int) == (0 : Int))) rfl (pick_f m7 rfl)) rfl ?_
       refine EL_nil ?_
       obtain rfl := sinj h
       exact hQ _ _ ⟨oB, hfr, m8, l5, d9, t5, x5, n8, u3, r8, rfl⟩
     ·refine EL_s rfl rfl y6 rfl rfl ?_
      iterate 3 refine EL_s rfl rfl y6 rfl rfl ?_
      refine EL_p (.bool false) (P_pick (b := (a9 == (0 : Int))) rfl (pick_f y6 rfl)) rfl ?_
      refine EL_dead 4 rfl ?_
      refine EL_nil ?_
      obtain rfl := sinj h
      exact hQ _ _ ⟨nB, hfr, m8, l5, d9, t5, x5, n8, u3, r8, rfl⟩
    ·clear hx
     obtain ⟨tB, hfr, dB, i7, iB, v8, x8, k9, x6, l9, n9⟩ := hR
     rcases csome h with ⟨y9, h⟩ | ⟨y9, h⟩
     ·refine E_cond_true (Eq.trans (show ev _ _ = .bool (d7) from n9) (congrArg Value.bool y9)) ?_
      refine E_region (EL_mv iB rfl ?_)
      refine EL_mv k9 rfl ?_
      refine EL_mv l9 rfl ?_
      obtain ⟨mB, yB, h⟩ := bsome h
      refine EL_p (ePtr v4 o0 4) (P_indexAddr (α := PayEntry) Tryz.underlying110 Tryz.sizeOf100 rfl x6 rfl yB) rfl ?_
      have zE := PT_idx x6 yB
      refine EL_do .plain rfl (D_load (g := tB) Tryz.isAgg100 Tryz.sizeOf100 rfl zE fun cF dF => ?_)
      refine EL_do .plain rfl (D_buildSlice (g := tB) 3040 (xs := ([mB] : List PayEntry)) (vs := [cF]) Tryz.underlying110 Tryz.sizeOf100 Tryz.zeroValue100 rfl rfl (.cons rfl .nil) (RVs.cons dF RVs.nil) rfl rfl fun eF mG nG hs o217 iF hxt hfl => ?_)
      have hfr := hfr.stp hs
      have i7 := i7.stp hs
      have v8 := v8.stp hs
      have x8 := x8.stp hs rfl
      have x6 := x6.stp hs
      obtain ⟨zB, dE, h⟩ := bsome h
      refine EL_do .plain rfl (D_append (g := eF) (i := 3007) Tryz.underlying110 info_100 rfl rfl x8 v8 rfl iF dE fun nF oG bD hs o218 oF _ => ?_)
      have hfr := hfr.stp hs
      have i7 := i7.stp hs
      have x6 := x6.stp hs
      refine EL_at bD rfl rfl ?_
      refine EL_nil (blk_n ?_)
      obtain rfl := sinj h
      exact hQ _ _ ⟨nF, (bD), hfr, dB, i7, rfl, oF, o218, k9, x6, l9⟩
     ·refine E_cond_false (Eq.trans (show ev _ _ = .bool (d7) from n9) (congrArg Value.bool y9)) ?_
      refine E_skip (blk_n ?_)
      obtain rfl := sinj h
      exact hQ _ _ ⟨tB, (j6), hfr, dB, i7, iB, v8, x8, k9, x6, l9⟩
   ·clear hx
    obtain ⟨pF, cD, hfr, eD, gD, iD, jD, lD, mD, nD, oD⟩ := hR
    refine E_region (EL_mv oD rfl ?_)
    refine EL_in (.int .i64 ((w64 (o0 + (1 : Int))))) rfl rfl rfl rfl ?_
    refine EL_at (.int .i64 ((w64 (o0 + (1 : Int))))) rfl rfl ?_
    exact EL_nil (thn_n (uD (k8, (w64 (o0 + (1 : Int)))) _ _ ⟨pF, (cD), hfr, eD, gD, iD, jD, lD, mD, nD, rfl⟩ h))
 ·clear hx
  obtain ⟨sG, jB, hfr, sD, tD, qF⟩ := hR
  refine E_seq (E_region (EL_mv sD rfl ?_))
  refine EL_at jB rfl rfl ?_
  refine EL_nil (thn_n (E_ret ?_))
  obtain rfl := sinj h
  exact end1 rfl rfl (show _ = jB from rfl) ⟨_, hfr, tD⟩
def f54 (x0 : Int) (x1 : Int) (x2 : List Int) : Option (Bool) :=
 (f68 x2 ((fun a0 => f78 a0 x0 x1))).bind fun y4 =>
 some ((!y4))
theorem en54 : Enters Tryz.prog 54 := enters_of Tryz.func54 (by kernel_rfl) rfl
theorem wk54 {gI : Gh} {wI : World} {x0 : Int} {x1 : Int} {x2 : List Int} {up2 : Value} (rp2 : RV gI.m wI x2 up2) {r : Bool} (h : f54 x0 x1 x2 = some r) : Fn Tryz.prog 54 #[.int .i64 (x0), .int .i64 (x1), up2] gI wI (fun _ _ v => v = .bool (r)) := by
 unfold f54 at h
 refine fn_of_E Tryz.func54 rfl (Nat.le_of_ble_eq_true rfl) fun g0 hm hfr => ?_
 have rp2 : RV g0.m wI x2 up2 := hm ▸ rp2
 show E _ 11 none _ _ _ _ _
 refine E_seq (E_region (EL_do .plain rfl (D_box (g := g0) rfl (RV_int.2 rfl) fun g1 w1 p1 hs q1 => ?_)))
 have hfr := hfr.ext hs
 have rp2 := rp2.ext hs
 refine EL_do .plain rfl (D_box (g := g1) rfl (RV_int.2 rfl) fun g2 w2 p2 hs q2 => ?_)
 have hfr := hfr.ext hs
 have rp2 := rp2.ext hs
 have q1 := q1.ext hs
 refine EL_at (.bool false) rfl rfl ?_
 refine EL_nil (thn_n (E_seq (E_region (EL_mw up2 rfl rfl ?_))))
 refine EL_p ((.func (.func 78) #[] #[p1, p2])) (P_makeFunc (capf_0_2 (show ev _ _ = p1 from rfl) (show ev _ _ = p2 from rfl))) rfl ?_
 obtain ⟨y4, o0, h⟩ := bsome h
 refine EL_do .plain rfl (D_call (g := g2) (vs := [up2, (.func (.func 78) #[] #[p1, p2])]) en68 (.cons rfl (.cons rfl .nil)) (wk68 rp2 ⟨78, #[], #[p1, p2], rfl, en78, fun g' w' hch a0 b0 r hu0 hr => by obtain rfl := RV_int.1 hu0; exact Fn.mono (wk78  (q1.ch hch) (q2.ch hch) hr) fun _ _ _ h => RV_bool.2 h⟩ o0) fun g3 w3_ v3 hs hr => ?_)
 have hfr := hfr.ext hs
 subst hr
 refine EL_p (.bool (!y4)) (P_not rfl) rfl ?_
 refine EL_at (.bool (!y4)) rfl rfl ?_
 refine EL_nil (thn_n (E_ret ?_))
 obtain rfl := sinj h
 exact end1 rfl rfl (show _ = .bool (!y4) from rfl) ⟨_, hfr, rfl⟩
def f72 (x0 : List Int) : Option (Bool) :=
 (f54 ((0 : Int)) ((1000000000 : Int)) x0).bind fun y2 =>
 some (y2)
theorem en72 : Enters Tryz.prog 72 := enters_of Tryz.func72 (by kernel_rfl) rfl
theorem wk72 {gI : Gh} {wI : World} {x0 : List Int} {up0 : Value} (rp0 : RV gI.m wI x0 up0) {r : Bool} (h : f72 x0 = some r) : Fn Tryz.prog 72 #[up0] gI wI (fun _ _ v => v = .bool (r)) := by
 unfold f72 at h
 refine fn_of_E Tryz.func72 rfl (Nat.le_of_ble_eq_true rfl) fun g0 hm hfr => ?_
 have rp0 : RV g0.m wI x0 up0 := hm ▸ rp0
 show E _ 5 none _ _ _ _ _
 refine E_seq (E_region (EL_at (.bool false) rfl rfl ?_))
 refine EL_nil (thn_n (E_seq (E_region (EL_mw up0 rfl rfl ?_))))
 obtain ⟨y2, hy2, h⟩ := bsome h
 refine EL_do .plain rfl (D_call (g := g0) (vs := [.int .i64 (0), .int .i64 (1000000000), up0]) en54 (.cons rfl (.cons rfl (.cons rfl .nil))) (wk54 rp0 hy2) fun g1 w1_ v1 hs hr => ?_)
 have hfr := hfr.ext hs
 subst hr
 refine EL_at (.bool (y2)) rfl rfl ?_
 refine EL_nil (thn_n (E_ret ?_))
 obtain rfl := sinj h
 exact end1 rfl rfl (show _ = .bool (y2) from rfl) ⟨_, hfr, rfl⟩
def f84 (x0 : PaySheet) : Option (Bool) :=
 Option.bind (α := Bool) (
  bif (decide (((((x0).PayTable).Rows).length : Int) > (6 : Int))) then
   some (true)
  else
   (f108 (((x0).PayTable).Rows) ((fun a0 => f109 a0))).bind fun l5 =>
   some (l5)
  ) fun u3 =>
 some (u3)
theorem en84 : Enters Tryz.prog 84 := enters_of Tryz.func84 (by kernel_rfl) rfl
theorem wk84 {gI : Gh} {wI : World} {x0 : PaySheet} {up0 : Value} (rp0 : RV gI.m wI x0 up0) {r : Bool} (h : f84 x0 = some r) : Fn Tryz.prog 84 #[up0] gI wI (fun _ _ v => v = .bool (r)) := by
 unfold f84 at h
 refine fn_of_E Tryz.func84 rfl (Nat.le_of_ble_eq_true rfl) fun g0 hm hfr => ?_
 have rp0 : RV g0.m wI x0 up0 := hm ▸ rp0
 show E _ 14 none _ _ _ _ _
 refine E_seq (E_region (EL_do .plain rfl (D_box (g := g0) rfl rp0 fun g1 w1 p1 hs q1 => ?_)))
 have hfr := hfr.ext hs
 refine EL_at (.bool false) rfl rfl ?_
 refine EL_nil (thn_n ?_)
 obtain ⟨u3, hx, h⟩ := bsome h
 refine E_join (fun e w => ∃ (g : Gh) , Fr gI wI g w ∧ e 2 = .bool (u3)) (fun Q' hQ => ?_) (fun k8 m8 hR => ?_)
 ·replace h := hx
  clear hx
  refine E_region (EL_p (fPtr p1 0) (P_fieldAddr at_132_0 rfl (PT.ptr q1)) rfl ?_)
  have x5 := PT_field (part_PaySheet_0).1 q1
  refine EL_p (fPtr (fPtr p1 0) 0) (P_fieldAddr at_58_0 rfl (PT.ptr x5)) rfl ?_
  have x6 := PT_field (part_PayTable_0).1 x5
  refine EL_do .plain rfl (D_load (g := g1) Tryz.isAgg56 Tryz.sizeOf56 rfl x6 fun n8 y6 => ?_)
  refine EL_p (.int .i64 ((((x0).PayTable).Rows).length : Int)) (P_len Tryz.underlying56 rfl y6) rfl ?_
  refine EL_p (.bool ((decide (((((x0).PayTable).Rows).length : Int) > (6 : Int))))) (P_int rfl rfl rfl) rfl ?_
  refine EL_p (.bool ((decide (((((x0).PayTable).Rows).length : Int) > (6 : Int))))) (P_move rfl) rfl ?_
  rcases csome h with ⟨o0, h⟩ | ⟨o0, h⟩
  ·refine EL_s rfl rfl o0 rfl rfl ?_
   iterate 3 refine EL_s rfl rfl o0 rfl rfl ?_
   refine EL_p (.bool true) (P_pick (b := (decide (((((x0).PayTable).Rows).length : Int) > (6 : Int)))) rfl (pick_t o0 rfl)) rfl ?_
   refine EL_at (.bool true) rfl rfl ?_
   refine EL_nil ?_
   obtain rfl := sinj h
   exact hQ _ _ ⟨g1, hfr, rfl⟩
  ·refine EL_y (fPtr p1 0) (P_fieldAddr at_132_0 rfl (PT.ptr q1)) rfl rfl o0 rfl ?_
   have i6 := PT_field (part_PaySheet_0).1 q1
   refine EL_y (fPtr (fPtr p1 0) 0) (P_fieldAddr at_58_0 rfl (PT.ptr i6)) rfl rfl o0 rfl ?_
   have d7 := PT_field (part_PayTable_0).1 i6
   refine EL_do (.yes2 rfl rfl o0) rfl (D_load (g := g1) Tryz.isAgg56 Tryz.sizeOf56 rfl d7 fun i7 m7 => ?_)
   obtain ⟨l5, j6, h⟩ := bsome h
   refine EL_do (.yes2 rfl rfl o0) rfl (D_call (g := g1) (vs := [i7, .func (.func 109) #[] #[]]) en108 (.cons rfl (.cons rfl .nil)) (wk108 m7 ⟨109, #[], #[], rfl, en109, fun g' w' hch a0 b0 r hu0 hr => by exact Fn.mono (wk109 hu0  hr) fun _ _ _ h => RV_bool.2 h⟩ j6) fun g8 l8 r8 hs hr => ?_)
   have hfr := hfr.ext hs
   subst hr
   refine EL_p (.bool (l5)) (P_pick (b := (decide (((((x0).PayTable).Rows).length : Int) > (6 : Int)))) rfl (pick_f o0 rfl)) rfl ?_
   refine EL_at (.bool (l5)) rfl rfl ?_
   refine EL_nil ?_
   obtain rfl := sinj h
   exact hQ _ _ ⟨g8, hfr, rfl⟩
 ·clear hx
  obtain ⟨v8, hfr, t5⟩ := hR
  refine E_ret ?_
  obtain rfl := sinj h
  exact end1 rfl rfl (show _ = .bool (u3) from t5) ⟨_, hfr, rfl⟩
def f85 (x0 : PaySheet) : Option (Bool) :=
 jn (σ := Unit) (fun _ =>
  (f108 (((x0).PayTable).Rows) ((fun a0 => f110 a0 x0))).bind fun y6 =>
  some ((!y6))
  ) fun bA =>
 Option.bind (α := Bool) (
  bif (((((x0).PayTable).Rows).length : Int) == (0 : Int)) then
   some (true)
  else
   (idx (((x0).PayTable).Rows) (0 : Int)).bind fun t5 =>
   bif (((t5).length : Int) == (0 : Int)) then
    some (true)
   else
    bif (((((x0).PayTable).Across).length : Int) != ((((x0).PayTable).Rows).length : Int)) then
     some (true)
    else
     (idx (((x0).PayTable).Rows) (0 : Int)).bind fun d7 =>
     some ((((((x0).PayTable).Down).length : Int) != ((d7).length : Int)))
  ) fun x5 =>
 bif x5 then
  some (false)
 else
  bA ()
theorem en85 : Enters Tryz.prog 85 := enters_of Tryz.func85 (by kernel_rfl) rfl
theorem wk85 {gI : Gh} {wI : World} {x0 : PaySheet} {up0 : Value} (rp0 : RV gI.m wI x0 up0) {r : Bool} (h : f85 x0 = some r) : Fn Tryz.prog 85 #[up0] gI wI (fun _ _ v => v = .bool (r)) := by
 unfold f85 at h
 refine fn_of_E Tryz.func85 rfl (Nat.le_of_ble_eq_true rfl) fun g0 hm hfr => ?_
 have rp0 : RV g0.m wI x0 up0 := hm ▸ rp0
 show E _ 47 none _ _ _ _ _
 refine E_seq (E_region (EL_do .plain rfl (D_box (g := g0) rfl rp0 fun g1 w1 p1 hs q1 => ?_)))
 have hfr := hfr.ext hs
 refine EL_at (.bool false) rfl rfl ?_
 refine EL_nil (thn_n (E_joinC h (fun (s : Unit) e w => ∃ (g : Gh) , Fr gI wI g w ∧ e 1 = p1 ∧ PT g.m w (x0 : PaySheet) p1) (fun X395 bA vB h => ?_) ?_))
 ·obtain ⟨x5, hx, h⟩ := bsome h
  refine E_join (fun e w => ∃ (g : Gh) , Fr gI wI g w ∧ e 1 = p1 ∧ PT g.m w (x0 : PaySheet) p1 ∧ e 40 = .bool (x5)) (fun Q' hQ => ?_) (fun xD aE hR => ?_)
  ·replace h := hx
   clear hx
   have i7 := PT_field (part_PaySheet_0).1 q1
   have mC := PT_field (part_PayTable_0).1 i7
   refine L_load (x := .tmp 4) Tryz.isAgg56 Tryz.sizeOf56 mC fun k8 l8 j6 => ?_
   rcases csome h with ⟨o0, h⟩ | ⟨o0, h⟩
   ·refine E_drawL (g := g1) (n := 38) [] [0, 1, 2, 3, 4, 5, 6, 7, 8, 9, 10, 11, 12, 13, 14, 15, 16, 17, 18, 19, 20, 21, 22, 23, 24, 25, 26, 27, 28, 29, 30, 31, 32, 33, 34, 35, 36, 37] rfl mixed (by kernel_rfl) trivial ?_
    refine L_p (fPtr p1 0) rfl rfl (P_fieldAddr at_132_0 rfl (PT.ptr q1)) ?_
    refine L_p (fPtr (fPtr p1 0) 0) rfl rfl (P_fieldAddr at_58_0 rfl (PT.ptr i7)) ?_
    refine L_ld (c := k8) rfl rfl .plain (fun _ _ h => h.ch) j6 rfl ?_
    refine L_p (.int .i64 ((((x0).PayTable).Rows).length : Int)) rfl rfl (P_len Tryz.underlying56 rfl l8) ?_
    refine L_p (.bool ((((((x0).PayTable).Rows).length : Int) == (0 : Int)))) rfl rfl (P_int rfl rfl rfl) ?_
    refine L_p (.bool ((((((x0).PayTable).Rows).length : Int) == (0 : Int)))) rfl rfl (P_move rfl) ?_
    iterate 7 refine L_s rfl rfl rfl o0 rfl ?_
    refine L_p (.bool true) rfl rfl (P_pick (b := (((((x0).PayTable).Rows).length : Int) == (0 : Int))) rfl (pick_t o0 rfl)) ?_
    refine L_dead (fun _ => rfl) 24 rfl ?_
    refine L_nl fun qC bE hs => ?_
    have hfr := hfr.ext hs
    have q1 := q1.ext hs
    clear hs
    refine EL_nil ?_
    obtain rfl := sinj h
    exact hQ _ _ ⟨qC, hfr, rfl, q1, rfl⟩
   ·have m8 := PT_field (part_PaySheet_0).1 q1
    have rC := PT_field (part_PayTable_0).1 m8
    refine L_load (x := .tmp 10) Tryz.isAgg56 Tryz.sizeOf56 rC fun i6 n8 r8 => ?_
    obtain ⟨t5, x6, h⟩ := bsome h
    have uC := PT_idx n8 x6
    refine L_load (x := .tmp 12) Tryz.isAgg23 Tryz.sizeOf23 uC fun d9 k9 v8 => ?_
    rcases csome h with ⟨u3, h⟩ | ⟨u3, h⟩
    ·refine E_drawL (g := g1) (n := 38) [] [0, 1, 2, 3, 4, 5, 6, 7, 8, 9, 10, 11, 12, 13, 14, 15, 16, 17, 18, 19, 20, 21, 22, 23, 24, 25, 26, 27, 28, 29, 30, 31, 32, 33, 34, 35, 36, 37] rfl mixed (by kernel_rfl) trivial ?_
     refine L_p (fPtr p1 0) rfl rfl (P_fieldAddr at_132_0 rfl (PT.ptr q1)) ?_
     refine L_p (fPtr (fPtr p1 0) 0) rfl rfl (P_fieldAddr at_58_0 rfl (PT.ptr i7)) ?_
     refine L_ld (c := k8) rfl rfl .plain (fun _ _ h => h.ch) j6 rfl ?_
     refine L_p (.int .i64 ((((x0).PayTable).Rows).length : Int)) rfl rfl (P_len Tryz.underlying56 rfl l8) ?_
     refine L_p (.bool ((((((x0).PayTable).Rows).length : Int) == (0 : Int)))) rfl rfl (P_int rfl rfl rfl) ?_
     refine L_p (.bool ((((((x0).PayTable).Rows).length : Int) == (0 : Int)))) rfl rfl (P_move rfl) ?_
     refine L_y (fPtr p1 0) rfl rfl rfl rfl o0 (P_fieldAddr at_132_0 rfl (PT.ptr q1)) ?_
     refine L_y (fPtr (fPtr p1 0) 0) rfl rfl rfl rfl o0 (P_fieldAddr at_58_0 rfl (PT.ptr m8)) ?_
     refine L_ld (c := i6) rfl rfl (.yes2 rfl rfl o0) (fun _ _ h => h.ch) r8 rfl ?_
     refine L_y (ePtr i6 (0 : Int) 1) rfl rfl rfl rfl o0 (P_indexAddr (α := List Int) Tryz.underlying56 Tryz.sizeOf23 rfl n8 rfl x6) ?_
     refine L_ld (c := d9) rfl rfl (.yes2 rfl rfl o0) (fun _ _ h => h.ch) v8 rfl ?_
     refine L_y (.int .i64 ((t5).length : Int)) rfl rfl rfl rfl o0 (P_len Tryz.underlying23 rfl k9) ?_
     refine L_y (.bool ((((t5).length : Int) == (0 : Int)))) rfl rfl rfl rfl o0 (P_int rfl rfl rfl) ?_
     refine L_p (.bool ((((t5).length : Int) == (0 : Int)))) rfl rfl (P_pick (b := (((((x0).PayTable).Rows).length : Int) == (0 : Int))) rfl (pick_f o0 rfl)) ?_
     refine L_p (.bool ((((t5).length : Int) == (0 : Int)))) rfl rfl (P_move rfl) ?_
     iterate 9 refine L_s rfl rfl rfl u3 rfl ?_
     refine L_p (.bool true) rfl rfl (P_pick (b := (((t5).length : Int) == (0 : Int))) rfl (pick_t u3 rfl)) ?_
     refine L_dead (fun _ => rfl) 13 rfl ?_
     refine L_nl fun vC cE hs => ?_
     have hfr := hfr.ext hs
     have q1 := q1.ext hs
     clear hs
     refine EL_nil ?_
     obtain rfl := sinj h
     exact hQ _ _ ⟨vC, hfr, rfl, q1, rfl⟩
    ·have l9 := PT_field (part_PaySheet_0).1 q1
     have aD := PT_field (part_PayTable_1).1 l9
     refine L_load (x := .tmp 19) Tryz.isAgg23 Tryz.sizeOf23 aD fun iA rA u9 => ?_
     have n9 := PT_field (part_PaySheet_0).1 q1
     have bD := PT_field (part_PayTable_0).1 n9
     refine L_load (x := .tmp 23) Tryz.isAgg56 Tryz.sizeOf56 bD fun yA aB y9 => ?_
     rcases csome h with ⟨l5, h⟩ | ⟨l5, h⟩
     ·refine E_drawL (g := g1) (n := 38) [] [0, 1, 2, 3, 4, 5, 6, 7, 8, 9, 10, 11, 12, 13, 14, 15, 16, 17, 18, 19, 20, 21, 22, 23, 24, 25, 26, 27, 28, 29, 30, 31, 32, 33, 34, 35, 36, 37] rfl mixed (by kernel_rfl) trivial ?_
      refine L_p (fPtr p1 0) rfl rfl (P_fieldAddr at_132_0 rfl (PT.ptr q1)) ?_
      refine L_p (fPtr (fPtr p1 0) 0) rfl rfl (P_fieldAddr at_58_0 rfl (PT.ptr i7)) ?_
      refine L_ld (c := k8) rfl rfl .plain (fun _ _ h => h.ch) j6 rfl ?_
      refine L_p (.int .i64 ((((x0).PayTable).Rows).length : Int)) rfl rfl (P_len Tryz.underlying56 rfl l8) ?_
      refine L_p (.bool ((((((x0).PayTable).Rows).length : Int) == (0 : Int)))) rfl rfl (P_int rfl rfl rfl) ?_
      refine L_p (.bool ((((((x0).PayTable).Rows).length : Int) == (0 : Int)))) rfl rfl (P_move rfl) ?_
      refine L_y (fPtr p1 0) rfl rfl rfl rfl o0 (P_fieldAddr at_132_0 rfl (PT.ptr q1)) ?_
      refine L_y (fPtr (fPtr p1 0) 0) rfl rfl rfl rfl o0 (P_fieldAddr at_58_0 rfl (PT.ptr m8)) ?_
      refine L_ld (c := i6) rfl rfl (.yes2 rfl rfl o0) (fun _ _ h => h.ch) r8 rfl ?_
      refine L_y (ePtr i6 (0 : Int) 1) rfl rfl rfl rfl o0 (P_indexAddr (α := List Int) Tryz.underlying56 Tryz.sizeOf23 rfl n8 rfl x6) ?_
      refine L_ld (c := d9) rfl rfl (.yes2 rfl rfl o0) (fun _ _ h => h.ch) v8 rfl ?_
      refine L_y (.int .i64 ((t5).length : Int)) rfl rfl rfl rfl o0 (P_len Tryz.underlying23 rfl k9) ?_
      refine L_y (.bool ((((t5).length : Int) == (0 : Int)))) rfl rfl rfl rfl o0 (P_int rfl rfl rfl) ?_
      refine L_p (.bool ((((t5).length : Int) == (0 : Int)))) rfl rfl (P_pick (b := (((((x0).PayTable).Rows).length : Int) == (0 : Int))) rfl (pick_f o0 rfl)) ?_
      refine L_p (.bool ((((t5).length : Int) == (0 : Int)))) rfl rfl (P_move rfl) ?_
      refine L_y (fPtr p1 0) rfl rfl rfl rfl u3 (P_fieldAddr at_132_0 rfl (PT.ptr q1)) ?_
      refine L_y (fPtr (fPtr p1 0) 1) rfl rfl rfl rfl u3 (P_fieldAddr at_58_1 rfl (PT.ptr l9)) ?_
      refine L_ld (c := iA) rfl rfl (.yes2 rfl rfl u3) (fun _ _ h => h.ch) u9 rfl ?_
      refine L_y (.int .i64 ((((x0).PayTable).Across).length : Int)) rfl rfl rfl rfl u3 (P_len Tryz.underlying23 rfl rA) ?_
      refine L_y (fPtr p1 0) rfl rfl rfl rfl u3 (P_fieldAddr at_132_0 rfl (PT.ptr q1)) ?_
      refine L_y (fPtr (fPtr p1 0) 0) rfl rfl rfl rfl u3 (P_fieldAddr at_58_0 rfl (PT.ptr n9)) ?_
      refine L_ld (c := yA) rfl rfl (.yes2 rfl rfl u3) (fun _ _ h => h.ch) y9 rfl ?_
      refine L_y (.int .i64 ((((x0).PayTable).Rows).length : Int)) rfl rfl rfl rfl u3 (P_len Tryz.underlying56 rfl aB) ?_
      refine L_y (.bool ((((((x0).PayTable).Across).length : Int) != ((((x0).PayTable).Rows).length : Int)))) rfl rfl rfl rfl u3 (P_int rfl rfl rfl) ?_
      refine L_p (.bool ((((((x0).PayTable).Across).length : Int) != ((((x0).PayTable).Rows).length : Int)))) rfl rfl (P_pick (b := (((t5).length : Int) == (0 : Int))) rfl (pick_f u3 rfl)) ?_
      refine L_p (.bool ((((((x0).PayTable).Across).length : Int) != ((((x0).PayTable).Rows).length : Int)))) rfl rfl (P_move rfl) ?_
      iterate 11 refine L_s rfl rfl rfl l5 rfl ?_
      refine L_p (.bool true) rfl rfl (P_pick (b := (((((x0).PayTable).Across).length : Int) != ((((x0).PayTable).Rows).length : Int))) rfl (pick_t l5 rfl)) ?_
      refine L_nl fun cD dE hs => ?_
      have hfr := hfr.ext hs
      have q1 := q1.ext hs
      clear hs
      refine EL_nil ?_
      obtain rfl := sinj h
      exact hQ _ _ ⟨cD, hfr, rfl, q1, rfl⟩
     ·have dB := PT_field (part_PaySheet_0).1 q1
      have eD := PT_field (part_PayTable_2).1 dB
      refine L_load (x := .tmp 30) Tryz.isAgg23 Tryz.sizeOf23 eD fun gD iD yB => ?_
      have iB := PT_field (part_PaySheet_0).1 q1
      have jD := PT_field (part_PayTable_0).1 iB
      refine L_load (x := .tmp 34) Tryz.isAgg56 Tryz.sizeOf56 jD fun jB lB zB => ?_
      obtain ⟨d7, z9, h⟩ := bsome h
      have lD := PT_idx lB z9
      refine L_load (x := .tmp 36) Tryz.isAgg23 Tryz.sizeOf23 lD fun mD nD cC => ?_
      refine E_drawL (g := g1) (n := 38) [] [0, 1, 2, 3, 4, 5, 6, 7, 8, 9, 10, 11, 12, 13, 14, 15, 16, 17, 18, 19, 20, 21, 22, 23, 24, 25, 26, 27, 28, 29, 30, 31, 32, 33, 34, 35, 36, 37] rfl mixed (by kernel_rfl) trivial ?_
      refine L_p (fPtr p1 0) rfl rfl (P_fieldAddr at_132_0 rfl (PT.ptr q1)) ?_
      refine L_p (fPtr (fPtr p1 0) 0) rfl rfl (P_fieldAddr at_58_0 rfl (PT.ptr i7)) ?_
      refine L_ld (c := k8) rfl rfl .plain (fun _ _ h => h.ch) j6 rfl ?_
      refine L_p (.int .i64 ((((x0).PayTable).Rows).length : Int)) rfl rfl (P_len Tryz.underlying56 rfl l8) ?_
      refine L_p (.bool ((((((x0).PayTable).Rows).length : Int) == (0 : Int)))) rfl rfl (P_int rfl rfl rfl) ?_
      refine L_p (.bool ((((((x0).PayTable).Rows).length : Int) == (0 : Int)))) rfl rfl (P_move rfl) ?_
      refine L_y (fPtr p1 0) rfl rfl rfl rfl o0 (P_fieldAddr at_132_0 rfl (PT.ptr q1)) ?_
      refine L_y (fPtr (fPtr p1 0) 0) rfl rfl rfl rfl o0 (P_fieldAddr at_58_0 rfl (PT.ptr m8)) ?_
      refine L_ld (c := i6) rfl rfl (.yes2 rfl rfl o0) (fun _ _ h => h.ch) r8 rfl ?_
      refine L_y (ePtr i6 (0 : Int) 1) rfl rfl rfl rfl o0 (P_indexAddr (α := List Int) Tryz.underlying56 Tryz.sizeOf23 rfl n8 rfl x6) ?_
      refine L_ld (c := d9) rfl rfl (.yes2 rfl rfl o0) (fun _ _ h => h.ch) v8 rfl ?_
      refine L_y (.int .i64 ((t5).length : Int)) rfl rfl rfl rfl o0 (P_len Tryz.underlying23 rfl k9) ?_
      refine L_y (.bool ((((t5).length : Int) == (0 : Int)))) rfl rfl rfl rfl o0 (P_int rfl rfl rfl) ?_
      refine L_p (.bool ((((t5).length : Int) == (0 : Int)))) rfl rfl (P_pick (b := (((((x0).PayTable).Rows).length : Int) == (0 : Int))) rfl (pick_f o0 rfl)) ?_
      refine L_p (.bool ((((t5).length : Int) == (0 : Int)))) rfl rfl (P_move rfl) ?_
      refine L_y (fPtr p1 0) rfl rfl rfl rfl u3 (P_fieldAddr at_132_0 rfl (PT.ptr q1)) ?_
      refine L_y (fPtr (fPtr p1 0) 1) rfl rfl rfl rfl u3 (P_fieldAddr at_58_1 rfl (PT.ptr l9)) ?_
      refine L_ld (c := iA) rfl rfl (.yes2 rfl rfl u3) (fun _ _ h => h.ch) u9 rfl ?_
      refine L_y (.int .i64 ((((x0).PayTable).Across).length : Int)) rfl rfl rfl rfl u3 (P_len Tryz.underlying23 rfl rA) ?_
      refine L_y (fPtr p1 0) rfl rfl rfl rfl u3 (P_fieldAddr at_132_0 rfl (PT.ptr q1)) ?_
      refine L_y (fPtr (fPtr p1 0) 0) rfl rfl rfl rfl u3 (P_fieldAddr at_58_0 rfl (PT.ptr n9)) ?_
      refine L_ld (c := yA) rfl rfl (.yes2 rfl rfl u3) (fun _ _ h => h.ch) y9 rfl ?_
      refine L_y (.int .i64 ((((x0).PayTable).Rows).length : Int)) rfl rfl rfl rfl u3 (P_len Tryz.underlying56 rfl aB) ?_
      refine L_y (.bool ((((((x0).PayTable).Across).length : Int) != ((((x0).PayTable).Rows).length : Int)))) rfl rfl rfl rfl u3 (P_int rfl rfl rfl) ?_
      refine L_p (.bool ((((((x0).PayTable).Across).length : Int) != ((((x0).PayTable).Rows).length : Int)))) rfl rfl (P_pick (b := (((t5).length : Int) == (0 : Int))) rfl (pick_f u3 rfl)) ?_
      refine L_p (.bool ((((((x0).PayTable).Across).length : Int) != ((((x0).PayTable).Rows).length : Int)))) rfl rfl (P_move rfl) ?_
      refine L_y (fPtr p1 0) rfl rfl rfl rfl l5 (P_fieldAddr at_132_0 rfl (PT.ptr q1)) ?_
      refine L_y (fPtr (fPtr p1 0) 2) rfl rfl rfl rfl l5 (P_fieldAddr at_58_2 rfl (PT.ptr dB)) ?_
      refine L_ld (c := gD) rfl rfl (.yes2 rfl rfl l5) (fun _ _ h => h.ch) yB rfl ?_
      refine L_y (.int .i64 ((((x0).PayTable).Down).length : Int)) rfl rfl rfl rfl l5 (P_len Tryz.underlying23 rfl iD) ?_
      refine L_y (fPtr p1 0) rfl rfl rfl rfl l5 (P_fieldAddr at_132_0 rfl (PT.ptr q1)) ?_
      refine L_y (fPtr (fPtr p1 0) 0) rfl rfl rfl rfl l5 (P_fieldAddr at_58_0 rfl (PT.ptr iB)) ?_
      refine L_ld (c := jB) rfl rfl (.yes2 rfl rfl l5) (fun _ _ h => h.ch) zB rfl ?_
      refine L_y (ePtr jB (0 : Int) 1) rfl rfl rfl rfl l5 (P_indexAddr (α := List Int) Tryz.underlying56 Tryz.sizeOf23 rfl lB rfl z9) ?_
      refine L_ld (c := mD) rfl rfl (.yes2 rfl rfl l5) (fun _ _ h => h.ch) cC rfl ?_
      refine L_y (.int .i64 ((d7).length : Int)) rfl rfl rfl rfl l5 (P_len Tryz.underlying23 rfl nD) ?_
      refine L_y (.bool ((((((x0).PayTable).Down).length : Int) != ((d7).length : Int)))) rfl rfl rfl rfl l5 (P_int rfl rfl rfl) ?_
      refine L_p (.bool ((((((x0).PayTable).Down).length : Int) != ((d7).length : Int)))) rfl rfl (P_pick (b := (((((x0).PayTable).Across).length : Int) != ((((x0).PayTable).Rows).length : Int))) rfl (pick_f l5 rfl)) ?_
      refine L_nl fun oD eE hs => ?_
      have hfr := hfr.ext hs
      have q1 := q1.ext hs
      clear hs
      refine EL_nil ?_
      obtain rfl := sinj h
      exact hQ _ _ ⟨oD, hfr, rfl, q1, rfl⟩
  ·clear hx
   obtain ⟨sD, hfr, mB, nB, g8⟩ := hR
   rcases csome h with ⟨x8, h⟩ | ⟨x8, h⟩
   ·refine E_cond_true (Eq.trans (show ev _ _ = .bool (x5) from g8) (congrArg Value.bool x8)) ?_
    refine E_seq (E_region (EL_at (.bool false) rfl rfl ?_))
    refine EL_nil (thn_n (E_ret (thn_r ?_)))
    obtain rfl := sinj h
    exact end1 rfl rfl (show _ = .bool false from rfl) ⟨_, hfr, rfl⟩
   ·refine E_cond_false (Eq.trans (show ev _ _ = .bool (x5) from g8) (congrArg Value.bool x8)) ?_
    exact E_skip (thn_n (vB () _ _ ⟨sD, hfr, mB, nB⟩ h))
 ·rintro _ yD iE ⟨oB, hfr, a9, m7⟩ h
  refine E_seq (E_region (EL_p (fPtr p1 0) (P_fieldAddr at_132_0 a9 (PT.ptr m7)) rfl ?_))
  have tB := PT_field (part_PaySheet_0).1 m7
  refine EL_p (fPtr (fPtr p1 0) 0) (P_fieldAddr at_58_0 rfl (PT.ptr tB)) rfl ?_
  have tD := PT_field (part_PayTable_0).1 tB
  refine EL_do .plain rfl (D_load (g := oB) Tryz.isAgg56 Tryz.sizeOf56 rfl tD fun uD vD => ?_)
  refine EL_p ((.func (.func 110) #[] #[p1])) (P_makeFunc (capf_0_1 (show ev _ _ = p1 from a9))) rfl ?_
  obtain ⟨y6, eC, h⟩ := bsome h
  refine EL_do .plain rfl (D_call (g := oB) (vs := [uD, (.func (.func 110) #[] #[p1])]) en108 (.cons rfl (.cons rfl .nil)) (wk108 vD ⟨110, #[], #[p1], rfl, en110, fun g' w' hch a0 b0 r hu0 hr => by exact Fn.mono (wk110 hu0 (m7.ch hch) hr) fun _ _ _ h => RV_bool.2 h⟩ eC) fun jE zD kE hs hr => ?_)
  have hfr := hfr.ext hs
  subst hr
  refine EL_p (.bool (!y6)) (P_not rfl) rfl ?_
  refine EL_at (.bool (!y6)) rfl rfl ?_
  refine EL_nil (thn_n (E_ret ?_))
  obtain rfl := sinj h
  exact end1 rfl rfl (show _ = .bool (!y6) from rfl) ⟨_, hfr, rfl⟩
def f86 (x0 : List Int) : Option (Bool) :=
 (f54 ((-1 : Int)) ((1000000 : Int)) x0).bind fun y2 =>
 some (y2)
theorem en86 : Enters Tryz.prog 86 := enters_of Tryz.func86 (by kernel_rfl) rfl
theorem wk86 {gI : Gh} {wI : World} {x0 : List Int} {up0 : Value} (rp0 : RV gI.m wI x0 up0) {r : Bool} (h : f86 x0 = some r) : Fn Tryz.prog 86 #[up0] gI wI (fun _ _ v => v = .bool (r)) := by
 unfold f86 at h
 refine fn_of_E Tryz.func86 rfl (Nat.le_of_ble_eq_true rfl) fun g0 hm hfr => ?_
 have rp0 : RV g0.m wI x0 up0 := hm ▸ rp0
 show E _ 5 none _ _ _ _ _
 refine E_seq (E_region (EL_at (.bool false) rfl rfl ?_))
 refine EL_nil (thn_n (E_seq (E_region (EL_mw up0 rfl rfl ?_))))
 obtain ⟨y2, hy2, h⟩ := bsome h
 refine EL_do .plain rfl (D_call (g := g0) (vs := [.int .i64 (-1), .int .i64 (1000000), up0]) en54 (.cons rfl (.cons rfl (.cons rfl .nil))) (wk54 rp0 hy2) fun g1 w1_ v1 hs hr => ?_)
 have hfr := hfr.ext hs
 subst hr
 refine EL_at (.bool (y2)) rfl rfl ?_
 refine EL_nil (thn_n (E_ret ?_))
 obtain rfl := sinj h
 exact end1 rfl rfl (show _ = .bool (y2) from rfl) ⟨_, hfr, rfl⟩
end Go.Proofs.YtkmbkaoolacofaaGreat
