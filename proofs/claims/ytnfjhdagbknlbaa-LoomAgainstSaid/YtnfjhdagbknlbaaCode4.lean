import Derived.Test.YtnfjhdagbknlbaaCode3
set_option maxRecDepth 8000
set_option maxHeartbeats 4000000
namespace Go.Proofs.Ytnfjhdagbknlbaa
open Go.RowKit
theorem v39_1 {iO : Nat} {gI : Gh} {wI : World} {x0 : Hall} {up0 : Value} (rp0 : RV gI.m wI x0 up0) {r : LoomMill × (List LoomOrder) × (List LoomRun)} (h : f39 x0 = some r) : FnG Try.prog 39 #[up0] gI wI (fun g w v => ∃ y0 y1 y2, v = .tuple #[y0, y1, y2] ∧ RV g.m w (r.1) y0 ∧ OM iO g w 82 (r.2.1) y1 ∧ RV g.m w (r.2.2) y2) := by
 unfold f39 at h
 refine fnG_of_E Try.func39 rfl (Nat.le_of_ble_eq_true rfl) fun g0 hm hfr => ?_
 have rp0 : RV g0.m wI x0 up0 := hm ▸ rp0
 show E _ 155 none _ _ _ _ _
 refine E_seq (E_region (EL_do .plain rfl (D_box (g := g0) rfl rp0 fun g1 w1 p1 hs q1 => ?_)))
 have hfr := hfr.ext hs
 refine EL_do .plain rfl (D_allocOc (g := g1) 2002 (⟨[], 0⟩ : LoomMill) Try.zeroValue24 (fun m w => ⟨_, (rep_two rep_nil rep_int), rfl⟩) fun g2 w2 p2 hs b2 cb => ?_)
 have hfr := hfr.stp hs
 have q1 := q1.stp hs
 have cA : OSF 2002 60200 0 g2 w2 3 24 ([] : List Int) p2 := cb.osf (by rfl)
 clear cb
 refine EL_at (.slice none 0 0) rfl rfl ?_
 have b3 : OA 4003 g2 w2 82 ([] : List LoomOrder) (.slice none 0 0) := OA.nil
 refine EL_at (.slice none 0 0) rfl rfl ?_
 refine EL_nil (thn_n (E_seq (E_region (EL_pur (v := fPtr p1 4) (P_fieldAddr at_71_2 rfl (PT.ptr q1)) .plain rfl ?_))))
 have q4 := PT_field (part_Hall_2).1 q1
 refine EL_do .plain rfl (D_load (g := g2) Try.isAgg5 Try.sizeOf5 rfl q4 fun v5 r5 => ?_)
 obtain rfl := RV_u8.1 r5
 refine EL_pur (v := .int .i64 ((((x0).Change).toNat : Int))) (P_u8int Try.underlying5 Try.underlying3 rfl) .plain rfl ?_
 obtain ⟨y6, bM, h⟩ := bsome h
 refine EL_pur (v := .int .i64 (y6)) (P_int rfl rfl (congrArg (Option.map (Value.int .i64)) bM)) .plain rfl ?_
 have r7 : RV g2.m w2 (⟨[], y6⟩ : LoomMill) (.agg (setCh [[.slice none 0 0], [.int .i64 0]] [(1, .int .i64 (y6))]).flatten.toArray) := RV_build rfl (rep_pair (rep_nil) (rep_last (rfl)))
 generalize bL : (Value.agg (setCh [[.slice none 0 0], [.int .i64 0]] [(1, .int .i64 (y6))]).flatten.toArray) = v7 at r7
 refine EL_pur (v := v7) (bL ▸ P_build (vs := [(1, .int .i64 (y6))]) [[.slice none 0 0], [.int .i64 0]] lay_24 rfl rfl (.cons rfl .nil) ⟨⟨_, rfl, rfl⟩, trivial⟩) .plain rfl ?_
 refine EL_do .plain rfl (D_allocOc (g := g2) 2005 (⟨[], 0⟩ : LoomMill) Try.zeroValue24 (fun m w => ⟨_, (rep_two rep_nil rep_int), rfl⟩) fun g8 w8 p8 hs b8 cb => ?_)
 have hfr := hfr.stp hs
 have q1 := q1.stp hs
 have cA := cA.stp hs rfl
 have b2 := b2.stp hs rfl
 have r7 := r7.stp hs
 have zO : OSF 2005 60500 0 g8 w8 3 24 ([] : List Int) p8 := cb.osf (by rfl)
 clear cb
 refine EL_do .plain rfl (D_storeOc (g := g8) (v := v7) Try.sizeOf24 rfl b8 rfl r7 fun g9 w9 hs b9 cb => ?_)
 have dL : OSF 2005 60500 0 g9 w9 3 24 ([] : List Int) p8 := cb.osf (by rw [← bL]; rfl)
 clear cb
 have hfr := hfr.stp hs
 have q1 := q1.stp hs
 have cA := cA.stp hs rfl
 have b2 := b2.stp hs rfl
 refine EL_nil (thn_n ?_)
 obtain ⟨m4, hx, h⟩ := bsome h
 refine E_join (fun e w => ∃ (g : Gh) , Fr gI wI g w ∧ e 1 = p1 ∧ PT g.m w (x0 : Hall) p1 ∧ e 2 = p2 ∧ OB 2002 g w 24 ((⟨[], 0⟩ : LoomMill) : LoomMill) p2 ∧ OSF 2002 60200 0 g w 3 24 (((⟨[], 0⟩ : LoomMill)).Widths) p2 ∧ e 5 = p8 ∧ OB 2005 g w 24 (m4 : LoomMill) p8 ∧ OSF 2005 60500 0 g w 3 24 ((m4).Widths) p8) (fun Q' hQ => ?_) (fun qM aP hR => ?_)
 ·replace h := hx
  clear hx
  refine E_seq (E_region (EL_at (.int .i64 (0)) rfl rfl ?_))
  refine EL_nil (thn_n (E_block ?_))
  refine E_lp h (fun (s : LoomMill × Int) e w => ∃ (g : Gh) , Fr gI wI g w ∧ e 1 = p1 ∧ PT g.m w (x0 : Hall) p1 ∧ e 2 = p2 ∧ OB 2002 g w 24 ((⟨[], 0⟩ : LoomMill) : LoomMill) p2 ∧ OSF 2002 60200 0 g w 3 24 (((⟨[], 0⟩ : LoomMill)).Widths) p2 ∧ e 5 = p8 ∧ OB 2005 g w 24 (s.1 : LoomMill) p8 ∧ OSF 2005 60500 0 g w 3 24 ((s.1).Widths) p8 ∧ e 6 = .int .i64 (s.2)) ⟨g9, hfr, rfl, q1, rfl, b2, cA, rfl, b9, dL, rfl⟩ (fun X77 qP eL => ?_)
  rintro ⟨zD, o7⟩ bP sP ⟨hG, hfr, yC, y9, aE, bE, u2_0_78, cE, dE, u5_0_78, eE⟩ h
  refine E_joinC h (fun (s : Unit) e w => ∃ (g : Gh) , Fr gI wI g w ∧ e 1 = p1 ∧ PT g.m w (x0 : Hall) p1 ∧ e 2 = p2 ∧ OB 2002 g w 24 ((⟨[], 0⟩ : LoomMill) : LoomMill) p2 ∧ OSF 2002 60200 0 g w 3 24 (((⟨[], 0⟩ : LoomMill)).Widths) p2 ∧ e 5 = p8 ∧ OB 2005 g w 24 (zD : LoomMill) p8 ∧ OSF 2005 60500 0 g w 3 24 ((zD).Widths) p8 ∧ e 6 = .int .i64 (o7)) (fun X83 tP gL h => ?_) ?_
  ·refine E_seq (E_region (EL_mv eE rfl ?_))
   refine EL_pur (v := fPtr p1 3) (P_fieldAddr at_71_1 yC (PT.ptr y9)) .plain rfl ?_
   have cM := PT_field (part_Hall_1).1 y9
   refine EL_do .plain rfl (D_load (g := hG) Try.isAgg5 Try.sizeOf5 rfl cM fun uP dM => ?_)
   obtain rfl := RV_u8.1 dM
   refine EL_pur (v := .int .i64 ((((x0).Looms).toNat : Int))) (P_u8int Try.underlying5 Try.underlying3 rfl) .plain rfl ?_
   obtain ⟨cL, iL, h⟩ := bsome h
   refine EL_pur (v := .int .i64 (cL)) (P_int rfl rfl (congrArg (Option.map (Value.int .i64)) iL)) .plain rfl ?_
   refine EL_in (.bool ((decide (o7 ≤ cL)))) rfl rfl rfl rfl ?_
   refine EL_nil (thn_n ?_)
   rcases csome h with ⟨pD, h⟩ | ⟨pD, h⟩
   ·refine E_ct pD rfl ?_
    exact E_skip (thn_n (gL () _ _ ⟨hG, hfr, yC, y9, aE, bE, u2_0_78, cE, dE, u5_0_78, eE⟩ h))
   ·refine E_cf pD rfl ?_
    refine E_exit ?_
    refine thn_e ?_
    refine thn_e ?_
    refine blk_hit ?_
    obtain rfl := sinj h
    exact hQ _ _ ⟨hG, hfr, yC, y9, aE, bE, u2_0_78, cE, dE, u5_0_78⟩
  ·rintro _ cP vP ⟨eM, hfr, gE, j7, mI, u7, u2_0_88, zC, p7, u5_0_88, iE⟩ h
   obtain ⟨dA, hx, h⟩ := bsome h
   refine E_join (fun e w => ∃ (g : Gh) , Fr gI wI g w ∧ e 1 = p1 ∧ PT g.m w (x0 : Hall) p1 ∧ e 2 = p2 ∧ OB 2002 g w 24 ((⟨[], 0⟩ : LoomMill) : LoomMill) p2 ∧ OSF 2002 60200 0 g w 3 24 (((⟨[], 0⟩ : LoomMill)).Widths) p2 ∧ e 5 = p8 ∧ OB 2005 g w 24 (dA : LoomMill) p8 ∧ OSF 2005 60500 0 g w 3 24 ((dA).Widths) p8 ∧ e 6 = .int .i64 (o7)) (fun Q' hQ => ?_) (fun rM dP hR => ?_)
   ·replace h := hx
    clear hx
    refine E_block ?_
    refine L_loadFS (x := .tmp 29) part_LoomMill_0.1 Try.isAgg22 Try.sizeOf22 p7 u5_0_88 fun jL qD o117 nI => ?_
    have iG := PT_field (part_Hall_0).1 j7
    obtain ⟨jG, jE, h⟩ := bsome h
    have kL := PT_idxA iG jE
    refine L_load (x := .tmp 33) Try.isAgg5 Try.sizeOf5 kL fun eP lL oI => ?_
    obtain rfl := RV_u8.1 lL
    obtain ⟨i7, pI, h⟩ := bsome h
    refine E_drawL (g := eM) (n := 10) [(9, (fun v g w => RV g.m w ([(w64 ((10 : Int) + i7))] : List Int) v ∧ OS 3038 g w 3 ([(w64 ((10 : Int) + i7))] : List Int) v ∧ FullV v))] [0, 1, 2, 3, 4, 5, 6, 7, 8, 9] rfl mixed (by kernel_rfl) (⟨fun _ => up_and up_rv (up_and up_os (up_eq _)), trivial⟩) ?_
    refine L_pur (c := fPtr p8 0) rfl rfl .plain (fun _ _ hd => P_fieldAddr at_24_0 zC (OB.ptr p7)) ?_
    refine L_ld (c := jL) rfl rfl .plain (fun _ _ h => ⟨h.ch, fun b hb _ => h.below.block b hb⟩) nI rfl ?_
    refine L_pur (c := .int .i64 (o7)) rfl rfl .plain (fun _ _ hd => P_move iE) ?_
    refine L_pur (c := fPtr p1 0) rfl rfl .plain (fun _ _ hd => P_fieldAddr at_71_0 gE (PT.ptr j7)) ?_
    refine L_pur (c := fPtr (fPtr p1 0) ((o7 : Int).toNat * 1)) rfl rfl .plain (fun _ _ hd => P_indexAddrA (α := UInt8) Try.underlying68 Try.sizeOf5 rfl (PT.ptr iG) rfl jE) ?_
    refine L_ld (c := .int .u8 (UInt8.toNat (jG))) rfl rfl .plain (fun _ _ h => h.ch) oI rfl ?_
    refine L_pur (c := .int .i64 (((jG).toNat : Int))) rfl rfl .plain (fun _ _ hd => P_u8int Try.underlying5 Try.underlying3 rfl) ?_
    refine L_pur (c := .int .i64 (i7)) rfl rfl .plain (fun _ _ hd => P_int rfl rfl (congrArg (Option.map (Value.int .i64)) pI)) ?_
    refine L_pur (c := .int .i64 ((w64 ((10 : Int) + i7)))) rfl rfl .plain (fun _ _ hd => P_int rfl rfl rfl) ?_
    refine L_do (φ := fun v g w => RV g.m w ([(w64 ((10 : Int) + i7))] : List Int) v ∧ OS 3038 g w 3 ([(w64 ((10 : Int) + i7))] : List Int) v ∧ FullV v) rfl rfl .plain (fun g w hd => D_buildSlice (g := g) 3038 (xs := ([(w64 ((10 : Int) + i7))] : List Int)) (vs := [.int .i64 ((w64 ((10 : Int) + i7)))]) Try.underlying22 Try.sizeOf3 Try.zeroValue3 rfl rfl (.cons rfl .nil) (RVs.cons (RV_int.2 rfl) RVs.nil) rfl rfl fun g' w' v hs o r hxt hfl => ⟨g', hxt, r, o, hfl⟩) (fun j9 hv => ?_)
    clear hv
    refine L_nil fun mL gP hall => ?_
    have hs := hall.1
    have hfr := hfr.ext hs
    have j7 := j7.ext hs
    have u2_0_88 := u2_0_88.ext hs
    have u7 := u7.ext hs
    have p7 := p7.ext hs
    have qD := qD.ext hs
    have o117 := o117.ext hs
    have nL := (word_all (A := fun g w => RV g.m w ([(w64 ((10 : Int) + i7))] : List Int) j9 ∧ OS 3038 g w 3 ([(w64 ((10 : Int) + i7))] : List Int) j9 ∧ FullV j9) 9 rfl hall).1
    have o138 := (word_all (A := fun g w => RV g.m w ([(w64 ((10 : Int) + i7))] : List Int) j9 ∧ OS 3038 g w 3 ([(w64 ((10 : Int) + i7))] : List Int) j9 ∧ FullV j9) 9 rfl hall).2.1
    clear hs hall
    obtain ⟨oL, qI, h⟩ := bsome h
    refine EL_do .plain rfl (D_append (g := mL) (i := 60500) Try.underlying22 info_3 rfl rfl o117 qD rfl nL qI fun pL iP jP hs o139 kG _ => ?_)
    have hfr := hfr.stp hs
    have j7 := j7.stp hs
    have u2_0_88 := u2_0_88.stp hs rfl
    have u7 := u7.stp hs rfl
    have p7 := p7.stp hs rfl
    refine EL_pur (v := fPtr p8 0) (P_fieldAddr at_24_0 zC (OB.ptr p7)) .plain rfl ?_
    refine EL_do .plain rfl (D_storeFc (g := pL) part_LoomMill_0 Try.sizeOf22 rfl p7 rfl kG fun qL kP hs b142 rst hos => ?_)
    have lG := hos _ _ 60500 3 (oL : List Int) (rv_cells1 kG) rfl o139
    clear rst hos
    have hfr := hfr.stp hs
    have j7 := j7.stp hs
    have u2_0_88 := u2_0_88.stp hs rfl
    have u7 := u7.stp hs rfl
    refine EL_nil (blk_n ?_)
    obtain rfl := sinj h
    exact hQ _ _ ⟨qL, hfr, gE, j7, mI, u7, u2_0_88, zC, b142, lG, iE⟩
   ·clear hx
    obtain ⟨rL, hfr, mG, nG, oG, pG, u2_0_143, qG, rG, u5_0_143, sG⟩ := hR
    refine E_region (EL_mv sG rfl ?_)
    refine EL_in (.int .i64 ((w64 (o7 + (1 : Int))))) rfl rfl rfl rfl ?_
    refine EL_at (.int .i64 ((w64 (o7 + (1 : Int))))) rfl rfl ?_
    exact EL_nil (thn_n (eL (dA, (w64 (o7 + (1 : Int)))) _ _ ⟨rL, hfr, mG, nG, oG, pG, u2_0_143, qG, rG, u5_0_143, rfl⟩ h))
 ·clear hx
  obtain ⟨tL, hfr, tG, d6, uG, i6, u2_0_144, vG, j6, u5_0_144⟩ := hR
  refine E_seq (E_region (EL_do .plain rfl (D_buildSliceA (g := tL) 4007 (xs := ([] : List LoomOrder)) (vs := []) Try.underlying25 Try.sizeOf82 Try.zeroValue82 rfl rfl .nil RVs.nil rfl rfl fun uL lP xG hs b145 _ => ?_)))
  have hfr := hfr.stp hs
  have d6 := d6.stp hs
  have u2_0_144 := u2_0_144.stp hs rfl
  have i6 := i6.stp hs rfl
  have u5_0_144 := u5_0_144.stp hs rfl
  have j6 := j6.stp hs rfl
  refine EL_do .plain rfl (D_buildSlice (g := uL) 3042 (xs := ([] : List LoomRun)) (vs := []) Try.underlying31 Try.sizeOf76 Try.zeroValue76 rfl rfl .nil RVs.nil rfl rfl fun rD yG zG hs o146 c8 hxt hfl => ?_)
  have hfr := hfr.stp hs
  have d6 := d6.stp hs
  have u2_0_144 := u2_0_144.stp hs rfl
  have i6 := i6.stp hs rfl
  have u5_0_144 := u5_0_144.stp hs rfl
  have j6 := j6.stp hs rfl
  have b145 := b145.stp hs rfl
  refine EL_at xG rfl rfl ?_
  refine EL_at zG rfl rfl ?_
  refine EL_nil (thn_n (E_seq (E_region ?_)))
  have k9 : RV rD.m yG (⟨List.toArray [0, 0, 0], rfl⟩ : Vector Int 3) (.agg (setCh [[.int .i64 0], [.int .i64 0], [.int .i64 0]] []).flatten.toArray) := RV_build rfl (rep_vec (flat_chunk rep_int (flat_chunk rep_int (flat_chunk rep_int flat_nil))) rfl)
  generalize rI : (Value.agg (setCh [[.int .i64 0], [.int .i64 0], [.int .i64 0]] []).flatten.toArray) = aH at k9
  refine EL_pur (v := aH) (rI ▸ P_buildA (vs := []) [[.int .i64 0], [.int .i64 0], [.int .i64 0]] Try.underlying126 layA_126 szA_3 rfl (by simp) .nil trivial) .plain rfl ?_
  have m8 : RV rD.m yG (⟨List.toArray [(-1 : Int), (-1 : Int), (-1 : Int)], rfl⟩ : Vector Int 3) (.agg (setCh [[.int .i64 0], [.int .i64 0], [.int .i64 0]] [(0, .int .i64 (-1)), (1, .int .i64 (-1)), (2, .int .i64 (-1))]).flatten.toArray) := RV_build rfl (rep_vec (flat_chunk rfl (flat_chunk rfl (flat_chunk rfl flat_nil))) rfl)
  generalize sI : (Value.agg (setCh [[.int .i64 0], [.int .i64 0], [.int .i64 0]] [(0, .int .i64 (-1)), (1, .int .i64 (-1)), (2, .int .i64 (-1))]).flatten.toArray) = bH at m8
  refine EL_pur (v := bH) (sI ▸ P_buildA (vs := [(0, .int .i64 (-1)), (1, .int .i64 (-1)), (2, .int .i64 (-1))]) [[.int .i64 0], [.int .i64 0], [.int .i64 0]] Try.underlying126 layA_126 szA_3 rfl (by simp) (.cons rfl (.cons rfl (.cons rfl .nil))) ⟨⟨_, rfl, rfl⟩, ⟨⟨_, rfl, rfl⟩, ⟨⟨_, rfl, rfl⟩, trivial⟩⟩⟩) .plain rfl ?_
  refine EL_do .plain rfl (D_allocOc (g := rD) 2009 ((⟨List.toArray [0, 0, 0], rfl⟩ : Vector Int 3) : Vector Int 3) Try.zeroValue126 (fun m w => ⟨_, (rep_vec (flat_chunk rep_int (flat_chunk rep_int (flat_chunk rep_int flat_nil))) rfl), rfl⟩) fun vL mP x6 hs b149 cb => ?_)
  have hfr := hfr.stp hs
  have d6 := d6.stp hs
  have u2_0_144 := u2_0_144.stp hs rfl
  have i6 := i6.stp hs rfl
  have u5_0_144 := u5_0_144.stp hs rfl
  have j6 := j6.stp hs rfl
  have c8 := c8.stp hs
  have o146 := o146.stp hs rfl
  have b145 := b145.stp hs rfl
  have k9 := k9.stp hs
  have m8 := m8.stp hs
  clear cb
  refine EL_do .plain rfl (D_allocOc (g := vL) 2010 ((⟨List.toArray [0, 0, 0], rfl⟩ : Vector Int 3) : Vector Int 3) Try.zeroValue126 (fun m w => ⟨_, (rep_vec (flat_chunk rep_int (flat_chunk rep_int (flat_chunk rep_int flat_nil))) rfl), rfl⟩) fun xL nP b7 hs b150 cb => ?_)
  have hfr := hfr.stp hs
  have d6 := d6.stp hs
  have u2_0_144 := u2_0_144.stp hs rfl
  have i6 := i6.stp hs rfl
  have u5_0_144 := u5_0_144.stp hs rfl
  have j6 := j6.stp hs rfl
  have c8 := c8.stp hs
  have o146 := o146.stp hs rfl
  have b145 := b145.stp hs rfl
  have k9 := k9.stp hs
  have m8 := m8.stp hs
  have b149 := b149.stp hs rfl
  clear cb
  refine EL_do .plain rfl (D_storeOc (g := xL) (v := aH) Try.sizeOf126 rfl b149 rfl k9 fun yL oP hs b151 cb => ?_)
  clear cb
  have hfr := hfr.stp hs
  have d6 := d6.stp hs
  have u2_0_144 := u2_0_144.stp hs rfl
  have i6 := i6.stp hs rfl
  have u5_0_144 := u5_0_144.stp hs rfl
  have j6 := j6.stp hs rfl
  have c8 := c8.stp hs
  have o146 := o146.stp hs rfl
  have b145 := b145.stp hs rfl
  have m8 := m8.stp hs
  have b150 := b150.stp hs rfl
  refine EL_do .plain rfl (D_storeOc (g := yL) (v := bH) Try.sizeOf126 rfl b150 rfl m8 fun zL pP hs b152 cb => ?_)
  clear cb
  have hfr := hfr.stp hs
  have d6 := d6.stp hs
  have u2_0_144 := u2_0_144.stp hs rfl
  have i6 := i6.stp hs rfl
  have u5_0_144 := u5_0_144.stp hs rfl
  have j6 := j6.stp hs rfl
  have c8 := c8.stp hs
  have o146 := o146.stp hs rfl
  have b145 := b145.stp hs rfl
  have b151 := b151.stp hs rfl
  refine EL_nil (thn_n ?_)
  obtain ⟨⟨xE, aB⟩, hx, h⟩ := bsome h
  refine E_join (fun e w => ∃ (g : Gh) (v7 v8 : Value), Fr gI wI g w ∧ e 2 = p2 ∧ OB 2002 g w 24 ((⟨[], 0⟩ : LoomMill) : LoomMill) p2 ∧ OSF 2002 60200 0 g w 3 24 (((⟨[], 0⟩ : LoomMill)).Widths) p2 ∧ e 5 = p8 ∧ OB 2005 g w 24 (m4 : LoomMill) p8 ∧ OSF 2005 60500 0 g w 3 24 ((m4).Widths) p8 ∧ e 7 = v7 ∧ OA 4007 g w 82 (xE : List LoomOrder) v7 ∧ e 8 = v8 ∧ RV g.m w (aB : List LoomRun) v8 ∧ OS 3042 g w 76 (aB : List LoomRun) v8) (fun Q' hQ => ?_) (fun gM sM hR => ?_)
  ·replace h := hx
   clear hx
   refine E_seq (E_region (EL_at (.int .i64 (0)) rfl rfl ?_))
   refine EL_nil (thn_n (E_block ?_))
   refine E_lp h (fun (s : (List LoomOrder) × (List LoomRun) × (Vector Int 3) × (Vector Int 3) × Int) e w => ∃ (g : Gh) (v7 v8 : Value), Fr gI wI g w ∧ e 1 = p1 ∧ PT g.m w (x0 : Hall) p1 ∧ e 2 = p2 ∧ OB 2002 g w 24 ((⟨[], 0⟩ : LoomMill) : LoomMill) p2 ∧ OSF 2002 60200 0 g w 3 24 (((⟨[], 0⟩ : LoomMill)).Widths) p2 ∧ e 5 = p8 ∧ OB 2005 g w 24 (m4 : LoomMill) p8 ∧ OSF 2005 60500 0 g w 3 24 ((m4).Widths) p8 ∧ e 7 = v7 ∧ OA 4007 g w 82 (s.1 : List LoomOrder) v7 ∧ e 8 = v8 ∧ RV g.m w (s.2.1 : List LoomRun) v8 ∧ OS 3042 g w 76 (s.2.1 : List LoomRun) v8 ∧ e 9 = x6 ∧ OB 2009 g w 126 (s.2.2.1 : Vector Int 3) x6 ∧ e 10 = b7 ∧ OB 2010 g w 126 (s.2.2.2.1 : Vector Int 3) b7 ∧ e 11 = .int .i64 (s.2.2.2.2)) ⟨zL, (xG), (zG), hfr, tG, d6, uG, i6, u2_0_144, vG, j6, u5_0_144, rfl, b145, rfl, c8, o146, rfl, b151, rfl, b152, rfl⟩ (fun X1820 tM cH => ?_)
   rintro ⟨o8, c7, z6, e8, d3⟩ iM uM ⟨aD, a7, q5, hfr, l9, q8, bB, cB, u2_0_1821, dB, eB, u5_0_1821, iB, jB, kB, lB, mB, nB, oB, eA, gA, i8⟩ h
   refine E_joinC h (fun (s : Unit) e w => ∃ (g : Gh) , Fr gI wI g w ∧ e 1 = p1 ∧ PT g.m w (x0 : Hall) p1 ∧ e 2 = p2 ∧ OB 2002 g w 24 ((⟨[], 0⟩ : LoomMill) : LoomMill) p2 ∧ OSF 2002 60200 0 g w 3 24 (((⟨[], 0⟩ : LoomMill)).Widths) p2 ∧ e 5 = p8 ∧ OB 2005 g w 24 (m4 : LoomMill) p8 ∧ OSF 2005 60500 0 g w 3 24 ((m4).Widths) p8 ∧ e 7 = a7 ∧ OA 4007 g w 82 (o8 : List LoomOrder) a7 ∧ e 8 = q5 ∧ RV g.m w (c7 : List LoomRun) q5 ∧ OS 3042 g w 76 (c7 : List LoomRun) q5 ∧ e 9 = x6 ∧ OB 2009 g w 126 (z6 : Vector Int 3) x6 ∧ e 10 = b7 ∧ OB 2010 g w 126 (e8 : Vector Int 3) b7 ∧ e 11 = .int .i64 (d3)) (fun X1830 vM dH h => ?_) ?_
   ·obtain ⟨z8, hx, h⟩ := bsome h
    refine E_join (fun e w => ∃ (g : Gh) , Fr gI wI g w ∧ e 1 = p1 ∧ PT g.m w (x0 : Hall) p1 ∧ e 2 = p2 ∧ OB 2002 g w 24 ((⟨[], 0⟩ : LoomMill) : LoomMill) p2 ∧ OSF 2002 60200 0 g w 3 24 (((⟨[], 0⟩ : LoomMill)).Widths) p2 ∧ e 5 = p8 ∧ OB 2005 g w 24 (m4 : LoomMill) p8 ∧ OSF 2005 60500 0 g w 3 24 ((m4).Widths) p8 ∧ e 7 = a7 ∧ OA 4007 g w 82 (o8 : List LoomOrder) a7 ∧ e 8 = q5 ∧ RV g.m w (c7 : List LoomRun) q5 ∧ OS 3042 g w 76 (c7 : List LoomRun) q5 ∧ e 9 = x6 ∧ OB 2009 g w 126 (z6 : Vector Int 3) x6 ∧ e 10 = b7 ∧ OB 2010 g w 126 (e8 : Vector Int 3) b7 ∧ e 11 = .int .i64 (d3) ∧ e 53 = .bool (z8)) (fun Q' hQ => ?_) (fun jM xM hR => ?_)
    ·replace h := hx
     clear hx
     refine E_region (EL_mv i8 rfl ?_)
     refine EL_pur (v := fPtr p1 5) (P_fieldAddr at_71_3 l9 (PT.ptr q8)) .plain rfl ?_
     have tI := PT_field (part_Hall_3).1 q8
     refine EL_do .plain rfl (D_load (g := aD) Try.isAgg69 Try.sizeOf69 rfl tI fun yM uI => ?_)
     refine EL_pur (v := .int .i64 (((x0).Orders).length : Int)) (P_len Try.underlying69 rfl uI) .plain rfl ?_
     refine EL_pur (v := .bool ((decide (d3 < (((x0).Orders).length : Int))))) (P_int rfl rfl rfl) .plain rfl ?_
     refine EL_pur (v := .bool ((decide (d3 < (((x0).Orders).length : Int))))) (P_move rfl) .plain rfl ?_
     rcases csome h with ⟨m7, h⟩ | ⟨m7, h⟩
     ·refine EL_pur (v := .int .i64 (d3)) (P_move i8) (.yes2 rfl rfl m7) rfl ?_
      refine EL_pur (v := .bool ((decide (d3 < (7 : Int))))) (P_int rfl rfl rfl) (.yes2 rfl rfl m7) rfl ?_
      refine EL_pur (v := .bool ((decide (d3 < (7 : Int))))) (P_pick (b := (decide (d3 < (((x0).Orders).length : Int)))) rfl (pick_t m7 rfl)) .plain rfl ?_
      refine EL_nil ?_
      obtain rfl := sinj h
      exact hQ _ _ ⟨aD, hfr, l9, q8, bB, cB, u2_0_1821, dB, eB, u5_0_1821, iB, jB, kB, lB, mB, nB, oB, eA, gA, i8, rfl⟩
     ·refine EL_skip (.no2 rfl rfl m7 rfl) rfl ?_
      refine EL_skip (.no2 rfl rfl m7 rfl) rfl ?_
      refine EL_pur (v := .bool false) (P_pick (b := (decide (d3 < (((x0).Orders).length : Int)))) rfl (pick_f m7 rfl)) .plain rfl ?_
      refine EL_nil ?_
      obtain rfl := sinj h
      exact hQ _ _ ⟨aD, hfr, l9, q8, bB, cB, u2_0_1821, dB, eB, u5_0_1821, iB, jB, kB, lB, mB, nB, oB, eA, gA, i8, rfl⟩
    ·clear hx
     obtain ⟨kE, hfr, yE, zE, pB, qB, u2_0_1837, rB, sB, u5_0_1837, tB, uB, vB, xB, yB, cF, dF, sD, tD, uD, iA⟩ := hR
     rcases csome h with ⟨jA, h⟩ | ⟨jA, h⟩
     ·refine E_cond_true (Eq.trans (show ev _ _ = .bool (z8) from iA) (congrArg Value.bool jA)) ?_
      exact E_skip (thn_n (dH () _ _ ⟨kE, hfr, yE, zE, pB, qB, u2_0_1837, rB, sB, u5_0_1837, tB, uB, vB, xB, yB, cF, dF, sD, tD, uD⟩ h))
     ·refine E_cond_false (Eq.trans (show ev _ _ = .bool (z8) from iA) (congrArg Value.bool jA)) ?_
      refine E_exit ?_
      refine thn_e ?_
      refine thn_e ?_
      refine blk_hit ?_
      obtain ⟨rfl, rfl⟩ := pairs2 h
      exact hQ _ _ ⟨kE, (a7), (q5), hfr, pB, qB, u2_0_1837, rB, sB, u5_0_1837, tB, uB, vB, xB, yB⟩
   ·rintro _ kM zM ⟨bD, hfr, n9, u3, zB, z4, u2_0_1839, r8, z2, u5_0_1839, aC, d5, bC, i5, l5, o9, z3, n7, o0, a9⟩ h
    obtain ⟨⟨cC, p9, dC, kA⟩, hx, h⟩ := bsome h
    refine E_join (fun e w => ∃ (g : Gh) (v7 v8 : Value), Fr gI wI g w ∧ e 1 = p1 ∧ PT g.m w (x0 : Hall) p1 ∧ e 2 = p2 ∧ OB 2002 g w 24 ((⟨[], 0⟩ : LoomMill) : LoomMill) p2 ∧ OSF 2002 60200 0 g w 3 24 (((⟨[], 0⟩ : LoomMill)).Widths) p2 ∧ e 5 = p8 ∧ OB 2005 g w 24 (m4 : LoomMill) p8 ∧ OSF 2005 60500 0 g w 3 24 ((m4).Widths) p8 ∧ e 7 = v7 ∧ OA 4007 g w 82 (cC : List LoomOrder) v7 ∧ e 8 = v8 ∧ RV g.m w (p9 : List LoomRun) v8 ∧ OS 3042 g w 76 (p9 : List LoomRun) v8 ∧ e 9 = x6 ∧ OB 2009 g w 126 (dC : Vector Int 3) x6 ∧ e 10 = b7 ∧ OB 2010 g w 126 (kA : Vector Int 3) b7 ∧ e 11 = .int .i64 (d3)) (fun Q' hQ => ?_) (fun mM aN hR => ?_)
    ·replace h := hx
     clear hx
     refine E_block ?_
     refine E_seq (E_region (EL_pur (v := fPtr p1 5) (P_fieldAddr at_71_3 n9 (PT.ptr u3)) .plain rfl ?_))
     have vI := PT_field (part_Hall_3).1 u3
     refine EL_do .plain rfl (D_load (g := bD) Try.isAgg69 Try.sizeOf69 rfl vI fun xI lE => ?_)
     refine EL_mv a9 rfl ?_
     obtain ⟨p5, iD, h⟩ := bsome h
     refine EL_pur (v := ePtr xI d3 6) (P_indexAddr (α := Vector UInt8 6) Try.underlying69 Try.sizeOf127 rfl lE rfl iD) .plain rfl ?_
     have yI := PT_idx lE iD
     refine EL_do .plain rfl (D_load (g := bD) Try.isAgg127 Try.sizeOf127 rfl yI fun zI cD => ?_)
     refine EL_do .plain rfl (D_allocOc (g := bD) 2012 ((⟨List.toArray [0, 0, 0, 0, 0, 0], rfl⟩ : Vector UInt8 6) : Vector UInt8 6) Try.zeroValue127 (fun m w => ⟨_, (rep_vec (flat_chunk rep_u8 (flat_chunk rep_u8 (flat_chunk rep_u8 (flat_chunk rep_u8 (flat_chunk rep_u8 (flat_chunk rep_u8 flat_nil)))))) rfl), rfl⟩) fun aJ bN d7 hs b2668 cb => ?_)
     have hfr := hfr.stp hs
     have u3 := u3.stp hs
     have u2_0_1839 := u2_0_1839.stp hs rfl
     have z4 := z4.stp hs rfl
     have u5_0_1839 := u5_0_1839.stp hs rfl
     have z2 := z2.stp hs rfl
     have d5 := d5.stp hs rfl
     have i5 := i5.stp hs
     have l5 := l5.stp hs rfl
     have z3 := z3.stp hs rfl
     have o0 := o0.stp hs rfl
     have cD := cD.stp hs
     clear cb
     refine EL_do .plain rfl (D_storeOc (g := aJ) (v := zI) Try.sizeOf127 rfl b2668 rfl cD fun z9 bJ hs b2669 cb => ?_)
     clear cb
     have hfr := hfr.stp hs
     have u3 := u3.stp hs
     have u2_0_1839 := u2_0_1839.stp hs rfl
     have z4 := z4.stp hs rfl
     have u5_0_1839 := u5_0_1839.stp hs rfl
     have z2 := z2.stp hs rfl
     have d5 := d5.stp hs rfl
     have i5 := i5.stp hs
     have l5 := l5.stp hs rfl
     have z3 := z3.stp hs rfl
     have o0 := o0.stp hs rfl
     refine EL_nil (thn_n (E_seq (E_region (EL_pur (v := fPtr d7 0) (P_indexAddrA (α := UInt8) (i := (0 : Int)) Try.underlying127 Try.sizeOf5 rfl (OB.ptr b2669) rfl (idx_vec (v := p5) (i := 0) (by decide))) .plain rfl ?_))))
     refine EL_do .plain rfl (D_loadF (g := z9) (SubS.vec (β := UInt8) (n := 6) (i := 0) (by decide)).1 Try.isAgg5 Try.sizeOf5 rfl b2669 fun cN cJ => ?_)
     obtain rfl := RV_u8.1 cJ
     refine EL_pur (v := .int .i64 ((((p5)[0]).toNat : Int))) (P_u8int Try.underlying5 Try.underlying3 rfl) .plain rfl ?_
     refine EL_pur (v := fPtr p8 0) (P_fieldAddr at_24_0 r8 (OB.ptr z2)) .plain rfl ?_
     refine EL_do .plain rfl (D_loadFS (g := z9) part_LoomMill_0.1 Try.isAgg22 Try.sizeOf22 rfl z2 u5_0_1839 fun dN dJ o2672 => ?_)
     refine EL_pur (v := .int .i64 (((m4).Widths).length : Int)) (P_len Try.underlying22 rfl dJ) .plain rfl ?_
     obtain ⟨p4, gH, h⟩ := bsome h
     refine EL_pur (v := .int .i64 (p4)) (P_int rfl rfl (congrArg (Option.map (Value.int .i64)) gH)) .plain rfl ?_
     refine EL_at (.int .i64 (p4)) rfl rfl ?_
     refine EL_nil (thn_n (E_seq (L_loadO (x := .tmp 68) (SubS.vec (β := UInt8) (n := 6) (i := 1) (by decide)).1 Try.isAgg5 Try.sizeOf5 b2669 fun eN eJ iH => ?_)))
     obtain rfl := RV_u8.1 eJ
     refine L_loadFS (x := .tmp 71) part_LoomMill_0.1 Try.isAgg22 Try.sizeOf22 z2 u5_0_1839 fun mE nE o2676 jH => ?_
     obtain ⟨gJ, jD, h⟩ := bsome h
     have iJ := PT_idx nE jD
     refine L_load (x := .tmp 74) Try.isAgg3 Try.sizeOf3 iJ fun gN jJ kH => ?_
     obtain rfl := RV_int.1 jJ
     obtain ⟨l6, lH, h⟩ := bsome h
     refine L_loadO (x := .tmp 78) (SubS.vec (β := UInt8) (n := 6) (i := 2) (by decide)).1 Try.isAgg5 Try.sizeOf5 b2669 fun iN kJ mH => ?_
     obtain rfl := RV_u8.1 kJ
     obtain ⟨c6, nH, h⟩ := bsome h
     refine L_loadO (x := .tmp 82) (SubS.vec (β := UInt8) (n := 6) (i := 3) (by decide)).1 Try.isAgg5 Try.sizeOf5 b2669 fun jN lJ oH => ?_
     obtain rfl := RV_u8.1 lJ
     obtain ⟨d4, pH, h⟩ := bsome h
     have bA : RV z9.m bJ (⟨(w64 ((1 : Int) + l6)), c6, (w64 ((1 : Int) + d4)), 0, 0⟩ : LoomOrder) (.agg (setCh [[.int .i64 0], [.int .i64 0], [.int .i64 0], [.int .i64 0], [.int .i64 0]] [(0, .int .i64 ((w64 ((1 : Int) + l6)))), (1, .int .i64 (c6)), (2, .int .i64 ((w64 ((1 : Int) + d4))))]).flatten.toArray) := RV_build rfl (rep_pair (rfl) (rep_pair (rfl) (rep_pair (rfl) (rep_pair (rep_int) (rep_last (rep_int))))))
     generalize qH : (Value.agg (setCh [[.int .i64 0], [.int .i64 0], [.int .i64 0], [.int .i64 0], [.int .i64 0]] [(0, .int .i64 ((w64 ((1 : Int) + l6)))), (1, .int .i64 (c6)), (2, .int .i64 ((w64 ((1 : Int) + d4))))]).flatten.toArray) = oE at bA
     refine E_drawL (g := z9) (n := 21) [(20, (fun v g w => OB 2014 g w 82 (⟨0, 0, 0, 0, 0⟩ : LoomOrder) v))] [0, 1, 2, 3, 4, 5, 6, 7, 8, 9, 10, 11, 12, 13, 14, 15, 16, 17, 18, 19, 20] rfl mixed (by kernel_rfl) (⟨fun _ => up_ob, trivial⟩) ?_
     refine L_pur (c := fPtr d7 1) rfl rfl .plain (fun _ _ hd => P_indexAddrA (α := UInt8) (i := (1 : Int)) Try.underlying127 Try.sizeOf5 rfl (OB.ptr b2669) rfl (idx_vec (v := p5) (i := 1) (by decide))) ?_
     refine L_ld (c := .int .u8 (UInt8.toNat ((p5)[1]))) rfl rfl .plain (fun _ _ h => ⟨h.ch, fun b hb _ => h.below.block b hb⟩) iH rfl ?_
     refine L_pur (c := .int .i64 ((((p5)[1]).toNat : Int))) rfl rfl .plain (fun _ _ hd => P_u8int Try.underlying5 Try.underlying3 rfl) ?_
     refine L_pur (c := fPtr p8 0) rfl rfl .plain (fun _ _ hd => P_fieldAddr at_24_0 r8 (OB.ptr z2)) ?_
     refine L_ld (c := mE) rfl rfl .plain (fun _ _ h => ⟨h.ch, fun b hb _ => h.below.block b hb⟩) jH rfl ?_
     refine L_pur (c := .int .i64 (p4)) rfl rfl .plain (fun _ _ hd => P_move rfl) ?_
     refine L_pur (c := ePtr mE p4 1) rfl rfl .plain (fun _ _ hd => P_indexAddr (α := Int) Try.underlying22 Try.sizeOf3 rfl nE rfl jD) ?_
     refine L_ld (c := .int .i64 (gJ)) rfl rfl .plain (fun _ _ h => h.ch) kH rfl ?_
     refine L_pur (c := .int .i64 (l6)) rfl rfl .plain (fun _ _ hd => P_int rfl rfl (congrArg (Option.map (Value.int .i64)) lH)) ?_
     refine L_pur (c := .int .i64 ((w64 ((1 : Int) + l6)))) rfl rfl .plain (fun _ _ hd => P_int rfl rfl rfl) ?_
     refine L_pur (c := fPtr d7 2) rfl rfl .plain (fun _ _ hd => P_indexAddrA (α := UInt8) (i := (2 : Int)) Try.underlying127 Try.sizeOf5 rfl (OB.ptr b2669) rfl (idx_vec (v := p5) (i := 2) (by decide))) ?_
     refine L_ld (c := .int .u8 (UInt8.toNat ((p5)[2]))) rfl rfl .plain (fun _ _ h => ⟨h.ch, fun b hb _ => h.below.block b hb⟩) mH rfl ?_
     refine L_pur (c := .int .i64 ((((p5)[2]).toNat : Int))) rfl rfl .plain (fun _ _ hd => P_u8int Try.underlying5 Try.underlying3 rfl) ?_
     refine L_pur (c := .int .i64 (c6)) rfl rfl .plain (fun _ _ hd => P_int rfl rfl (congrArg (Option.map (Value.int .i64)) nH)) ?_
     refine L_pur (c := fPtr d7 3) rfl rfl .plain (fun _ _ hd => P_indexAddrA (α := UInt8) (i := (3 : Int)) Try.underlying127 Try.sizeOf5 rfl (OB.ptr b2669) rfl (idx_vec (v := p5) (i := 3) (by decide))) ?_
     refine L_ld (c := .int .u8 (UInt8.toNat ((p5)[3]))) rfl rfl .plain (fun _ _ h => ⟨h.ch, fun b hb _ => h.below.block b hb⟩) oH rfl ?_
     refine L_pur (c := .int .i64 ((((p5)[3]).toNat : Int))) rfl rfl .plain (fun _ _ hd => P_u8int Try.underlying5 Try.underlying3 rfl) ?_
     refine L_pur (c := .int .i64 (d4)) rfl rfl .plain (fun _ _ hd => P_int rfl rfl (congrArg (Option.map (Value.int .i64)) pH)) ?_
     refine L_pur (c := .int .i64 ((w64 ((1 : Int) + d4)))) rfl rfl .plain (fun _ _ hd => P_int rfl rfl rfl) ?_
     refine L_pur (c := oE) rfl rfl .plain (fun _ _ hd => qH ▸ P_build (vs := [(0, .int .i64 ((w64 ((1 : Int) + l6)))), (1, .int .i64 (c6)), (2, .int .i64 ((w64 ((1 : Int) + d4))))]) [[.int .i64 0], [.int .i64 0], [.int .i64 0], [.int .i64 0], [.int .i64 0]] lay_82 rfl rfl (.cons rfl (.cons rfl (.cons rfl .nil))) ⟨⟨_, rfl, rfl⟩, ⟨⟨_, rfl, rfl⟩, ⟨⟨_, rfl, rfl⟩, trivial⟩⟩⟩) ?_
     refine L_do (φ := fun v g w => OB 2014 g w 82 (⟨0, 0, 0, 0, 0⟩ : LoomOrder) v) rfl rfl .plain (fun g w hd => D_allocX (g := g) 2014 (⟨0, 0, 0, 0, 0⟩ : LoomOrder) Try.zeroValue82 (fun m w => ⟨_, (rep_two rep_int (rep_two rep_int (rep_two rep_int (rep_two rep_int rep_int)))), rfl⟩) fun g' w' v hs b => ⟨g', hs, b⟩) (fun v6 hv => ?_)
     clear hv
     refine L_nil fun mJ kN hall => ?_
     have hs := hall.1
     have hfr := hfr.ext hs
     have u3 := u3.ext hs
     have u2_0_1839 := u2_0_1839.ext hs
     have z4 := z4.ext hs
     have u5_0_1839 := u5_0_1839.ext hs
     have z2 := z2.ext hs
     have d5 := d5.ext hs
     have i5 := i5.ext hs
     have l5 := l5.ext hs
     have z3 := z3.ext hs
     have o0 := o0.ext hs
     have b2669 := b2669.ext hs
     have bA := bA.ext hs
     have b2730 := (word_all (A := fun g w => OB 2014 g w 82 (⟨0, 0, 0, 0, 0⟩ : LoomOrder) v6) 20 rfl hall)
     clear hs hall
     refine EL_do .plain rfl (D_storeOc (g := mJ) (v := oE) Try.sizeOf82 rfl b2730 rfl bA fun nJ lN hs b2731 cb => ?_)
     clear cb
     have hfr := hfr.stp hs
     have u3 := u3.stp hs
     have u2_0_1839 := u2_0_1839.stp hs rfl
     have z4 := z4.stp hs rfl
     have u5_0_1839 := u5_0_1839.stp hs rfl
     have z2 := z2.stp hs rfl
     have d5 := d5.stp hs rfl
     have i5 := i5.stp hs
     have l5 := l5.stp hs rfl
     have z3 := z3.stp hs rfl
     have o0 := o0.stp hs rfl
     have b2669 := b2669.stp hs rfl
     refine EL_nil (thn_n (E_seq ?_))
     obtain ⟨t8, kD, h⟩ := bsome h
     obtain ⟨hi2733, he2733⟩ := vat_idx kD
     refine L_loadOD (x := .tmp 89) (SubS.dyn hi2733).1 he2733 Try.isAgg3 Try.sizeOf3 z3 fun mN oJ sH => ?_
     obtain rfl := RV_int.1 oJ
     refine L_loadO (x := .tmp 91) (SubS.vec (β := UInt8) (n := 6) (i := 0) (by decide)).1 Try.isAgg5 Try.sizeOf5 b2669 fun nN pJ tH => ?_
     obtain rfl := RV_u8.1 pJ
     obtain ⟨qJ, uH, h⟩ := bsome h
     obtain ⟨x8, vH, h⟩ := bsome h
     refine E_drawL (g := nJ) (n := 10) [] [0, 1, 2, 3, 4, 5, 6, 7, 8, 9] rfl mixed (by kernel_rfl) trivial ?_
     refine L_pur (c := .int .i64 (p4)) rfl rfl .plain (fun _ _ hd => P_move rfl) ?_
     refine L_pur (c := fPtr x6 ((p4 : Int).toNat * 1)) rfl rfl .plain (fun _ _ hd => P_indexAddrA (α := Int) Try.underlying126 Try.sizeOf3 o9 (OB.ptr z3) rfl kD) ?_
     refine L_ld (c := .int .i64 (t8)) rfl rfl .plain (fun _ _ h => ⟨h.ch, fun b hb _ => h.below.block b hb⟩) sH rfl ?_
     refine L_pur (c := fPtr d7 0) rfl rfl .plain (fun _ _ hd => P_indexAddrA (α := UInt8) (i := (0 : Int)) Try.underlying127 Try.sizeOf5 rfl (OB.ptr b2669) rfl (idx_vec (v := p5) (i := 0) (by decide))) ?_
     refine L_ld (c := .int .u8 (UInt8.toNat ((p5)[0]))) rfl rfl .plain (fun _ _ h => ⟨h.ch, fun b hb _ => h.below.block b hb⟩) tH rfl ?_
     refine L_pur (c := .int .i64 ((((p5)[0]).toNat : Int))) rfl rfl .plain (fun _ _ hd => P_u8int Try.underlying5 Try.underlying3 rfl) ?_
     refine L_pur (c := .int .i64 (qJ)) rfl rfl .plain (fun _ _ hd => P_int rfl rfl (congrArg (Option.map (Value.int .i64)) uH)) ?_
     refine L_pur (c := .int .i64 (x8)) rfl rfl .plain (fun _ _ hd => P_int rfl rfl (congrArg (Option.map (Value.int .i64)) vH)) ?_
     refine L_pur (c := .int .i64 ((w64 (t8 + x8)))) rfl rfl .plain (fun _ _ hd => P_int rfl rfl rfl) ?_
     refine L_pur (c := .int .i64 ((w64 (t8 + x8)))) rfl rfl .plain (fun _ _ hd => P_assign rfl) ?_
     refine L_nil fun rE oN hall => ?_
     have hs := hall.1
     have hfr := hfr.ext hs
     have u3 := u3.ext hs
     have u2_0_1839 := u2_0_1839.ext hs
     have z4 := z4.ext hs
     have u5_0_1839 := u5_0_1839.ext hs
     have z2 := z2.ext hs
     have d5 := d5.ext hs
     have i5 := i5.ext hs
     have l5 := l5.ext hs
     have z3 := z3.ext hs
     have o0 := o0.ext hs
     have b2669 := b2669.ext hs
     have b2731 := b2731.ext hs
     clear hs hall
     refine EL_nil (thn_n ?_)
     obtain ⟨u0, hx, h⟩ := bsome h
     refine E_join (fun e w => ∃ (g : Gh) , Fr gI wI g w ∧ e 1 = p1 ∧ PT g.m w (x0 : Hall) p1 ∧ e 2 = p2 ∧ OB 2002 g w 24 ((⟨[], 0⟩ : LoomMill) : LoomMill) p2 ∧ OSF 2002 60200 0 g w 3 24 (((⟨[], 0⟩ : LoomMill)).Widths) p2 ∧ e 5 = p8 ∧ OB 2005 g w 24 (m4 : LoomMill) p8 ∧ OSF 2005 60500 0 g w 3 24 ((m4).Widths) p8 ∧ e 7 = a7 ∧ OA 4007 g w 82 (o8 : List LoomOrder) a7 ∧ e 8 = q5 ∧ RV g.m w (c7 : List LoomRun) q5 ∧ OS 3042 g w 76 (c7 : List LoomRun) q5 ∧ e 9 = x6 ∧ OB 2009 g w 126 (z6 : Vector Int 3) x6 ∧ e 10 = b7 ∧ OB 2010 g w 126 (e8 : Vector Int 3) b7 ∧ e 11 = .int .i64 (d3) ∧ e 12 = d7 ∧ OB 2012 g w 127 (p5 : Vector UInt8 6) d7 ∧ e 13 = .int .i64 (p4) ∧ e 14 = v6 ∧ OB 2014 g w 82 ((⟨(w64 ((1 : Int) + l6)), c6, (w64 ((1 : Int) + d4)), 0, 0⟩ : LoomOrder) : LoomOrder) v6 ∧ e 15 = .int .i64 (u0)) (fun Q' hQ => ?_) (fun nM pN hR => ?_)
     ·replace h := hx
      clear hx
      obtain ⟨n8, hx, h⟩ := bsome h
      refine E_join (fun e w => ∃ (g : Gh) , Fr gI wI g w ∧ e 1 = p1 ∧ PT g.m w (x0 : Hall) p1 ∧ e 2 = p2 ∧ OB 2002 g w 24 ((⟨[], 0⟩ : LoomMill) : LoomMill) p2 ∧ OSF 2002 60200 0 g w 3 24 (((⟨[], 0⟩ : LoomMill)).Widths) p2 ∧ e 5 = p8 ∧ OB 2005 g w 24 (m4 : LoomMill) p8 ∧ OSF 2005 60500 0 g w 3 24 ((m4).Widths) p8 ∧ e 7 = a7 ∧ OA 4007 g w 82 (o8 : List LoomOrder) a7 ∧ e 8 = q5 ∧ RV g.m w (c7 : List LoomRun) q5 ∧ OS 3042 g w 76 (c7 : List LoomRun) q5 ∧ e 9 = x6 ∧ OB 2009 g w 126 (z6 : Vector Int 3) x6 ∧ e 10 = b7 ∧ OB 2010 g w 126 (e8 : Vector Int 3) b7 ∧ e 11 = .int .i64 (d3) ∧ e 12 = d7 ∧ OB 2012 g w 127 (p5 : Vector UInt8 6) d7 ∧ e 13 = .int .i64 (p4) ∧ e 14 = v6 ∧ OB 2014 g w 82 ((⟨(w64 ((1 : Int) + l6)), c6, (w64 ((1 : Int) + d4)), 0, 0⟩ : LoomOrder) : LoomOrder) v6 ∧ e 15 = .int .i64 ((w64 (t8 + x8))) ∧ e 108 = .bool (n8)) (fun Q' hQ => ?_) (fun oM qN hR => ?_)
      ·replace h := hx
       clear hx
       obtain ⟨q7, lA, h⟩ := bsome h
       obtain ⟨hi3220, he3220⟩ := vat_idx lA
       refine L_loadOD (x := .tmp 98) (SubS.dyn hi3220).1 he3220 Try.isAgg3 Try.sizeOf3 o0 fun rN rJ lD => ?_
       obtain rfl := RV_int.1 rJ
       rcases csome h with ⟨x5, h⟩ | ⟨x5, h⟩
       ·obtain ⟨dD, mD, h⟩ := bsome h
        obtain ⟨hi3224, he3224⟩ := vat_idx mD
        refine L_loadOD (x := .tmp 103) (SubS.dyn hi3224).1 he3224 Try.isAgg3 Try.sizeOf3 o0 fun sN sJ xH => ?_
        obtain rfl := RV_int.1 sJ
        refine L_loadO (x := .tmp 105) part_LoomOrder_1.1 Try.isAgg3 Try.sizeOf3 b2731 fun tN tJ yH => ?_
        obtain rfl := RV_int.1 tJ
        refine E_drawL (g := rE) (n := 12) [] [0, 1, 2, 3, 4, 5, 6, 7, 8, 9, 10, 11] rfl mixed (by kernel_rfl) trivial ?_
        refine L_pur (c := .int .i64 (p4)) rfl rfl .plain (fun _ _ hd => P_move rfl) ?_
        refine L_pur (c := fPtr b7 ((p4 : Int).toNat * 1)) rfl rfl .plain (fun _ _ hd => P_indexAddrA (α := Int) Try.underlying126 Try.sizeOf3 n7 (OB.ptr o0) rfl lA) ?_
        refine L_ld (c := .int .i64 (q7)) rfl rfl .plain (fun _ _ h => ⟨h.ch, fun b hb _ => h.below.block b hb⟩) lD rfl ?_
        refine L_pur (c := .bool ((decide (q7 ≥ (0 : Int))))) rfl rfl .plain (fun _ _ hd => P_int rfl rfl rfl) ?_
        refine L_pur (c := .bool ((decide (q7 ≥ (0 : Int))))) rfl rfl .plain (fun _ _ hd => P_move rfl) ?_
        refine L_pur (c := .int .i64 (p4)) rfl rfl (.yes2 rfl rfl x5) (fun _ _ hd => P_move rfl) ?_
        refine L_pur (c := fPtr b7 ((p4 : Int).toNat * 1)) rfl rfl (.yes2 rfl rfl x5) (fun _ _ hd => P_indexAddrA (α := Int) Try.underlying126 Try.sizeOf3 n7 (OB.ptr o0) rfl mD) ?_
        refine L_ld (c := .int .i64 (dD)) rfl rfl (.yes2 rfl rfl x5) (fun _ _ h => ⟨h.ch, fun b hb _ => h.below.block b hb⟩) xH rfl ?_
        refine L_pur (c := fPtr v6 1) rfl rfl (.yes2 rfl rfl x5) (fun _ _ hd => P_fieldAddr at_82_1 rfl (OB.ptr b2731)) ?_
        refine L_ld (c := .int .i64 (c6)) rfl rfl (.yes2 rfl rfl x5) (fun _ _ h => ⟨h.ch, fun b hb _ => h.below.block b hb⟩) yH rfl ?_
        refine L_pur (c := .bool ((dD != c6))) rfl rfl (.yes2 rfl rfl x5) (fun _ _ hd => P_int rfl rfl rfl) ?_
        refine L_pur (c := .bool ((dD != c6))) rfl rfl .plain (fun _ _ hd => P_pick (b := (decide (q7 ≥ (0 : Int)))) rfl (pick_t x5 rfl)) ?_
        refine L_nil fun uJ uN hall => ?_
        have hs := hall.1
        have hfr := hfr.ext hs
        have u3 := u3.ext hs
        have u2_0_1839 := u2_0_1839.ext hs
        have z4 := z4.ext hs
        have u5_0_1839 := u5_0_1839.ext hs
        have z2 := z2.ext hs
        have d5 := d5.ext hs
        have i5 := i5.ext hs
        have l5 := l5.ext hs
        have z3 := z3.ext hs
        have o0 := o0.ext hs
        have b2669 := b2669.ext hs
        have b2731 := b2731.ext hs
        clear hs hall
        refine EL_nil ?_
        obtain rfl := sinj h
        exact hQ _ _ ⟨uJ, hfr, n9, u3, zB, z4, u2_0_1839, r8, z2, u5_0_1839, aC, d5, bC, i5, l5, o9, z3, n7, o0, a9, rfl, b2669, rfl, rfl, b2731, rfl, rfl⟩
       ·refine E_drawL (g := rE) (n := 12) [] [0, 1, 2, 3, 4, 5, 6, 7, 8, 9, 10, 11] rfl mixed (by kernel_rfl) trivial ?_
        refine L_pur (c := .int .i64 (p4)) rfl rfl .plain (fun _ _ hd => P_move rfl) ?_
        refine L_pur (c := fPtr b7 ((p4 : Int).toNat * 1)) rfl rfl .plain (fun _ _ hd => P_indexAddrA (α := Int) Try.underlying126 Try.sizeOf3 n7 (OB.ptr o0) rfl lA) ?_
        refine L_ld (c := .int .i64 (q7)) rfl rfl .plain (fun _ _ h => ⟨h.ch, fun b hb _ => h.below.block b hb⟩) lD rfl ?_
        refine L_pur (c := .bool ((decide (q7 ≥ (0 : Int))))) rfl rfl .plain (fun _ _ hd => P_int rfl rfl rfl) ?_
        refine L_pur (c := .bool ((decide (q7 ≥ (0 : Int))))) rfl rfl .plain (fun _ _ hd => P_move rfl) ?_
        refine L_skip rfl (.no2 rfl rfl x5 rfl) ?_
        refine L_skip rfl (.no2 rfl rfl x5 rfl) ?_
        refine L_skip rfl (.no2 rfl rfl x5 rfl) ?_
        refine L_skip rfl (.no2 rfl rfl x5 rfl) ?_
        refine L_skip rfl (.no2 rfl rfl x5 rfl) ?_
        refine L_skip rfl (.no2 rfl rfl x5 rfl) ?_
        refine L_pur (c := .bool false) rfl rfl .plain (fun _ _ hd => P_pick (b := (decide (q7 ≥ (0 : Int)))) rfl (pick_f x5 rfl)) ?_
        refine L_nil fun vJ vN hall => ?_
        have hs := hall.1
        have hfr := hfr.ext hs
        have u3 := u3.ext hs
        have u2_0_1839 := u2_0_1839.ext hs
        have z4 := z4.ext hs
        have u5_0_1839 := u5_0_1839.ext hs
        have z2 := z2.ext hs
        have d5 := d5.ext hs
        have i5 := i5.ext hs
        have l5 := l5.ext hs
        have z3 := z3.ext hs
        have o0 := o0.ext hs
        have b2669 := b2669.ext hs
        have b2731 := b2731.ext hs
        clear hs hall
        refine EL_nil ?_
        obtain rfl := sinj h
        exact hQ _ _ ⟨vJ, hfr, n9, u3, zB, z4, u2_0_1839, r8, z2, u5_0_1839, aC, d5, bC, i5, l5, o9, z3, n7, o0, a9, rfl, b2669, rfl, rfl, b2731, rfl, rfl⟩
      ·clear hx
       obtain ⟨eD, hfr, eC, iC, jC, kC, u2_0_3360, q9, y8, u5_0_3360, lC, mC, nC, oC, qC, rC, sC, mA, nA, oA, pA, qA, rA, sA, tA, uA, u9⟩ := hR
       rcases csome h with ⟨vA, h⟩ | ⟨vA, h⟩
       ·refine E_cond_true (Eq.trans (show ev _ _ = .bool (n8) from u9) (congrArg Value.bool vA)) ?_
        refine E_region (EL_mv uA rfl ?_)
        refine EL_pur (v := fPtr p8 1) (P_fieldAddr at_24_1 q9 (OB.ptr y8)) .plain rfl ?_
        refine EL_do .plain rfl (D_loadF (g := eD) part_LoomMill_1.1 Try.isAgg3 Try.sizeOf3 rfl y8 fun xN xJ => ?_)
        obtain rfl := RV_int.1 xJ
        refine EL_in (.int .i64 ((w64 ((w64 (t8 + x8)) + (m4).Change)))) rfl rfl rfl rfl ?_
        refine EL_at (.int .i64 ((w64 ((w64 (t8 + x8)) + (m4).Change)))) rfl rfl ?_
        refine EL_nil ?_
        obtain rfl := sinj h
        exact hQ _ _ ⟨eD, hfr, eC, iC, jC, kC, u2_0_3360, q9, y8, u5_0_3360, lC, mC, nC, oC, qC, rC, sC, mA, nA, oA, pA, qA, rA, sA, tA, rfl⟩
       ·refine E_cond_false (Eq.trans (show ev _ _ = .bool (n8) from u9) (congrArg Value.bool vA)) ?_
        refine E_skip ?_
        obtain rfl := sinj h
        exact hQ _ _ ⟨eD, hfr, eC, iC, jC, kC, u2_0_3360, q9, y8, u5_0_3360, lC, mC, nC, oC, qC, rC, sC, mA, nA, oA, pA, qA, rA, sA, tA, uA⟩
     ·clear hx
      obtain ⟨yN, hfr, eF, i3, gF, j3, u2_0_3364, iF, o3, u5_0_3364, jF, e7, kF, t5, u5, tC, o5, xA, j1, yA, zA, k8, d9, g7, e9, l8⟩ := hR
      refine E_seq (L_loadO (x := .tmp 114) (SubS.vec (β := UInt8) (n := 6) (i := 4) (by decide)).1 Try.isAgg5 Try.sizeOf5 k8 fun zN yJ zH => ?_)
      obtain rfl := RV_u8.1 yJ
      obtain ⟨t7, aI, h⟩ := bsome h
      refine L_loadO (x := .tmp 124) (SubS.vec (β := UInt8) (n := 6) (i := 5) (by decide)).1 Try.isAgg5 Try.sizeOf5 k8 fun aO zJ bI => ?_
      obtain rfl := RV_u8.1 zJ
      obtain ⟨gD, cI, h⟩ := bsome h
      refine E_drawB (a0 := ((⟨(w64 ((1 : Int) + l6)), c6, (w64 ((1 : Int) + d4)), 0, 0⟩ : LoomOrder) : LoomOrder)) (a1 := ((⟨(w64 ((1 : Int) + l6)), c6, (w64 ((1 : Int) + d4)), (max64 (0 : Int) (w64 (u0 - t7))), 0⟩ : LoomOrder) : LoomOrder)) e9 (n := 18) [(17, (fun _ g w => OB 2014 g w 82 ((⟨(w64 ((1 : Int) + l6)), c6, (w64 ((1 : Int) + d4)), (max64 (0 : Int) (w64 (u0 - t7))), 0⟩ : LoomOrder) : LoomOrder) v6))] [0, 1, 2, 3, 4, 5, 6, 7, 8, 9, 10, 11, 12, 13, 14, 15, 16, 17] rfl mixed (by kernel_rfl) (⟨fun _ => up_box, trivial⟩) ?_
      refine L_pur (c := .int .i64 (u0)) rfl rfl .plain (fun _ _ hd => P_move l8) ?_
      refine L_pur (c := fPtr d7 4) rfl rfl .plain (fun _ _ hd => P_indexAddrA (α := UInt8) (i := (4 : Int)) Try.underlying127 Try.sizeOf5 zA (OB.ptr k8) rfl (idx_vec (v := p5) (i := 4) (by decide))) ?_
      refine L_ld (c := .int .u8 (UInt8.toNat ((p5)[4]))) rfl rfl .plain (fun _ _ h => ⟨h.1.ch, fun b hb ho => h.1.block b hb (by rw [ho]; decide)⟩) zH rfl ?_
      refine L_pur (c := .int .i64 ((((p5)[4]).toNat : Int))) rfl rfl .plain (fun _ _ hd => P_u8int Try.underlying5 Try.underlying3 rfl) ?_
      refine L_pur (c := .int .i64 (t7)) rfl rfl .plain (fun _ _ hd => P_int rfl rfl (congrArg (Option.map (Value.int .i64)) aI)) ?_
      refine L_pur (c := .int .i64 ((w64 (u0 - t7)))) rfl rfl .plain (fun _ _ hd => P_int rfl rfl rfl) ?_
      refine L_pur (c := .int .i64 (max64 (0 : Int) (w64 (u0 - t7)))) rfl rfl .plain (fun _ _ hd => P_max rfl rfl) ?_
      refine L_pur (c := .int .i64 (u0)) rfl rfl .plain (fun _ _ hd => P_move l8) ?_
      refine L_pur (c := fPtr v6 2) rfl rfl .plain (fun _ _ hd => P_fieldAddr at_82_2 g7 (OB.ptr e9)) ?_
      refine L_val (c := .int .i64 ((w64 ((1 : Int) + d4)))) rfl rfl .plain (fun g w hd => loadAB part_LoomOrder_2.1 (by rfl) (by rfl) RV_int.1 Try.isAgg3 Try.sizeOf3 rfl hd.1.2) ?_
      refine L_pur (c := .int .i64 ((w64 (u0 + (w64 ((1 : Int) + d4)))))) rfl rfl .plain (fun _ _ hd => P_int rfl rfl rfl) ?_
      refine L_pur (c := fPtr d7 5) rfl rfl .plain (fun _ _ hd => P_indexAddrA (α := UInt8) (i := (5 : Int)) Try.underlying127 Try.sizeOf5 zA (OB.ptr k8) rfl (idx_vec (v := p5) (i := 5) (by decide))) ?_
      refine L_ld (c := .int .u8 (UInt8.toNat ((p5)[5]))) rfl rfl .plain (fun _ _ h => ⟨h.1.ch, fun b hb ho => h.1.block b hb (by rw [ho]; decide)⟩) bI rfl ?_
      refine L_pur (c := .int .i64 ((((p5)[5]).toNat : Int))) rfl rfl .plain (fun _ _ hd => P_u8int Try.underlying5 Try.underlying3 rfl) ?_
      refine L_pur (c := .int .i64 (gD)) rfl rfl .plain (fun _ _ hd => P_int rfl rfl (congrArg (Option.map (Value.int .i64)) cI)) ?_
      refine L_pur (c := .int .i64 ((w64 ((w64 (u0 + (w64 ((1 : Int) + d4)))) + gD)))) rfl rfl .plain (fun _ _ hd => P_int rfl rfl rfl) ?_
      refine L_pur (c := fPtr v6 3) rfl rfl .plain (fun _ _ hd => P_fieldAddr at_82_3 g7 (OB.ptr e9)) ?_
      refine L_do (φ := fun _ g w => OB 2014 g w 82 ((⟨(w64 ((1 : Int) + l6)), c6, (w64 ((1 : Int) + d4)), (max64 (0 : Int) (w64 (u0 - t7))), 0⟩ : LoomOrder) : LoomOrder) v6) rfl rfl .plain (fun g w hd => D_storeR (g := g) (by rfl) (by exact rfl) part_LoomOrder_3 Try.sizeOf3 rfl hd.1.2 rfl (RV_int.2 rfl)) (fun bO hv => ?_)
      clear hv
      refine L_nil fun aK cO hall => ?_
      have hs := hall.1.1
      have hfr := hfr.stp hs
      have i3 := i3.stp hs
      have u2_0_3364 := u2_0_3364.stp hs rfl
      have j3 := j3.stp hs rfl
      have u5_0_3364 := u5_0_3364.stp hs rfl
      have o3 := o3.stp hs rfl
      have e7 := e7.stp hs rfl
      have t5 := t5.stp hs
      have u5 := u5.stp hs rfl
      have o5 := o5.stp hs rfl
      have j1 := j1.stp hs rfl
      have b3390 := (word_all (A := fun g w => OB 2014 g w 82 ((⟨(w64 ((1 : Int) + l6)), c6, (w64 ((1 : Int) + d4)), (max64 (0 : Int) (w64 (u0 - t7))), 0⟩ : LoomOrder) : LoomOrder) v6) 17 rfl hall)
      clear hs hall
      refine EL_pur (v := fPtr v6 4) (P_fieldAddr at_82_4 g7 (OB.ptr b3390)) .plain rfl ?_
      refine EL_do .plain rfl (D_storeFc (g := aK) part_LoomOrder_4 Try.sizeOf3 rfl b3390 rfl (RV_int.2 rfl) fun sE dO hs b3410 rst hos => ?_)
      clear rst hos
      have hfr := hfr.stp hs
      have i3 := i3.stp hs
      have u2_0_3364 := u2_0_3364.stp hs rfl
      have j3 := j3.stp hs rfl
      have u5_0_3364 := u5_0_3364.stp hs rfl
      have o3 := o3.stp hs rfl
      have e7 := e7.stp hs rfl
      have t5 := t5.stp hs
      have u5 := u5.stp hs rfl
      have o5 := o5.stp hs rfl
      have j1 := j1.stp hs rfl
      refine EL_nil (thn_n (E_seq (E_region (EL_mv jF rfl ?_))))
      refine EL_do .plain rfl (D_loadO (g := sE) Try.isAgg82 Try.sizeOf82 g7 b3410 fun bK cK => ?_)
      refine EL_do .plain rfl (D_buildSlice (g := sE) 3133 (xs := ([(⟨(w64 ((1 : Int) + l6)), c6, (w64 ((1 : Int) + d4)), (max64 (0 : Int) (w64 (u0 - t7))), (w64 ((w64 (u0 + (w64 ((1 : Int) + d4)))) + gD))⟩ : LoomOrder)] : List LoomOrder)) (vs := [bK]) Try.underlying25 Try.sizeOf82 Try.zeroValue82 rfl rfl (.cons rfl .nil) (RVs.cons cK RVs.nil) rfl rfl fun dK eO gO hs o3412 eK hxt hfl => ?_)
      have hfr := hfr.stp hs
      have i3 := i3.stp hs
      have u2_0_3364 := u2_0_3364.stp hs rfl
      have j3 := j3.stp hs rfl
      have u5_0_3364 := u5_0_3364.stp hs rfl
      have o3 := o3.stp hs rfl
      have e7 := e7.stp hs rfl
      have t5 := t5.stp hs
      have u5 := u5.stp hs rfl
      have o5 := o5.stp hs rfl
      have j1 := j1.stp hs rfl
      have b3410 := b3410.stp hs rfl
      obtain ⟨hO, dI, h⟩ := bsome h
      refine EL_do .plain rfl (D_appendA (g := dK) plain_LoomOrder (i := 4007) Try.underlying25 info_82 rfl rfl e7 rfl eK dI fun lK jO tE hs b3413 => ?_)
      have hfr := hfr.stp hs
      have i3 := i3.stp hs
      have u2_0_3364 := u2_0_3364.stp hs rfl
      have j3 := j3.stp hs rfl
      have u5_0_3364 := u5_0_3364.stp hs rfl
      have o3 := o3.stp hs rfl
      have t5 := t5.stp hs
      have u5 := u5.stp hs rfl
      have o5 := o5.stp hs rfl
      have j1 := j1.stp hs rfl
      have b3410 := b3410.stp hs rfl
      refine EL_mv kF rfl ?_
      refine EL_mv yA rfl ?_
      refine EL_mv d9 rfl ?_
      refine EL_mv l8 rfl ?_
      obtain ⟨mK, eI, h⟩ := bsome h
      refine EL_do .plain rfl (D_call (g := lK) (vs := [.int .i64 (d3), .int .i64 (p4), .int .i64 (u0)]) en46 (.cons rfl (.cons rfl (.cons rfl .nil))) (wk46  eI) fun nK pM oK hs hr => ?_)
      have hfr := hfr.ext hs
      have i3 := i3.ext hs
      have u2_0_3364 := u2_0_3364.ext hs
      have j3 := j3.ext hs
      have u5_0_3364 := u5_0_3364.ext hs
      have o3 := o3.ext hs
      have t5 := t5.ext hs
      have u5 := u5.ext hs
      have o5 := o5.ext hs
      have j1 := j1.ext hs
      have b3410 := b3410.ext hs
      have b3413 := b3413.ext hs
      have pK := hr
      refine EL_do .plain rfl (D_buildSlice (g := nK) 3140 (xs := ([mK] : List LoomRun)) (vs := [oK]) Try.underlying31 Try.sizeOf76 Try.zeroValue76 rfl rfl (.cons rfl .nil) (RVs.cons pK RVs.nil) rfl rfl fun qK kO lO hs o3417 sK hxt hfl => ?_)
      have hfr := hfr.stp hs
      have i3 := i3.stp hs
      have u2_0_3364 := u2_0_3364.stp hs rfl
      have j3 := j3.stp hs rfl
      have u5_0_3364 := u5_0_3364.stp hs rfl
      have o3 := o3.stp hs rfl
      have t5 := t5.stp hs
      have u5 := u5.stp hs rfl
      have o5 := o5.stp hs rfl
      have j1 := j1.stp hs rfl
      have b3410 := b3410.stp hs rfl
      have b3413 := b3413.stp hs rfl
      obtain ⟨mO, iI, h⟩ := bsome h
      refine EL_do .plain rfl (D_append (g := qK) (i := 3042) Try.underlying31 info_76 rfl rfl u5 t5 rfl sK iI fun nO oO uE hs o3418 i9 _ => ?_)
      have hfr := hfr.stp hs
      have i3 := i3.stp hs
      have u2_0_3364 := u2_0_3364.stp hs rfl
      have j3 := j3.stp hs rfl
      have u5_0_3364 := u5_0_3364.stp hs rfl
      have o3 := o3.stp hs rfl
      have o5 := o5.stp hs rfl
      have j1 := j1.stp hs rfl
      have b3410 := b3410.stp hs rfl
      have b3413 := b3413.stp hs rfl
      refine EL_at tE rfl rfl ?_
      refine EL_at uE rfl rfl ?_
      refine EL_nil (thn_n (L_loadO (x := .tmp 145) part_LoomOrder_2.1 Try.isAgg3 Try.sizeOf3 b3410 fun pO tK jI => ?_))
      obtain rfl := RV_int.1 tK
      refine L_loadO (x := .tmp 148) part_LoomOrder_1.1 Try.isAgg3 Try.sizeOf3 b3410 fun qO uK kI => ?_
      obtain rfl := RV_int.1 uK
      obtain ⟨rO, nD, h⟩ := bsome h
      obtain ⟨hi3429, he3429⟩ := vat_idx nD
      refine E_drawB (a0 := (z6 : Vector Int 3)) (a1 := ((vset z6 p4 ((w64 (u0 + (w64 ((1 : Int) + d4)))))) : Vector Int 3)) o5 (n := 10) [(9, (fun _ g w => OB 2009 g w 126 ((vset z6 p4 ((w64 (u0 + (w64 ((1 : Int) + d4)))))) : Vector Int 3) x6))] [0, 1, 2, 3, 4, 5, 6, 7, 8, 9] rfl mixed (by kernel_rfl) (⟨fun _ => up_box, trivial⟩) ?_
      refine L_pur (c := .int .i64 (p4)) rfl rfl .plain (fun _ _ hd => P_move d9) ?_
      refine L_pur (c := .int .i64 (p4)) rfl rfl .plain (fun _ _ hd => P_move d9) ?_
      refine L_pur (c := .int .i64 (u0)) rfl rfl .plain (fun _ _ hd => P_move l8) ?_
      refine L_pur (c := fPtr v6 2) rfl rfl .plain (fun _ _ hd => P_fieldAddr at_82_2 g7 (OB.ptr b3410)) ?_
      refine L_ld (c := .int .i64 ((w64 ((1 : Int) + d4)))) rfl rfl .plain (fun _ _ h => ⟨h.1.ch, fun b hb ho => h.1.block b hb (by rw [ho]; decide)⟩) jI rfl ?_
      refine L_pur (c := .int .i64 ((w64 (u0 + (w64 ((1 : Int) + d4)))))) rfl rfl .plain (fun _ _ hd => P_int rfl rfl rfl) ?_
      refine L_pur (c := fPtr v6 1) rfl rfl .plain (fun _ _ hd => P_fieldAddr at_82_1 g7 (OB.ptr b3410)) ?_
      refine L_ld (c := .int .i64 (c6)) rfl rfl .plain (fun _ _ h => ⟨h.1.ch, fun b hb ho => h.1.block b hb (by rw [ho]; decide)⟩) kI rfl ?_
      refine L_pur (c := fPtr x6 ((p4 : Int).toNat * 1)) rfl rfl .plain (fun _ _ hd => P_indexAddrA (α := Int) Try.underlying126 Try.sizeOf3 tC (OB.ptr o5) rfl nD) ?_
      refine L_do (φ := fun _ g w => OB 2009 g w 126 ((vset z6 p4 ((w64 (u0 + (w64 ((1 : Int) + d4)))))) : Vector Int 3) x6) rfl rfl .plain (fun g w hd => D_storeRD (g := g) hi3429 Try.sizeOf3 rfl hd.1.2 rfl (RV_int.2 rfl)) (fun sO hv => ?_)
      clear hv
      refine L_nil fun vK tO hall => ?_
      have hs := hall.1.1
      have hfr := hfr.stp hs
      have i3 := i3.stp hs
      have u2_0_3364 := u2_0_3364.stp hs rfl
      have j3 := j3.stp hs rfl
      have u5_0_3364 := u5_0_3364.stp hs rfl
      have o3 := o3.stp hs rfl
      have b3413 := b3413.stp hs rfl
      have i9 := i9.stp hs
      have o3418 := o3418.stp hs rfl
      have j1 := j1.stp hs rfl
      have b3438 := (word_all (A := fun g w => OB 2009 g w 126 ((vset z6 p4 ((w64 (u0 + (w64 ((1 : Int) + d4)))))) : Vector Int 3) x6) 9 rfl hall)
      clear hs hall
      obtain ⟨uO, oD, h⟩ := bsome h
      obtain ⟨hi3484, he3484⟩ := vat_idx oD
      refine EL_pur (v := fPtr b7 ((p4 : Int).toNat * 1)) (P_indexAddrA (α := Int) Try.underlying126 Try.sizeOf3 xA (OB.ptr j1) rfl oD) .plain rfl ?_
      refine EL_do .plain rfl (D_storeFc (g := vK) (SubS.dyn hi3484) Try.sizeOf3 rfl j1 rfl (RV_int.2 rfl) fun xK vO hs b3485 rst hos => ?_)
      clear rst hos
      have hfr := hfr.stp hs
      have i3 := i3.stp hs
      have u2_0_3364 := u2_0_3364.stp hs rfl
      have j3 := j3.stp hs rfl
      have u5_0_3364 := u5_0_3364.stp hs rfl
      have o3 := o3.stp hs rfl
      have b3413 := b3413.stp hs rfl
      have i9 := i9.stp hs
      have o3418 := o3418.stp hs rfl
      have b3438 := b3438.stp hs rfl
      refine EL_nil (blk_n ?_)
      obtain ⟨rfl, rfl, rfl, rfl⟩ := pairs4 h
      exact hQ _ _ ⟨xK, (tE), (uE), hfr, eF, i3, gF, j3, u2_0_3364, iF, o3, u5_0_3364, rfl, b3413, rfl, i9, o3418, tC, b3438, xA, b3485, yA⟩
    ·clear hx
     obtain ⟨yK, lF, mF, hfr, nF, oF, pF, qF, u2_0_3486, rF, sF, u5_0_3486, tF, uF, vF, xF, yF, zF, aG, vD, xD, yD⟩ := hR
     refine E_region (EL_mv yD rfl ?_)
     refine EL_in (.int .i64 ((w64 (d3 + (1 : Int))))) rfl rfl rfl rfl ?_
     refine EL_at (.int .i64 ((w64 (d3 + (1 : Int))))) rfl rfl ?_
     exact EL_nil (thn_n (cH (cC, p9, dC, kA, (w64 (d3 + (1 : Int)))) _ _ ⟨yK, (lF), (mF), hfr, nF, oF, pF, qF, u2_0_3486, rF, sF, u5_0_3486, tF, uF, vF, xF, yF, zF, aG, vD, xD, rfl⟩ h))
  ·clear hx
   obtain ⟨vE, uC, vC, hfr, xC, bG, u2_0_3487, cG, dG, u5_0_3487, eG, r9, gG, t9, aM⟩ := hR
   refine E_seq (E_region (EL_do .plain rfl (D_loadO (g := vE) Try.isAgg24 Try.sizeOf24 cG dG fun zK aL => ?_)))
   refine EL_mv eG rfl ?_
   refine EL_mv gG rfl ?_
   refine EL_do .plain rfl (D_storeOc (g := vE) (v := zK) Try.sizeOf24 xC bG rfl aL fun xO yO hs b3489 cb => ?_)
   clear cb
   have hfr := hfr.stp hs
   have r9 := r9.stp hs rfl
   have t9 := t9.stp hs
   refine EL_at uC rfl rfl ?_
   refine EL_at vC rfl rfl ?_
   refine EL_nil (thn_n (E_ret ?_))
   obtain rfl := sinj h
   obtain ⟨gh, hxh, hmh, homh⟩ := OA.hand (i := iO) hfr r9
   obtain ⟨ad3490, cv3490, hp3490, lI, cr3490⟩ := ob_read Try.isAgg24 Try.sizeOf24 b3489
   exact endm_ctt rfl rfl ((show _ = p2 from xC).trans hp3490) lI (show _ = uC from rfl) (show _ = vC from rfl) ⟨gh, hxh, _, _, _, rfl, (hmh ▸ cr3490), homh, (hmh ▸ t9)⟩
def f81 (x0 : Int) (x1 : Int) (x2 : List Int) : Option (Bool) :=
 (f95 x2 ((fun a0 => f96 a0 x0 x1))).bind fun y4 =>
 some ((!y4))
theorem en81 : Enters Try.prog 81 := enters_of Try.func81 (by kernel_rfl) rfl
theorem wk81 {gI : Gh} {wI : World} {x0 : Int} {x1 : Int} {x2 : List Int} {up2 : Value} (rp2 : RV gI.m wI x2 up2) {r : Bool} (h : f81 x0 x1 x2 = some r) : Fn Try.prog 81 #[.int .i64 (x0), .int .i64 (x1), up2] gI wI (fun _ _ v => v = .bool (r)) := by
 unfold f81 at h
 refine fn_of_E Try.func81 rfl (Nat.le_of_ble_eq_true rfl) fun g0 hm hfr => ?_
 have rp2 : RV g0.m wI x2 up2 := hm ▸ rp2
 show E _ 11 none _ _ _ _ _
 refine E_seq (E_region (EL_do .plain rfl (D_box (g := g0) rfl (RV_int.2 rfl) fun g1 w1 p1 hs q1 => ?_)))
 have hfr := hfr.ext hs
 have rp2 := rp2.ext hs
 refine EL_do .plain rfl (D_box (g := g1) rfl (RV_int.2 rfl) fun g2 w2 p2 hs q2 => ?_)
 have hfr := hfr.ext hs
 have rp2 := rp2.ext hs
 have q1 := q1.ext hs
 refine EL_at (.bool false) rfl rfl ?_
 refine EL_nil (thn_n (E_seq (E_region (EL_mw up2 rfl rfl ?_))))
 refine EL_pur (v := (.func (.func 96) #[] #[p1, p2])) (P_makeFunc (capf_0_2 (show ev _ _ = p1 from rfl) (show ev _ _ = p2 from rfl))) .plain rfl ?_
 obtain ⟨y4, o0, h⟩ := bsome h
 refine EL_do .plain rfl (D_call (g := g2) (vs := [up2, (.func (.func 96) #[] #[p1, p2])]) en95 (.cons rfl (.cons rfl .nil)) (wk95 rp2 ⟨96, #[], #[p1, p2], rfl, en96, fun g' w' hch a0 b0 r hu0 hr => by obtain rfl := RV_int.1 hu0; exact Fn.mono (wk96  (q1.ch hch) (q2.ch hch) hr) fun _ _ _ h => RV_bool.2 h⟩ o0) fun g3 w3_ v3 hs hr => ?_)
 have hfr := hfr.ext hs
 subst hr
 refine EL_pur (v := .bool (!y4)) (P_not rfl) .plain rfl ?_
 refine EL_at (.bool (!y4)) rfl rfl ?_
 refine EL_nil (thn_n (E_ret ?_))
 obtain rfl := sinj h
 exact end1 rfl rfl (show _ = .bool (!y4) from rfl) ⟨_, hfr, rfl⟩
def f83 (x0 : LoomLoomMill) (x1 : Int) (x2 : List (Int × LoomRun)) : Option ((List Bool)) :=
 (shl64 (1 : Int) (((x0).orders).length : Int)).bind fun y6 =>
 (mks 1 (false : Bool) y6).bind fun y7 =>
 (idx y7 (0 : Int)).bind fun y9 =>
 Option.bind (α := (List Bool)) (
  lp (σ := (List Bool) × (Vector (Vector Int 7) 128) × Int) (fun y8 (i5, j6, u0) =>
   jn (σ := Unit) (fun (_ : Unit) =>
    Option.bind (α := (List Bool) × (Vector (Vector Int 7) 128)) (
     lp (σ := (List Bool) × (Vector (Vector Int 7) 128) × Int) (fun z8 (o3, d3, o0) =>
      bif (decide (o0 < (((x0).orders).length : Int))) then
       Option.bind (α := (List Bool) × (Vector (Vector Int 7) 128)) (
        (idx (d3).toList u0).bind fun a9 =>
        (idx (a9).toList o0).bind fun bC =>
        jn (σ := Unit) (fun (_ : Unit) =>
         (f98 x0 ((vmod d3 u0 (fun b => (vset b o0 ((1048576 : Int)))))) u0 o0 x1 x2).bind fun u3 =>
         bif (decide (u3 < (1048576 : Int))) then
          (idx ((x0).orders) o0).bind fun n7 =>
          (idx ((vmod d3 u0 (fun b => (vset b o0 ((1048576 : Int)))))).toList u0).bind fun d9 =>
          (idx (d9).toList o0).bind fun cC =>
          (idx o3 u0).bind fun dC =>
          some ((List.set o3 (Int.toNat u0) true), (vmod ((vmod d3 u0 (fun b => (vset b o0 ((1048576 : Int)))))) u0 (fun b => (vset b o0 ((w64 (u3 + (n7).Woven)))))))
         else
          some (o3, (vmod d3 u0 (fun b => (vset b o0 ((1048576 : Int))))))
         ) fun e9 =>
        (shr64 u0 o0).bind fun l6 =>
        bif ((bit64 .and l6 (1 : Int)) == (0 : Int)) then
         some (o3, (vmod d3 u0 (fun b => (vset b o0 ((1048576 : Int))))))
        else
         e9 ()
        ) fun (l5, o5) =>
       z8 (l5, o5, (w64 (o0 + (1 : Int))))
      else
       some (o3, d3)
      ) big (i5, j6, (0 : Int))
     ) fun (p5, q5) =>
    y8 (p5, q5, (w64 (u0 + (1 : Int))))
    ) fun g9 =>
   bif (decide (u0 < y6)) then
    g9 ()
   else
    some (i5)
   ) big ((List.set y7 (Int.toNat (0 : Int)) true), ((Vector.replicate 128 (⟨List.toArray [0, 0, 0, 0, 0, 0, 0], rfl⟩ : Vector Int 7)) : Vector (Vector Int 7) 128), (1 : Int))
  ) fun v6 =>
 some (v6)
theorem en83 : Enters Try.prog 83 := enters_of Try.func83 (by kernel_rfl) rfl
theorem wk83 {gI : Gh} {wI : World} {x0 : LoomLoomMill} {x1 : Int} {x2 : List (Int × LoomRun)} {up0 : Value} (rp0 : RV gI.m wI x0 up0) {up2 : Value} (mq2 : MR (Value.int .i64) gI wI x2 up2) {r : (List Bool)} (h : f83 x0 x1 x2 = some r) : Fn Try.prog 83 #[up0, .int .i64 (x1), up2] gI wI (fun m w v => RV m w (r) v) := by
 unfold f83 at h
 refine fn_of_E Try.func83 rfl (Nat.le_of_ble_eq_true rfl) fun g0 hm hfr => ?_
 have rp0 : RV g0.m wI x0 up0 := hm ▸ rp0
 have mq2 := MQ.enter mq2 hm hfr
 show E _ 65 none _ _ _ _ _
 refine E_seq (E_region (EL_do .plain rfl (D_box (g := g0) rfl rp0 fun g1 w1 p1 hs q1 => ?_)))
 have hfr := hfr.ext hs
 have mq2 := mq2.ext hs
 refine EL_at (.slice none 0 0) rfl rfl ?_
 have b2 : OA 4006 g1 w1 4 ([] : List Bool) (.slice none 0 0) := OA.nil
 refine EL_nil (thn_n (E_seq (E_region (EL_do .plain rfl (D_allocOc (g := g1) 2007 ((Vector.replicate 128 (⟨List.toArray [0, 0, 0, 0, 0, 0, 0], rfl⟩ : Vector Int 7)) : Vector (Vector Int 7) 128) Try.zeroValue150 (fun m w => ⟨_, (rep_replicate (rep_vec (flat_chunk rep_int (flat_chunk rep_int (flat_chunk rep_int (flat_chunk rep_int (flat_chunk rep_int (flat_chunk rep_int (flat_chunk rep_int flat_nil))))))) rfl)), by kernel_rfl⟩) fun g3 w3 p3 hs b3 cb => ?_)))))
 have hfr := hfr.stp hs
 have mq2 := mq2.stp hs
 have q1 := q1.stp hs
 clear cb
 refine EL_nil (thn_n (E_seq (E_region (EL_pur (v := fPtr p1 2) (P_fieldAddr at_96_1 rfl (PT.ptr q1)) .plain rfl ?_))))
 have q4 := PT_field (part_LoomLoomMill_1).1 q1
 refine EL_do .plain rfl (D_load (g := g3) Try.isAgg25 Try.sizeOf25 rfl q4 fun v5 r5 => ?_)
 refine EL_pur (v := .int .i64 (((x0).orders).length : Int)) (P_len Try.underlying25 rfl r5) .plain rfl ?_
 obtain ⟨y6, uC, h⟩ := bsome h
 refine EL_pur (v := .int .i64 (y6)) (P_int rfl rfl (congrArg (Option.map (Value.int .i64)) uC)) .plain rfl ?_
 refine EL_at (.int .i64 (y6)) rfl rfl ?_
 refine EL_nil (thn_n (E_seq (E_region (EL_mw (.int .i64 (y6)) rfl rfl ?_))))
 obtain ⟨y7, vC, h⟩ := bsome h
 refine EL_do .plain rfl (D_makeSliceM (g := g3) 9017 (false : Bool) rfl Try.underlying101 info_4 rfl (fun _ _ => rfl) rfl rfl vC fun g8 w8 v8 hs b8 => ?_)
 have hfr := hfr.stp hs
 have mq2 := mq2.stp hs
 have q1 := q1.stp hs
 have b3 := b3.stp hs rfl
 refine EL_at v8 rfl rfl ?_
 refine EL_nil (thn_n (E_seq (E_region (EL_mw v8 rfl rfl ?_))))
 obtain ⟨y9, aC, h⟩ := bsome h
 refine EL_pur (v := ePtr v8 (0 : Int) 1) (P_indexAddrM (α := Bool) Try.underlying101 Try.sizeOf4 rfl b8 rfl aC) .plain rfl ?_
 refine EL_do .plain rfl (D_storeM (g := g8) (α := Bool) (a' := true) Try.sizeOf4 rfl b8 aC rfl (RV_bool.2 rfl) fun xC yD hs b10 => ?_)
 have hfr := hfr.stp hs
 have mq2 := mq2.stp hs
 have q1 := q1.stp hs
 have b3 := b3.stp hs rfl
 refine EL_nil (thn_n ?_)
 obtain ⟨v6, hx, h⟩ := bsome h
 refine E_join (fun e w => ∃ (g : Gh) , Fr gI wI g w ∧ e 6 = v8 ∧ OM 9017 g w 4 (v6 : List Bool) v8) (fun Q' hQ => ?_) (fun yC iD hR => ?_)
 ·replace h := hx
  clear hx
  refine E_seq (E_region (EL_at (.int .i64 (1)) rfl rfl ?_))
  refine EL_nil (thn_n (E_block ?_))
  refine E_lp h (fun (s : (List Bool) × (Vector (Vector Int 7) 128) × Int) e w => ∃ (g : Gh) , Fr gI wI g w ∧ e 1 = .int .i64 (x1) ∧ e 2 = up2 ∧ MQ (Value.int .i64) wI.heap.size g w (x2 : List (Int × LoomRun)) up2 ∧ e 3 = p1 ∧ PT g.m w (x0 : LoomLoomMill) p1 ∧ e 6 = v8 ∧ OM 9017 g w 4 (s.1 : List Bool) v8 ∧ e 7 = p3 ∧ OB 2007 g w 150 (s.2.1 : Vector (Vector Int 7) 128) p3 ∧ e 8 = .int .i64 (y6) ∧ e 9 = .int .i64 (s.2.2)) ⟨xC, hfr, rfl, rfl, mq2, rfl, q1, rfl, b10, rfl, b3, rfl, rfl⟩ (fun X270 y8 rB => ?_)
  rintro ⟨i5, j6, u0⟩ zC jD ⟨i9, hfr, j9, k9, l9, n9, o9, u7, v7, p9, q9, c8, e8⟩ h
  refine E_joinC h (fun (s : Unit) e w => ∃ (g : Gh) , Fr gI wI g w ∧ e 1 = .int .i64 (x1) ∧ e 2 = up2 ∧ MQ (Value.int .i64) wI.heap.size g w (x2 : List (Int × LoomRun)) up2 ∧ e 3 = p1 ∧ PT g.m w (x0 : LoomLoomMill) p1 ∧ e 6 = v8 ∧ OM 9017 g w 4 (i5 : List Bool) v8 ∧ e 7 = p3 ∧ OB 2007 g w 150 (j6 : Vector (Vector Int 7) 128) p3 ∧ e 8 = .int .i64 (y6) ∧ e 9 = .int .i64 (u0)) (fun X273 g9 sB h => ?_) ?_
  ·refine E_seq (E_region (EL_mv e8 rfl ?_))
   refine EL_mv c8 rfl ?_
   refine EL_in (.bool ((decide (u0 < y6)))) rfl rfl rfl rfl ?_
   refine EL_nil (thn_n ?_)
   rcases csome h with ⟨o7, h⟩ | ⟨o7, h⟩
   ·refine E_ct o7 rfl ?_
    exact E_skip (thn_n (sB () _ _ ⟨i9, hfr, j9, k9, l9, n9, o9, u7, v7, p9, q9, c8, e8⟩ h))
   ·refine E_cf o7 rfl ?_
    refine E_exit ?_
    refine thn_e ?_
    refine thn_e ?_
    refine blk_hit ?_
    obtain rfl := sinj h
    exact hQ _ _ ⟨i9, hfr, u7, v7⟩
  ·rintro _ aD kD ⟨r9, hfr, t9, u9, z9, i8, x6, bA, cA, dA, eA, gA, iA⟩ h
   obtain ⟨⟨p5, q5⟩, hx, h⟩ := bsome h
   refine E_join (fun e w => ∃ (g : Gh) , Fr gI wI g w ∧ e 1 = .int .i64 (x1) ∧ e 2 = up2 ∧ MQ (Value.int .i64) wI.heap.size g w (x2 : List (Int × LoomRun)) up2 ∧ e 3 = p1 ∧ PT g.m w (x0 : LoomLoomMill) p1 ∧ e 6 = v8 ∧ OM 9017 g w 4 (p5 : List Bool) v8 ∧ e 7 = p3 ∧ OB 2007 g w 150 (q5 : Vector (Vector Int 7) 128) p3 ∧ e 8 = .int .i64 (y6) ∧ e 9 = .int .i64 (u0)) (fun Q' hQ => ?_) (fun bD lD hR => ?_)
   ·replace h := hx
    clear hx
    refine E_block ?_
    refine E_seq (E_region (EL_pur (v := fPtr p1 2) (P_fieldAddr at_96_1 i8 (PT.ptr x6)) .plain rfl ?_))
    have eC := PT_field (part_LoomLoomMill_1).1 x6
    refine EL_do .plain rfl (D_load (g := r9) Try.isAgg25 Try.sizeOf25 rfl eC fun mD iC => ?_)
    refine EL_pur (v := .int .i64 (((x0).orders).length : Int)) (P_len Try.underlying25 rfl iC) .plain rfl ?_
    refine EL_mw (.int .i64 (0)) rfl rfl ?_
    refine EL_nil (thn_n (E_block ?_))
    refine E_lp h (fun (s : (List Bool) × (Vector (Vector Int 7) 128) × Int) e w => ∃ (g : Gh) , Fr gI wI g w ∧ e 1 = .int .i64 (x1) ∧ e 2 = up2 ∧ MQ (Value.int .i64) wI.heap.size g w (x2 : List (Int × LoomRun)) up2 ∧ e 3 = p1 ∧ PT g.m w (x0 : LoomLoomMill) p1 ∧ e 6 = v8 ∧ OM 9017 g w 4 (s.1 : List Bool) v8 ∧ e 7 = p3 ∧ OB 2007 g w 150 (s.2.1 : Vector (Vector Int 7) 128) p3 ∧ e 8 = .int .i64 (y6) ∧ e 9 = .int .i64 (u0) ∧ e 27 = .int .i64 ((((x0).orders).length : Int)) ∧ e 28 = .int .i64 (s.2.2)) ⟨r9, hfr, t9, u9, z9, i8, x6, bA, cA, dA, eA, gA, iA, rfl, rfl⟩ (fun X404 z8 tB => ?_)
    rintro ⟨o3, d3, o0⟩ cD nD ⟨jA, hfr, z6, a7, z3, b7, d4, c7, m4, t5, u5, d7, p4, d6, d5⟩ h
    refine E_seq (E_region (EL_pur (v := .bool ((decide (o0 < (((x0).orders).length : Int))))) (P_int d5 d6 rfl) .plain rfl ?_))
    refine EL_nil (thn_n (E_seq ?_))
    rcases csome h with ⟨p7, h⟩ | ⟨p7, h⟩
    ·refine E_ct p7 rfl ?_
     refine E_skip (thn_n ?_)
     obtain ⟨⟨l5, o5⟩, hx, h⟩ := bsome h
     refine E_join (fun e w => ∃ (g : Gh) , Fr gI wI g w ∧ e 1 = .int .i64 (x1) ∧ e 2 = up2 ∧ MQ (Value.int .i64) wI.heap.size g w (x2 : List (Int × LoomRun)) up2 ∧ e 3 = p1 ∧ PT g.m w (x0 : LoomLoomMill) p1 ∧ e 6 = v8 ∧ OM 9017 g w 4 (l5 : List Bool) v8 ∧ e 7 = p3 ∧ OB 2007 g w 150 (o5 : Vector (Vector Int 7) 128) p3 ∧ e 8 = .int .i64 (y6) ∧ e 9 = .int .i64 (u0) ∧ e 27 = .int .i64 ((((x0).orders).length : Int)) ∧ e 28 = .int .i64 (o0)) (fun Q' hQ => ?_) (fun dD oD hR => ?_)
     ·replace h := hx
      clear hx
      refine E_block ?_
      refine E_seq (E_region (EL_mv d5 rfl ?_))
      refine EL_at (.int .i64 (o0)) rfl rfl ?_
      refine EL_nil (thn_n (E_seq (E_region (EL_mv p4 rfl ?_))))
      refine EL_mw (.int .i64 (o0)) rfl rfl ?_
      obtain ⟨a9, m8, h⟩ := bsome h
      obtain ⟨hi468, he468⟩ := vat_idx m8
      refine EL_pur (v := fPtr p3 ((u0 : Int).toNat * 7)) (P_indexAddrA (α := Vector Int 7) Try.underlying150 Try.sizeOf148 t5 (OB.ptr u5) rfl m8) .plain rfl ?_
      obtain ⟨bC, n8, h⟩ := bsome h
      obtain ⟨hi470, he470⟩ := vat_idx n8
      refine EL_pur (v := fPtr p3 (((u0 : Int).toNat * 7) + (o0 : Int).toNat * 1)) (P_indexAddrA2 (α := Int) (o1 := ((u0 : Int).toNat * 7)) rfl Try.underlying148 Try.sizeOf3 rfl (OB.ptr u5) rfl n8) .plain rfl ?_
      refine EL_do .plain rfl (D_storeFc (g := jA) (SubS.dynC hi468 (SubS.dyn hi470) rfl) Try.sizeOf3 rfl u5 rfl (RV_int.2 rfl) fun kA pD hs b471 rst hos => ?_)
      clear rst hos
      have hfr := hfr.stp hs
      have z3 := z3.stp hs
      have d4 := d4.stp hs
      have m4 := m4.stp hs rfl
      refine EL_nil (thn_n (E_joinC h (fun (s : Unit) e w => ∃ (g : Gh) , Fr gI wI g w ∧ e 1 = .int .i64 (x1) ∧ e 2 = up2 ∧ MQ (Value.int .i64) wI.heap.size g w (x2 : List (Int × LoomRun)) up2 ∧ e 3 = p1 ∧ PT g.m w (x0 : LoomLoomMill) p1 ∧ e 6 = v8 ∧ OM 9017 g w 4 (o3 : List Bool) v8 ∧ e 7 = p3 ∧ OB 2007 g w 150 ((vmod d3 u0 (fun b => (vset b o0 ((1048576 : Int))))) : Vector (Vector Int 7) 128) p3 ∧ e 8 = .int .i64 (y6) ∧ e 9 = .int .i64 (u0) ∧ e 10 = .int .i64 (o0) ∧ e 27 = .int .i64 ((((x0).orders).length : Int)) ∧ e 28 = .int .i64 (o0)) (fun X474 e9 uB h => ?_) ?_))
      ·refine E_seq (E_region (EL_mv p4 rfl ?_))
       refine EL_mw (.int .i64 (o0)) rfl rfl ?_
       obtain ⟨l6, vB, h⟩ := bsome h
       refine EL_pur (v := .int .i64 (l6)) (P_int rfl rfl (congrArg (Option.map (Value.int .i64)) vB)) .plain rfl ?_
       refine EL_in (.int .i64 ((bit64 .and l6 (1 : Int)))) rfl rfl rfl rfl ?_
       refine EL_in (.bool (((bit64 .and l6 (1 : Int)) == (0 : Int)))) rfl rfl rfl rfl ?_
       refine EL_nil (thn_n ?_)
       rcases csome h with ⟨q7, h⟩ | ⟨q7, h⟩
       ·refine E_ct q7 rfl ?_
        refine E_exit ?_
        refine thn_e ?_
        refine blk_hit ?_
        obtain ⟨rfl, rfl⟩ := pairs2 h
        exact hQ _ _ ⟨kA, hfr, z6, a7, z3, b7, d4, c7, m4, t5, b471, d7, p4, d6, d5⟩
       ·refine E_cf q7 rfl ?_
        exact E_skip (thn_n (uB () _ _ ⟨kA, hfr, z6, a7, z3, b7, d4, c7, m4, t5, b471, d7, p4, rfl, d6, d5⟩ h))
      ·rintro _ eD qD ⟨lA, hfr, e7, g7, z2, x5, j1, i7, i3, c6, j3, k8, z4, i6, j7, m7⟩ h
       refine E_seq (E_region (EL_do .plain rfl (D_load (g := lA) Try.isAgg96 Try.sizeOf96 x5 j1 fun jC kC => ?_)))
       refine EL_mv z4 rfl ?_
       refine EL_mv i6 rfl ?_
       refine EL_mv e7 rfl ?_
       refine EL_mv g7 rfl ?_
       obtain ⟨u3, xB, h⟩ := bsome h
       refine EL_do .plain rfl (D_callF (g := lA) (vs := [jC, p3, .int .i64 (u0), .int .i64 (o0), .int .i64 (x1), up2]) en98 (.cons rfl (.cons c6 (.cons rfl (.cons rfl (.cons rfl (.cons rfl .nil)))))) (wk98 (RV.lent kC) (OB.lent j3) (MR.lent z2.r) xB) fun mA gD rD hs hr => ?_)
       have hfr := hfr.ext hs
       have z2 := z2.ext hs
       have j1 := j1.ext hs
       have i3 := i3.ext hs
       have j3 := j3.ext hs
       subst hr
       refine EL_at (.int .i64 (u3)) rfl rfl ?_
       refine EL_nil (thn_n (E_seq (E_region (EL_mw (.int .i64 (u3)) rfl rfl ?_))))
       refine EL_in (.bool ((decide (u3 < (1048576 : Int))))) rfl rfl rfl rfl ?_
       refine EL_nil (thn_n ?_)
       rcases csome h with ⟨t7, h⟩ | ⟨t7, h⟩
       ·refine E_ct t7 rfl ?_
        refine E_seq ?_
        have lC := PT_field (part_LoomLoomMill_1).1 j1
        refine L_load (x := .tmp 51) Try.isAgg25 Try.sizeOf25 lC fun l8 nA yB => ?_
        obtain ⟨n7, o8, h⟩ := bsome h
        have oA := PT_idx nA o8
        have mC := PT_field (part_LoomOrder_2).1 oA
        refine L_load (x := .tmp 55) Try.isAgg3 Try.sizeOf3 mC fun sD nC zB => ?_
        obtain rfl := RV_int.1 nC
        obtain ⟨d9, p8, h⟩ := bsome h
        obtain ⟨hi489, he489⟩ := vat_idx p8
        obtain ⟨cC, q8, h⟩ := bsome h
        obtain ⟨hi491, he491⟩ := vat_idx q8
        refine E_drawL (g := mA) (n := 12) [] [0, 1, 2, 3, 4, 5, 6, 7, 8, 9, 10, 11] rfl mixed (by kernel_rfl) trivial ?_
        refine L_pur (c := .int .i64 (u0)) rfl rfl .plain (fun _ _ hd => P_move z4) ?_
        refine L_pur (c := .int .i64 (o0)) rfl rfl .plain (fun _ _ hd => P_move i6) ?_
        refine L_pur (c := .int .i64 (u3)) rfl rfl .plain (fun _ _ hd => P_move rfl) ?_
        refine L_pur (c := fPtr p1 2) rfl rfl .plain (fun _ _ hd => P_fieldAddr at_96_1 x5 (PT.ptr j1)) ?_
        refine L_ld (c := l8) rfl rfl .plain (fun _ _ h => h.ch) yB rfl ?_
        refine L_pur (c := .int .i64 (o0)) rfl rfl .plain (fun _ _ hd => P_move i6) ?_
        refine L_pur (c := ePtr l8 o0 5) rfl rfl .plain (fun _ _ hd => P_indexAddr (α := LoomOrder) Try.underlying25 Try.sizeOf82 rfl nA rfl o8) ?_
        refine L_pur (c := fPtr (ePtr l8 o0 5) 2) rfl rfl .plain (fun _ _ hd => P_fieldAddr at_82_2 rfl (PT.ptr oA)) ?_
        refine L_ld (c := .int .i64 ((n7).Woven)) rfl rfl .plain (fun _ _ h => h.ch) zB rfl ?_
        refine L_pur (c := .int .i64 ((w64 (u3 + (n7).Woven)))) rfl rfl .plain (fun _ _ hd => P_int rfl rfl rfl) ?_
        refine L_pur (c := fPtr p3 ((u0 : Int).toNat * 7)) rfl rfl .plain (fun _ _ hd => P_indexAddrA (α := Vector Int 7) Try.underlying150 Try.sizeOf148 c6 (OB.ptr j3) rfl p8) ?_
        refine L_pur (c := fPtr p3 (((u0 : Int).toNat * 7) + (o0 : Int).toNat * 1)) rfl rfl .plain (fun _ _ hd => P_indexAddrA2 (α := Int) (o1 := ((u0 : Int).toNat * 7)) rfl Try.underlying148 Try.sizeOf3 rfl (OB.ptr j3) rfl q8) ?_
        refine L_nil fun oC tD hall => ?_
        have hs := hall.1
        have hfr := hfr.ext hs
        have z2 := z2.ext hs
        have j1 := j1.ext hs
        have i3 := i3.ext hs
        have j3 := j3.ext hs
        clear hs hall
        refine EL_do .plain rfl (D_storeFc (g := oC) (SubS.dynC hi489 (SubS.dyn hi491) rfl) Try.sizeOf3 rfl j3 rfl (RV_int.2 rfl) fun qC uD hs b524 rst hos => ?_)
        clear rst hos
        have hfr := hfr.stp hs
        have z2 := z2.stp hs
        have j1 := j1.stp hs
        have i3 := i3.stp hs rfl
        refine EL_nil (thn_n (E_region (EL_mv i7 rfl ?_)))
        refine EL_mv z4 rfl ?_
        obtain ⟨dC, r8, h⟩ := bsome h
        refine EL_pur (v := ePtr v8 u0 1) (P_indexAddrM (α := Bool) Try.underlying101 Try.sizeOf4 rfl i3 rfl r8) .plain rfl ?_
        refine EL_do .plain rfl (D_storeM (g := qC) (α := Bool) (a' := true) Try.sizeOf4 rfl i3 r8 rfl (RV_bool.2 rfl) fun rC vD hs b526 => ?_)
        have hfr := hfr.stp hs
        have z2 := z2.stp hs
        have j1 := j1.stp hs
        have b524 := b524.stp hs rfl
        refine EL_nil (blk_n ?_)
        obtain ⟨rfl, rfl⟩ := pairs2 h
        exact hQ _ _ ⟨rC, hfr, e7, g7, z2, x5, j1, i7, b526, c6, b524, k8, z4, j7, m7⟩
       ·refine E_cf t7 rfl ?_
        refine E_skip (blk_n ?_)
        obtain ⟨rfl, rfl⟩ := pairs2 h
        exact hQ _ _ ⟨mA, hfr, e7, g7, z2, x5, j1, i7, i3, c6, j3, k8, z4, j7, m7⟩
     ·clear hx
      obtain ⟨sC, hfr, pA, qA, rA, sA, tA, uA, vA, xA, yA, zA, aB, t8, x8⟩ := hR
      refine E_region (EL_in (.int .i64 ((w64 (o0 + (1 : Int))))) x8 rfl rfl rfl ?_)
      refine EL_mw (.int .i64 ((w64 (o0 + (1 : Int))))) rfl rfl ?_
      exact EL_nil (thn_n (tB (l5, o5, (w64 (o0 + (1 : Int)))) _ _ ⟨sC, hfr, pA, qA, rA, sA, tA, uA, vA, xA, yA, zA, aB, t8, rfl⟩ h))
    ·refine E_cf p7 rfl ?_
     refine E_exit ?_
     refine thn_e ?_
     refine thn_e ?_
     refine blk_hit ?_
     refine blk_n ?_
     obtain ⟨rfl, rfl⟩ := pairs2 h
     exact hQ _ _ ⟨jA, hfr, z6, a7, z3, b7, d4, c7, m4, t5, u5, d7, p4⟩
   ·clear hx
    obtain ⟨tC, hfr, bB, cB, dB, eB, iB, jB, kB, lB, mB, nB, oB⟩ := hR
    refine E_region (EL_mv oB rfl ?_)
    refine EL_in (.int .i64 ((w64 (u0 + (1 : Int))))) rfl rfl rfl rfl ?_
    refine EL_at (.int .i64 ((w64 (u0 + (1 : Int))))) rfl rfl ?_
    exact EL_nil (thn_n (rB (p5, q5, (w64 (u0 + (1 : Int)))) _ _ ⟨tC, hfr, bB, cB, dB, eB, iB, jB, kB, lB, mB, nB, rfl⟩ h))
 ·clear hx
  obtain ⟨xD, hfr, pB, qB⟩ := hR
  refine E_seq (E_region (EL_mv pB rfl ?_))
  refine EL_at v8 rfl rfl ?_
  refine EL_nil (thn_n (E_ret ?_))
  obtain ⟨gp530, hs, rp530⟩ := OM.pub qB
  have hfr := hfr.stp hs
  obtain rfl := sinj h
  exact end1 rfl rfl (show _ = v8 from rfl) ⟨_, hfr, rp530⟩
def f85 (x0 : List Int) (x1 : List Int) : Option (Int) :=
 jn (σ := Unit) (fun (_ : Unit) =>
  jn (σ := Unit) (fun (_ : Unit) =>
   some ((0 : Int))
   ) fun n7 =>
  bif (decide (((x0).length : Int) < ((x1).length : Int))) then
   some ((-1 : Int))
  else
   n7 ()
  ) fun o7 =>
 lp (σ := Int) (fun k33 o0 =>
  bif (decide (o0 < ((x0).length : Int))) then
   jn (σ := Unit) (fun (_ : Unit) =>
    k33 ((w64 (o0 + (1 : Int))))
    ) fun p7 =>
   (idx x0 o0).bind fun z3 =>
   jn (σ := Unit) (fun (_ : Unit) =>
    (idx x1 o0).bind fun d4 =>
    (f90 z3 d4).bind fun u0 =>
    bif (u0 != (0 : Int)) then
     some (u0)
    else
     p7 ()
    ) fun k54 =>
   bif (decide (o0 ≥ ((x1).length : Int))) then
    some ((1 : Int))
   else
    k54 ()
  else
   o7 ()
  ) big ((0 : Int))
theorem en85 : Enters Try.prog 85 := enters_of Try.func85 (by kernel_rfl) rfl
theorem wk85 {gI : Gh} {wI : World} {x0 : List Int} {x1 : List Int} {up0 : Value} (rp0 : RV gI.m wI x0 up0) {up1 : Value} (rp1 : RV gI.m wI x1 up1) {r : Int} (h : f85 x0 x1 = some r) : Fn Try.prog 85 #[up0, up1] gI wI (fun _ _ v => v = .int .i64 (r)) := by
 unfold f85 at h
 refine fn_of_E Try.func85 rfl (Nat.le_of_ble_eq_true rfl) fun g0 hm hfr => ?_
 have rp0 : RV g0.m wI x0 up0 := hm ▸ rp0
 have rp1 : RV g0.m wI x1 up1 := hm ▸ rp1
 show E _ 36 none _ _ _ _ _
 refine E_seq (E_region (EL_at (.int .i64 (0)) rfl rfl ?_))
 refine EL_nil (thn_n (E_joinC h (fun (s : Unit) e w => ∃ (g : Gh) , Fr gI wI g w ∧ e 0 = up0 ∧ RV g.m w (x0 : List Int) up0 ∧ e 1 = up1 ∧ RV g.m w (x1 : List Int) up1) (fun X32 o7 t7 h => ?_) ?_))
 ·refine E_seq (E_region (EL_mw up0 rfl rfl ?_))
  refine EL_pur (v := .int .i64 ((x0).length : Int)) (P_len Try.underlying22 rfl rp0) .plain rfl ?_
  refine EL_mw (.int .i64 (0)) rfl rfl ?_
  refine EL_nil (thn_n (E_block ?_))
  refine E_lp h (fun (s : Int) e w => ∃ (g : Gh) , Fr gI wI g w ∧ e 0 = up0 ∧ RV g.m w (x0 : List Int) up0 ∧ e 1 = up1 ∧ RV g.m w (x1 : List Int) up1 ∧ e 9 = up0 ∧ RV g.m w (x0 : List Int) up0 ∧ e 10 = .int .i64 (((x0).length : Int)) ∧ e 11 = .int .i64 (s)) ⟨g0, hfr, rfl, rp0, rfl, rp1, rfl, rp0, rfl, rfl⟩ (fun X33 k33 u7 => ?_)
  rintro o0 q8 z8 ⟨t5, hfr, l5, o5, d3, i3, p5, j3, m4, j1⟩ h
  refine E_seq (E_region (EL_in (.bool ((decide (o0 < ((x0).length : Int))))) j1 m4 rfl rfl ?_))
  refine EL_nil (thn_n (E_seq ?_))
  rcases csome h with ⟨p4, h⟩ | ⟨p4, h⟩
  ·refine E_ct p4 rfl ?_
   refine E_skip (thn_n (E_joinC h (fun (s : Unit) e w => ∃ (g : Gh) , Fr gI wI g w ∧ e 0 = up0 ∧ RV g.m w (x0 : List Int) up0 ∧ e 1 = up1 ∧ RV g.m w (x1 : List Int) up1 ∧ e 9 = up0 ∧ RV g.m w (x0 : List Int) up0 ∧ e 10 = .int .i64 (((x0).length : Int)) ∧ e 11 = .int .i64 (o0)) (fun X49 p7 v7 h => ?_) ?_))
   ·refine E_block ?_
    refine E_seq (E_region (EL_mv j1 rfl ?_))
    obtain ⟨z3, u5, h⟩ := bsome h
    refine EL_pur (v := ePtr up0 o0 1) (P_indexAddr (α := Int) Try.underlying22 Try.sizeOf3 p5 j3 j1 u5) .plain rfl ?_
    have i8 := PT_idx j3 u5
    refine EL_do .plain rfl (D_load (g := t5) Try.isAgg3 Try.sizeOf3 rfl i8 fun a9 k8 => ?_)
    obtain rfl := RV_int.1 k8
    refine EL_at (.int .i64 (o0)) rfl rfl ?_
    refine EL_at (.int .i64 (z3)) rfl rfl ?_
    refine EL_nil (thn_n (E_joinC h (fun (s : Unit) e w => ∃ (g : Gh) , Fr gI wI g w ∧ e 0 = up0 ∧ RV g.m w (x0 : List Int) up0 ∧ e 1 = up1 ∧ RV g.m w (x1 : List Int) up1 ∧ e 5 = .int .i64 (o0) ∧ e 6 = .int .i64 (z3) ∧ e 9 = up0 ∧ RV g.m w (x0 : List Int) up0 ∧ e 10 = .int .i64 (((x0).length : Int)) ∧ e 11 = .int .i64 (o0)) (fun X54 k54 c8 h => ?_) ?_))
    ·refine E_seq (E_region (EL_mw (.int .i64 (o0)) rfl rfl ?_))
     refine EL_mv d3 rfl ?_
     refine EL_pur (v := .int .i64 ((x1).length : Int)) (P_len Try.underlying22 rfl i3) .plain rfl ?_
     refine EL_in (.bool ((decide (o0 ≥ ((x1).length : Int))))) rfl rfl rfl rfl ?_
     refine EL_nil (thn_n ?_)
     rcases csome h with ⟨z4, h⟩ | ⟨z4, h⟩
     ·refine E_ct z4 rfl ?_
      refine E_seq (E_region (EL_at (.int .i64 (1)) rfl rfl ?_))
      refine EL_nil (thn_n (E_ret (thn_r ?_)))
      refine blk_r ?_
      refine thn_r ?_
      refine thn_r ?_
      refine blk_r ?_
      refine thn_r ?_
      obtain rfl := sinj h
      exact end1 rfl rfl (show _ = .int .i64 (1) from rfl) ⟨_, hfr, rfl⟩
     ·refine E_cf z4 rfl ?_
      exact E_skip (thn_n (c8 () _ _ ⟨t5, hfr, l5, o5, d3, i3, rfl, rfl, p5, j3, m4, j1⟩ h))
    ·rintro _ r8 d9 ⟨q7, hfr, l6, o3, q5, z2, v6, x6, y6, u3, x5, c6⟩ h
     refine E_seq (E_region (EL_mv q5 rfl ?_))
     refine EL_mv v6 rfl ?_
     obtain ⟨d4, d6, h⟩ := bsome h
     refine EL_pur (v := ePtr up1 o0 1) (P_indexAddr (α := Int) Try.underlying22 Try.sizeOf3 rfl z2 rfl d6) .plain rfl ?_
     have l8 := PT_idx z2 d6
     refine EL_do .plain rfl (D_load (g := q7) Try.isAgg3 Try.sizeOf3 rfl l8 fun e9 m8 => ?_)
     obtain rfl := RV_int.1 m8
     refine EL_at (.int .i64 (d4)) rfl rfl ?_
     refine EL_nil (thn_n (E_seq (E_region (EL_mv x6 rfl ?_))))
     refine EL_mw (.int .i64 (d4)) rfl rfl ?_
     obtain ⟨u0, e8, h⟩ := bsome h
     refine EL_do .plain rfl (D_call (g := q7) (vs := [.int .i64 (z3), .int .i64 (d4)]) en90 (.cons rfl (.cons rfl .nil)) (wk90  e8) fun n8 t8 g9 hs hr => ?_)
     have hfr := hfr.ext hs
     have o3 := o3.ext hs
     have z2 := z2.ext hs
     have u3 := u3.ext hs
     subst hr
     refine EL_at (.int .i64 (u0)) rfl rfl ?_
     refine EL_nil (thn_n (E_seq (E_region (EL_mw (.int .i64 (u0)) rfl rfl ?_))))
     refine EL_in (.bool ((u0 != (0 : Int)))) rfl rfl rfl rfl ?_
     refine EL_nil (thn_n ?_)
     rcases csome h with ⟨d5, h⟩ | ⟨d5, h⟩
     ·refine E_ct d5 rfl ?_
      refine E_seq (E_region (EL_mw (.int .i64 (u0)) rfl rfl ?_))
      refine EL_at (.int .i64 (u0)) rfl rfl ?_
      refine EL_nil (thn_n (E_ret (blk_r ?_)))
      refine thn_r ?_
      refine thn_r ?_
      refine blk_r ?_
      refine thn_r ?_
      obtain rfl := sinj h
      exact end1 rfl rfl (show _ = .int .i64 (u0) from rfl) ⟨_, hfr, rfl⟩
     ·refine E_cf d5 rfl ?_
      exact E_skip (blk_n (thn_n (v7 () _ _ ⟨n8, hfr, l6, o3, q5, z2, y6, u3, x5, c6⟩ h)))
   ·rintro _ v8 i9 ⟨o8, hfr, z6, a7, b7, c7, d7, e7, i6, j6⟩ h
    refine E_region (EL_in (.int .i64 ((w64 (o0 + (1 : Int))))) j6 rfl rfl rfl ?_)
    refine EL_mw (.int .i64 ((w64 (o0 + (1 : Int))))) rfl rfl ?_
    exact EL_nil (thn_n (u7 ((w64 (o0 + (1 : Int)))) _ _ ⟨o8, hfr, z6, a7, b7, c7, d7, e7, i6, rfl⟩ h))
  ·refine E_cf p4 rfl ?_
   refine E_exit ?_
   refine thn_e ?_
   refine thn_e ?_
   refine blk_hit ?_
   exact thn_n (t7 () _ _ ⟨t5, hfr, l5, o5, d3, i3⟩ h)
 ·rintro _ x8 w64 ⟨p8, hfr, g7, i7, j7, m7⟩ h
  refine E_joinC h (fun (s : Unit) e w => ∃ (g : Gh) , Fr gI wI g w) (fun X66 n7 g8 h => ?_) ?_
  ·refine E_seq (E_region (EL_mv g7 rfl ?_))
   refine EL_pur (v := .int .i64 ((x0).length : Int)) (P_len Try.underlying22 rfl i7) .plain rfl ?_
   refine EL_mv j7 rfl ?_
   refine EL_pur (v := .int .i64 ((x1).length : Int)) (P_len Try.underlying22 rfl m7) .plain rfl ?_
   refine EL_in (.bool ((decide (((x0).length : Int) < ((x1).length : Int))))) rfl rfl rfl rfl ?_
   refine EL_nil (thn_n ?_)
   rcases csome h with ⟨i5, h⟩ | ⟨i5, h⟩
   ·refine E_ct i5 rfl ?_
    refine E_seq (E_region (EL_at (.int .i64 (-1)) rfl rfl ?_))
    refine EL_nil (thn_n (E_ret (thn_r ?_)))
    obtain rfl := sinj h
    exact end1 rfl rfl (show _ = .int .i64 (-1) from rfl) ⟨_, hfr, rfl⟩
   ·refine E_cf i5 rfl ?_
    exact E_skip (thn_n (g8 () _ _ ⟨p8, hfr⟩ h))
  ·rintro _ y8 j9 ⟨k9, hfr⟩ h
   refine E_seq (E_region (EL_at (.int .i64 (0)) rfl rfl ?_))
   refine EL_nil (thn_n (E_ret ?_))
   obtain rfl := sinj h
   exact end1 rfl rfl (show _ = .int .i64 (0) from rfl) ⟨_, hfr, rfl⟩
def f87 (x0 : List Int) (x1 : Int → Int → Option Int) : Option ((List Int)) :=
 (f101 ((wu64 ((x0).length : Int)))).bind fun y2 =>
 (f100 big x0 ((0 : Int)) (((x0).length : Int)) y2 x1).bind fun y4 =>
 some (y4)
theorem en87 : Enters Try.prog 87 := enters_of Try.func87 (by kernel_rfl) rfl
theorem wk87 {iI : Nat} {gI : Gh} {wI : World} {x0 : List Int} {x1 : Int → Int → Option Int} {up0 : Value} (mp0 : OM iI gI wI 3 x0 up0) {up1 : Value} (rp1 : FnV2 Try.prog x1 up1 gI wI) {r : (List Int)} (h : f87 x0 x1 = some r) : FnM Try.prog 87 #[up0, up1] iI gI wI (fun g w v => v = .tuple #[] ∧ OM iI g w 3 r up0) := by
 unfold f87 at h
 refine fnM_of_E Try.func87 rfl (Nat.le_of_ble_eq_true rfl) fun g0 hm hfr => ?_
 have o0 := mp0
 replace mp0 := mp0.enter
 rw [← hm] at mp0
 replace hm : g0.m = gI.m := by rw [hm]
 obtain ⟨ff1, fa1, fc1, rfl, fen1, fcl1⟩ := rp1
 show E _ 14 none _ _ _ _ _
 refine E_seq (E_region (EL_mw up0 rfl rfl ?_))
 refine EL_pur (v := .int .i64 ((x0).length : Int)) (P_lenM Try.underlying22 rfl mp0) .plain rfl ?_
 refine EL_at (.int .i64 ((x0).length : Int)) rfl rfl ?_
 refine EL_nil (thn_n (E_region (EL_mw up0 rfl rfl ?_)))
 refine EL_mw (.int .i64 ((x0).length : Int)) rfl rfl ?_
 refine EL_mw (.int .i64 ((x0).length : Int)) rfl rfl ?_
 refine EL_pur (v := .int .u64 (wu64 ((x0).length : Int))) (P_intu64 Try.underlying3 Try.underlying77 rfl) .plain rfl ?_
 obtain ⟨y2, hy2, h⟩ := bsome h
 refine EL_do .plain rfl (D_call (g := g0) (vs := [.int .u64 (wu64 ((x0).length : Int))]) en101 (.cons rfl .nil) (wk101  hy2) fun g1 w1_ v1 hs hr => ?_)
 have hfr := hfr.ext hs
 have mp0 := mp0.ext hs
 subst hr
 refine EL_mw ((.func (.func ff1) fa1 fc1)) rfl rfl ?_
 obtain ⟨y4, u0, h⟩ := bsome h
 refine EL_do .plain rfl (D_callM (g := g1) (i := 1) (vs := [up0, .int .i64 (0), .int .i64 ((x0).length : Int), .int .i64 (y2), (.func (.func ff1) fa1 fc1)]) en100 (.cons rfl (.cons rfl (.cons rfl (.cons rfl (.cons rfl .nil))))) (wk100 big mp0 (FnV2.ch ⟨_, _, _, rfl, fen1, fcl1⟩ hfr.ch) u0) fun g3 w3_ v3 hs hr => ?_)
 obtain ⟨hrv, b3⟩ := hr
 have hfr := hfr.stp hs
 subst hrv
 refine EL_nil ?_
 obtain rfl := sinj h
 exact end0n rfl rfl ⟨_, hfr, rfl, o0.back b3⟩
def f88 (x0 : Int) (x1 : Int) (z0 : List LoomRun) : Option (Int) :=
 (idx z0 x0).bind fun y2 =>
 (idx z0 x1).bind fun y7 =>
 (f90 ((y2).From) ((y7).From)).bind fun o0 =>
 (idx z0 x0).bind fun d3 =>
 (idx z0 x1).bind fun i3 =>
 (f90 ((d3).Order) ((i3).Order)).bind fun u0 =>
 (f89 (([o0, u0] : List Int))).bind fun z2 =>
 some (z2)
theorem en88 : Enters Try.prog 88 := enters_of Try.func88 (by kernel_rfl) rfl
theorem wk88 {gI : Gh} {wI : World} {x0 : Int} {x1 : Int} {z0 : List LoomRun} {pf0 : Value} (qf0 : PT gI.m wI z0 pf0) {r : Int} (h : f88 x0 x1 z0 = some r) : Fn Try.prog 88 #[.int .i64 (x0), .int .i64 (x1), pf0] gI wI (fun _ _ v => v = .int .i64 (r)) := by
 unfold f88 at h
 refine fn_of_E Try.func88 rfl (Nat.le_of_ble_eq_true rfl) fun g0 hm hfr => ?_
 have qf0 : PT g0.m wI z0 pf0 := hm ▸ qf0
 show E _ 30 none _ _ _ _ _
 refine E_seq (E_region (EL_at (.int .i64 (0)) rfl rfl ?_))
 refine EL_nil (thn_n (E_seq (L_load (x := .tmp 2) Try.isAgg31 Try.sizeOf31 qf0 fun v1 r1 hl1 => ?_)))
 obtain ⟨y2, hy2, h⟩ := bsome h
 have q3 := PT_idx r1 hy2
 have q4 := PT_field (part_LoomRun_2).1 q3
 refine L_load (x := .tmp 9) Try.isAgg3 Try.sizeOf3 q4 fun v5 r5 c6 => ?_
 obtain rfl := RV_int.1 r5
 refine L_load (x := .tmp 2) Try.isAgg31 Try.sizeOf31 qf0 fun v6 r6 d6 => ?_
 obtain ⟨y7, d4, h⟩ := bsome h
 have q8 := PT_idx r6 d4
 have q9 := PT_field (part_LoomRun_2).1 q8
 refine L_load (x := .tmp 14) Try.isAgg3 Try.sizeOf3 q9 fun z6 i6 i5 => ?_
 obtain rfl := RV_int.1 i6
 obtain ⟨o0, l5, h⟩ := bsome h
 refine L_load (x := .tmp 2) Try.isAgg31 Try.sizeOf31 qf0 fun j3 m4 o5 => ?_
 obtain ⟨d3, o3, h⟩ := bsome h
 have p4 := PT_idx m4 o3
 have j6 := PT_field (part_LoomRun_0).1 p4
 refine L_load (x := .tmp 20) Try.isAgg3 Try.sizeOf3 j6 fun a7 l6 p5 => ?_
 obtain rfl := RV_int.1 l6
 refine L_load (x := .tmp 2) Try.isAgg31 Try.sizeOf31 qf0 fun u3 z4 q5 => ?_
 obtain ⟨i3, z3, h⟩ := bsome h
 have d5 := PT_idx z4 z3
 have x6 := PT_field (part_LoomRun_0).1 d5
 refine L_load (x := .tmp 25) Try.isAgg3 Try.sizeOf3 x6 fun b7 y6 t5 => ?_
 obtain rfl := RV_int.1 y6
 obtain ⟨u0, u5, h⟩ := bsome h
 obtain ⟨z2, x5, h⟩ := bsome h
 refine E_drawL (g := g0) (n := 25) [(10, (fun v g w => v = .int .i64 (o0))), (21, (fun v g w => v = .int .i64 (u0))), (22, (fun v g w => RV g.m w ([o0, u0] : List Int) v ∧ OS 3028 g w 3 ([o0, u0] : List Int) v ∧ FullV v)), (23, (fun v g w => v = .int .i64 (z2)))] [0, 1, 2, 3, 4, 5, 6, 7, 8, 9, 10, 11, 12, 13, 14, 15, 16, 17, 18, 19, 20, 21, 22, 23, 24] rfl mixed (by kernel_rfl) (⟨fun _ => up_eq _, fun _ => up_eq _, fun _ => up_and up_rv (up_and up_os (up_eq _)), fun _ => up_eq _, trivial⟩) ?_
 refine L_ld (c := v1) rfl rfl .plain (fun _ _ h => h.ch) hl1 rfl ?_
 refine L_pur (c := .int .i64 (x0)) rfl rfl .plain (fun _ _ hd => P_move rfl) ?_
 refine L_pur (c := ePtr v1 x0 3) rfl rfl .plain (fun _ _ hd => P_indexAddr (α := LoomRun) Try.underlying31 Try.sizeOf76 rfl r1 rfl hy2) ?_
 refine L_pur (c := fPtr (ePtr v1 x0 3) 2) rfl rfl .plain (fun _ _ hd => P_fieldAddr at_76_2 rfl (PT.ptr q3)) ?_
 refine L_ld (c := .int .i64 ((y2).From)) rfl rfl .plain (fun _ _ h => h.ch) c6 rfl ?_
 refine L_ld (c := v6) rfl rfl .plain (fun _ _ h => h.ch) d6 rfl ?_
 refine L_pur (c := .int .i64 (x1)) rfl rfl .plain (fun _ _ hd => P_move rfl) ?_
 refine L_pur (c := ePtr v6 x1 3) rfl rfl .plain (fun _ _ hd => P_indexAddr (α := LoomRun) Try.underlying31 Try.sizeOf76 rfl r6 rfl d4) ?_
 refine L_pur (c := fPtr (ePtr v6 x1 3) 2) rfl rfl .plain (fun _ _ hd => P_fieldAddr at_76_2 rfl (PT.ptr q8)) ?_
 refine L_ld (c := .int .i64 ((y7).From)) rfl rfl .plain (fun _ _ h => h.ch) i5 rfl ?_
 refine L_do (φ := fun v g w => v = .int .i64 (o0)) rfl rfl .plain (fun g w hd => D_call (g := g) (vs := [.int .i64 ((y2).From), .int .i64 ((y7).From)]) en90 (.cons rfl (.cons rfl .nil)) (wk90  l5) fun g' w' v hs hr => ⟨g', hs, hr⟩) (fun c7 hv => ?_)
 obtain ⟨_, _, _, rfl⟩ := hv
 refine L_ld (c := j3) rfl rfl .plain (fun _ _ h => h.ch) o5 rfl ?_
 refine L_pur (c := .int .i64 (x0)) rfl rfl .plain (fun _ _ hd => P_move rfl) ?_
 refine L_pur (c := ePtr j3 x0 3) rfl rfl .plain (fun _ _ hd => P_indexAddr (α := LoomRun) Try.underlying31 Try.sizeOf76 rfl m4 rfl o3) ?_
 refine L_pur (c := fPtr (ePtr j3 x0 3) 0) rfl rfl .plain (fun _ _ hd => P_fieldAddr at_76_0 rfl (PT.ptr p4)) ?_
 refine L_ld (c := .int .i64 ((d3).Order)) rfl rfl .plain (fun _ _ h => h.ch) p5 rfl ?_
 refine L_ld (c := u3) rfl rfl .plain (fun _ _ h => h.ch) q5 rfl ?_
 refine L_pur (c := .int .i64 (x1)) rfl rfl .plain (fun _ _ hd => P_move rfl) ?_
 refine L_pur (c := ePtr u3 x1 3) rfl rfl .plain (fun _ _ hd => P_indexAddr (α := LoomRun) Try.underlying31 Try.sizeOf76 rfl z4 rfl z3) ?_
 refine L_pur (c := fPtr (ePtr u3 x1 3) 0) rfl rfl .plain (fun _ _ hd => P_fieldAddr at_76_0 rfl (PT.ptr d5)) ?_
 refine L_ld (c := .int .i64 ((i3).Order)) rfl rfl .plain (fun _ _ h => h.ch) t5 rfl ?_
 refine L_do (φ := fun v g w => v = .int .i64 (u0)) rfl rfl .plain (fun g w hd => D_call (g := g) (vs := [.int .i64 ((d3).Order), .int .i64 ((i3).Order)]) en90 (.cons rfl (.cons rfl .nil)) (wk90  u5) fun g' w' v hs hr => ⟨g', hs, hr⟩) (fun d7 hv => ?_)
 obtain ⟨_, _, _, rfl⟩ := hv
 refine L_do (φ := fun v g w => RV g.m w ([o0, u0] : List Int) v ∧ OS 3028 g w 3 ([o0, u0] : List Int) v ∧ FullV v) rfl rfl .plain (fun g w hd => D_buildSlice (g := g) 3028 (xs := ([o0, u0] : List Int)) (vs := [.int .i64 (o0), .int .i64 (u0)]) Try.underlying22 Try.sizeOf3 Try.zeroValue3 rfl rfl (.cons rfl (.cons rfl .nil)) (RVs.cons (RV_int.2 rfl) (RVs.cons (RV_int.2 rfl) RVs.nil)) rfl rfl fun g' w' v hs o r hxt hfl => ⟨g', hxt, r, o, hfl⟩) (fun j1 hv => ?_)
 clear hv
 refine L_do (φ := fun v g w => v = .int .i64 (z2)) rfl rfl .plain (fun g w hd => D_call (g := g) (vs := [j1]) en89 (.cons rfl .nil) (wk89 (word (A := fun g w => RV g.m w ([o0, u0] : List Int) j1 ∧ OS 3028 g w 3 ([o0, u0] : List Int) j1 ∧ FullV j1) 22 rfl rfl (deps_of hd)).1 x5) fun g' w' v hs hr => ⟨g', hs, hr⟩) (fun e7 hv => ?_)
 obtain ⟨_, _, _, rfl⟩ := hv
 refine L_pur (c := .int .i64 (z2)) rfl rfl .plain (fun _ _ hd => P_assign rfl) ?_
 refine L_nil fun g7 i7 hall => ?_
 have hs := hall.1
 have hfr := hfr.ext hs
 have j7 := (word_all (A := fun g w => RV g.m w ([o0, u0] : List Int) j1 ∧ OS 3028 g w 3 ([o0, u0] : List Int) j1 ∧ FullV j1) 22 rfl hall).1
 have o55 := (word_all (A := fun g w => RV g.m w ([o0, u0] : List Int) j1 ∧ OS 3028 g w 3 ([o0, u0] : List Int) j1 ∧ FullV j1) 22 rfl hall).2.1
 clear hs hall
 refine EL_nil (thn_n (E_ret ?_))
 obtain rfl := sinj h
 exact end1 rfl rfl (show _ = .int .i64 (z2) from rfl) ⟨_, hfr, rfl⟩
def f51 (x0 : LoomLoomMill) (x1 : List Int) (x2 : List (Int × LoomRun)) : Option ((List Bool)) :=
 (shl64 (1 : Int) (((x0).orders).length : Int)).bind fun y4 =>
 (mks 1 (false : Bool) y4).bind fun y5 =>
 (idx y5 (0 : Int)).bind fun nG =>
 Option.bind (α := (List Bool)) (
  lp (σ := (List Bool) × Int) (fun dC (i6, i5) =>
   bif (decide (i5 < ((x1).length : Int))) then
    Option.bind (α := (List Bool)) (
     (idx x1 i5).bind fun p8 =>
     (f83 x0 p8 x2).bind fun p5 =>
     (mks 1 (false : Bool) (((i6).length : Int))).bind fun e7 =>
     Option.bind (α := (List Bool)) (
      lp (σ := (List Bool) × Int) (fun eC (v7, o0) =>
       bif (decide (o0 < ((e7).length : Int))) then
        Option.bind (α := (List Bool)) (
         (f84 o0).bind fun oA =>
         (oA ((List Bool)) (fun t5 o5 =>
          (idx t5 o0).bind fun c7 =>
          bif c7 then
           (idx t5 o0).bind fun mE =>
           some (true, ((List.set t5 (Int.toNat o0) true)))
          else
           (idx p5 o5).bind fun n7 =>
           bif n7 then
            (idx i6 (bit64 .andNot o0 o5)).bind fun i8 =>
            (idx t5 o0).bind fun nE =>
            some (true, ((List.set t5 (Int.toNat o0) i8)))
           else
            (idx t5 o0).bind fun oE =>
            some (true, ((List.set t5 (Int.toNat o0) false)))
          ) (v7)).bind fun i9 =>
         some (i9)
         ) fun c8 =>
        eC (c8, (w64 (o0 + (1 : Int))))
       else
        some (v7)
       ) big (e7, (0 : Int))
      ) fun l8 =>
     some (l8)
     ) fun k8 =>
    dC (k8, (w64 (i5 + (1 : Int))))
   else
    some (i6)
   ) big ((List.set y5 (Int.toNat (0 : Int)) true), (0 : Int))
  ) fun r8 =>
 some (r8)
theorem en51 : Enters Try.prog 51 := enters_of Try.func51 (by kernel_rfl) rfl
theorem wk51 {gI : Gh} {wI : World} {x0 : LoomLoomMill} {x1 : List Int} {x2 : List (Int × LoomRun)} {up0 : Value} (rp0 : RV gI.m wI x0 up0) {up1 : Value} (rp1 : RV gI.m wI x1 up1) {up2 : Value} (mq2 : MR (Value.int .i64) gI wI x2 up2) {r : (List Bool)} (h : f51 x0 x1 x2 = some r) : Fn Try.prog 51 #[up0, up1, up2] gI wI (fun m w v => RV m w (r) v) := by
 unfold f51 at h
 refine fnD_of_E Try.func51 rfl (Nat.le_of_ble_eq_true rfl) fun g0 hm hfr => ?_
 have hmk : MkF g0 wI [] := MkF.start
 have rp0 : RV g0.m wI x0 up0 := hm ▸ rp0
 have rp1 : RV g0.m wI x1 up1 := hm ▸ rp1
 have mq2 := MQ.enter mq2 hm hfr
 show E _ 67 none _ _ _ _ _
 refine E_seq (E_region (EL_do .plain rfl (D_box (g := g0) rfl rp0 fun g1 w1 p1 hs q1 => ?_)))
 have hfr := hfr.ext hs
 have hmk := hmk.ext hs
 have rp1 := rp1.ext hs
 have mq2 := mq2.ext hs
 refine EL_at (.slice none 0 0) rfl rfl ?_
 refine EL_nil (thn_n (E_seq (E_region (EL_pur (v := fPtr p1 2) (P_fieldAddr at_96_1 rfl (PT.ptr q1)) .plain rfl ?_))))
 have q2 := PT_field (part_LoomLoomMill_1).1 q1
 refine EL_do .plain rfl (D_load (g := g1) Try.isAgg25 Try.sizeOf25 rfl q2 fun v3 r3 => ?_)
 refine EL_pur (v := .int .i64 (((x0).orders).length : Int)) (P_len Try.underlying25 rfl r3) .plain rfl ?_
 obtain ⟨y4, oG, h⟩ := bsome h
 refine EL_pur (v := .int .i64 (y4)) (P_int rfl rfl (congrArg (Option.map (Value.int .i64)) oG)) .plain rfl ?_
 obtain ⟨y5, hy5, h⟩ := bsome h
 refine EL_do .plain rfl (D_makeSliceM (g := g1) 9018 (false : Bool) rfl Try.underlying101 info_4 rfl (fun _ _ => rfl) rfl rfl hy5 fun g6 w6 v6 hs b6 => ?_)
 have hfr := hfr.stp hs
 have hmk := hmk.stp hs
 have rp1 := rp1.stp hs
 have mq2 := mq2.stp hs
 have q1 := q1.stp hs
 refine EL_do .plain rfl (D_allocOc (g := g6) 2007 (⟨.slice none 0 0, rfl⟩ : Fv) Try.zeroValue101 (fun _ _ => fv0_rep) fun g7 w7 p7 hs b7 cb => ?_)
 clear cb
 have hfr := hfr.stp hs
 have hmk := hmk.stp hs
 have rp1 := rp1.stp hs
 have mq2 := mq2.stp hs
 have q1 := q1.stp hs
 have b6 := b6.stp hs rfl
 have z7 : OA 4007 g7 w7 4 ([] : List Bool) (.slice none 0 0) := OA.nil
 have on8 := om_one b6
 refine EL_do .plain rfl (D_storeOc (g := g7) (v := v6) (a' := (⟨v6, on8⟩ : Fv)) Try.sizeOf101 rfl b7 rfl (RV_fv.2 rfl) fun g8 w8 hs b8 cb => ?_)
 clear cb
 have hfr := hfr.stp hs
 have hmk := hmk.stp hs
 have rp1 := rp1.stp hs
 have mq2 := mq2.stp hs
 have q1 := q1.stp hs
 have b6 := b6.stp hs rfl
 refine EL_nil (thn_n (E_seq (E_region (EL_do .plain rfl (D_loadO (α := Fv) (g := g8) Try.isAgg101 Try.sizeOf101 rfl b8 fun v9 r9 => ?_)))))
 have e9 : v9 = v6 := RV_fv.1 r9
 clear r9
 subst v9
 obtain ⟨nG, zD, h⟩ := bsome h
 refine EL_pur (v := ePtr v6 (0 : Int) 1) (P_indexAddrM (α := Bool) Try.underlying101 Try.sizeOf4 rfl b6 rfl zD) .plain rfl ?_
 refine EL_do .plain rfl (D_storeM (g := g8) (α := Bool) (a' := true) Try.sizeOf4 rfl b6 zD rfl (RV_bool.2 rfl) fun nI oI hs b11 => ?_)
 have hfr := hfr.stp hs
 have hmk := hmk.stp hs
 have rp1 := rp1.stp hs
 have mq2 := mq2.stp hs
 have q1 := q1.stp hs
 have b8 := b8.stp hs rfl
 refine EL_nil (thn_n ?_)
 obtain ⟨r8, hx, h⟩ := bsome h
 refine E_joinD (fun e ds w => ∃ (g : Gh) , Fr gI wI g w ∧ MkF g w ds ∧ e 7 = p7 ∧ OB 2007 g w 101 (r8 : List Bool) p7) (fun Q' hQ => ?_) (fun pG gG yG hR => ?_)
 ·replace h := hx
  clear hx
  refine E_seq (E_region (EL_mw up1 rfl rfl ?_))
  refine EL_pur (v := .int .i64 ((x1).length : Int)) (P_len Try.underlying22 rfl rp1) .plain rfl ?_
  refine EL_mw (.int .i64 (0)) rfl rfl ?_
  refine EL_nil (thn_n (E_block ?_))
  obtain ⟨gp2345, hs, rp2345⟩ := OM.pub b11
  have hfr := hfr.stp hs
  have hmk := hmk.stp hs
  have rp1 := rp1.stp hs
  have mq2 := mq2.stp hs
  have q1 := q1.stp hs
  have b8 := b8.stp hs rfl
  have ub2345 := OB.ofRV b8 rp2345
  refine E_lpD h (fun (s : (List Bool) × Int) e ds w => ∃ (g : Gh) , Fr gI wI g w ∧ MkF g w ds ∧ e 2 = up2 ∧ MQ (Value.int .i64) wI.heap.size g w (x2 : List (Int × LoomRun)) up2 ∧ e 3 = p1 ∧ PT g.m w (x0 : LoomLoomMill) p1 ∧ e 7 = p7 ∧ OB 2007 g w 101 (s.1 : List Bool) p7 ∧ e 21 = up1 ∧ RV g.m w (x1 : List Int) up1 ∧ e 22 = .int .i64 (((x1).length : Int)) ∧ e 23 = .int .i64 (s.2)) ⟨gp2345, hfr, hmk, rfl, mq2, rfl, q1, rfl, ub2345, rfl, rp1, rfl, rfl⟩ (fun X2346 dC aE => ?_)
  rintro ⟨i6, i5⟩ qG hG iC ⟨y8, hfr, hmk, iA, i7, jA, j7, t8, d7, j9, j6, k9, m8⟩ h
  refine E_seq (E_region (EL_in (.bool ((decide (i5 < ((x1).length : Int))))) m8 k9 rfl rfl ?_))
  refine EL_nil (thn_n (E_seq ?_))
  rcases csome h with ⟨l9, h⟩ | ⟨l9, h⟩
  ·refine E_ct l9 rfl ?_
   refine E_skip (thn_n ?_)
   obtain ⟨k8, hx, h⟩ := bsome h
   refine E_joinD (fun e ds w => ∃ (g : Gh) , Fr gI wI g w ∧ MkF g w ds ∧ e 2 = up2 ∧ MQ (Value.int .i64) wI.heap.size g w (x2 : List (Int × LoomRun)) up2 ∧ e 3 = p1 ∧ PT g.m w (x0 : LoomLoomMill) p1 ∧ e 7 = p7 ∧ OB 2007 g w 101 (k8 : List Bool) p7 ∧ e 21 = up1 ∧ RV g.m w (x1 : List Int) up1 ∧ e 22 = .int .i64 (((x1).length : Int)) ∧ e 23 = .int .i64 (i5)) (fun Q' hQ => ?_) (fun rG iG zG hR => ?_)
   ·replace h := hx
    clear hx
    refine E_block ?_
    refine E_seq (E_region ?_)
    obtain ⟨p8, rA, h⟩ := bsome h
    refine EL_pur (v := ePtr up1 i5 1) (P_indexAddr (α := Int) Try.underlying22 Try.sizeOf3 j9 j6 m8 rA) .plain rfl ?_
    have rE := PT_idx j6 rA
    refine EL_do .plain rfl (D_load (g := y8) Try.isAgg3 Try.sizeOf3 rfl rE fun aH sE => ?_)
    obtain rfl := RV_int.1 sE
    refine EL_at (.int .i64 (p8)) rfl rfl ?_
    refine EL_nil (thn_n (E_seq (L_load (x := .tmp 3) Try.isAgg96 Try.sizeOf96 j7 fun jC tE bE => ?_)))
    obtain ⟨p5, cE, h⟩ := bsome h
    refine L_loadO0 (x := .tmp 7) Try.isAgg101 Try.sizeOf101 d7 fun uE vE dE => ?_
    obtain ⟨e7, eE, h⟩ := bsome h
    have z3523 : OA 4011 y8 iC 4 ([] : List Bool) (.slice none 0 0) := OA.nil
    refine E_drawV (g := y8) (w := iC) (i := 2010) (t2 := 101) (a0 := ([] : List Bool)) (a1 := (p5 : List Bool)) (n := 10) [(3, (fun _ v g w => RV g.m w p5 v)), (6, (fun _ v g w => OM 9033 g w 4 e7 v)), (7, (fun _ v => varA 2010 101 ([] : List Bool) (p5 : List Bool) v)), (8, (fun _ v g w => OB 2011 g w 101 (⟨.slice none 0 0, rfl⟩ : Fv) v)), (9, (fun e _ g w => OB 2010 g w 101 (p5 : List Bool) (ev e (.tmp 10))))] [0, 1, 2, 3, 4, 5, 6, 7, 8, 9] rfl mixed (by kernel_rfl) (⟨fun _ _ => upV_rv, fun _ _ => upV_om, fun _ _ => up_var0, fun _ _ => upV_ob, fun _ _ => up_var1, trivial⟩) (⟨fun _ _ _ _ _ _ => rfl, fun _ _ _ _ _ _ => rfl, fun _ _ _ _ _ _ => rfl, fun _ _ _ _ _ _ => rfl, wok_store (A := fun p g w => OB 2010 g w 101 (p5 : List Bool) p) rfl, trivial⟩) ?_
    refine L_ld (c := jC) rfl rfl .plain (fun _ _ h => h.ch) bE jA ?_
    refine L_pur (c := .int .i64 (p8)) rfl rfl .plain (fun _ _ hd => P_move rfl) ?_
    refine L_pur (c := up2) rfl rfl .plain (fun _ _ hd => P_move iA) ?_
    refine L_do (φ := fun v g w => RV g.m w p5 v) rfl rfl .plain (fun g w hd => D_call (g := g) (vs := [jC, .int .i64 (p8), up2]) en83 (.cons rfl (.cons rfl (.cons rfl .nil))) (wk83 (tE.stp hd.1) (i7.stp hd.1).r cE) fun g' w' v hs hr => ⟨g', var_ext hs, hr⟩) (fun kC hv => ?_)
    obtain ⟨_, _, _, rq3517⟩ := hv
    refine L_ld (c := uE) rfl rfl .plain (fun _ _ h => ⟨h.ch, fun b hb ho => h.block b hb (by rw [ho]; decide)⟩) dE t8 ?_
    refine L_pur (c := .int .i64 ((i6).length : Int)) rfl rfl .plain (fun _ _ hd => P_len Try.underlying101 rfl vE) ?_
    refine L_do (φ := fun v g w => OM 9033 g w 4 e7 v) rfl rfl .plain (fun g w hd => D_makeSliceX (g := g) 9033 (false : Bool) rfl Try.underlying101 info_4 rfl (fun _ _ => rfl) rfl rfl eE fun g' w' v hs b => ⟨g', var_ext hs, b⟩) (fun a9 hv => ?_)
    clear hv
    refine L_do (φ := fun v => varA 2010 101 ([] : List Bool) (p5 : List Bool) v) rfl rfl .plain (fun g w hd => D_allocX (g := g) 2010 ([] : List Bool) Try.zeroValue101 (fun m w => ⟨_, rep_nil, rfl⟩) fun g' w' v hs b => ⟨g', var_ext hs, .inl b⟩) (fun o7 hv => ?_)
    clear hv
    refine L_do (φ := fun v g w => OB 2011 g w 101 (⟨.slice none 0 0, rfl⟩ : Fv) v) rfl rfl .plain (fun g w hd => D_allocX (g := g) 2011 (⟨.slice none 0 0, rfl⟩ : Fv) Try.zeroValue101 (fun _ _ => fv0_rep) fun g' w' v hs b => ⟨g', var_ext hs, b⟩) (fun q7 hv => ?_)
    clear hv
    refine L_do (φ := fun _ g w => OB 2010 g w 101 (p5 : List Bool) o7) rfl rfl .plain (fun g w hd => D_storeV (g := g) Try.sizeOf101 rfl (word (A := varA 2010 101 ([] : List Bool) (p5 : List Bool) o7) 7 rfl rfl (deps_of hd)) rfl (word (A := fun g w => RV g.m w p5 kC) 3 rfl rfl (deps_of hd))) (fun bH hv => ?_)
    clear hv
    refine L_nil fun xE cH hall => ?_
    have hs := hall.1
    have hfr := hfr.stp hs
    have hmk := hmk.stp hs
    have i7 := i7.stp hs
    have j7 := j7.stp hs
    have d7 := d7.stp hs rfl
    have j6 := j6.stp hs
    have dH := (word_all (A := fun g w => RV g.m w p5 kC) 3 rfl hall)
    have b3542 := (word_all (A := fun g w => OM 9033 g w 4 e7 a9) 6 rfl hall)
    have b3543 := (word_all (A := fun g w => OB 2010 g w 101 (p5 : List Bool) o7) 9 rfl hall)
    have b3544 := (word_all (A := fun g w => OB 2011 g w 101 (⟨.slice none 0 0, rfl⟩ : Fv) q7) 8 rfl hall)
    clear hs hall
    have on3546 := om_one b3542
    refine EL_do .plain rfl (D_storeOc (g := xE) (v := a9) (a' := (⟨a9, on3546⟩ : Fv)) Try.sizeOf101 rfl b3544 rfl (RV_fv.2 rfl) fun lC gH hs b3546 cb => ?_)
    clear cb
    have hfr := hfr.stp hs
    have hmk := hmk.stp hs
    have i7 := i7.stp hs
    have j7 := j7.stp hs
    have d7 := d7.stp hs rfl
    have j6 := j6.stp hs
    have b3542 := b3542.stp hs rfl
    have b3543 := b3543.stp hs rfl
    refine EL_nil (thn_n ?_)
    obtain ⟨l8, hx, h⟩ := bsome h
    refine E_joinD (fun e ds w => ∃ (g : Gh) , Fr gI wI g w ∧ MkF g w ds ∧ e 2 = up2 ∧ MQ (Value.int .i64) wI.heap.size g w (x2 : List (Int × LoomRun)) up2 ∧ e 3 = p1 ∧ PT g.m w (x0 : LoomLoomMill) p1 ∧ e 7 = p7 ∧ OB 2007 g w 101 (i6 : List Bool) p7 ∧ e 11 = q7 ∧ BX 2011 9033 g w 4 101 (l8 : List Bool) q7 ∧ e 21 = up1 ∧ RV g.m w (x1 : List Int) up1 ∧ e 22 = .int .i64 (((x1).length : Int)) ∧ e 23 = .int .i64 (i5)) (fun Q' hQ => ?_) (fun sG jG iH hR => ?_)
    ·replace h := hx
     clear hx
     refine E_seq (E_region (EL_do .plain rfl (D_loadO (α := Fv) (g := lC) Try.isAgg101 Try.sizeOf101 rfl b3546 fun mC nC => ?_)))
     have e4110 : mC = a9 := RV_fv.1 nC
     clear nC
     subst mC
     refine EL_pur (v := .int .i64 ((e7).length : Int)) (P_lenM Try.underlying101 rfl b3542) .plain rfl ?_
     refine EL_mw (.int .i64 (0)) rfl rfl ?_
     refine EL_nil (thn_n (E_block ?_))
     refine E_lpD h (fun (s : (List Bool) × Int) e ds w => ∃ (g : Gh) , Fr gI wI g w ∧ MkF g w ds ∧ e 2 = up2 ∧ MQ (Value.int .i64) wI.heap.size g w (x2 : List (Int × LoomRun)) up2 ∧ e 3 = p1 ∧ PT g.m w (x0 : LoomLoomMill) p1 ∧ e 7 = p7 ∧ OB 2007 g w 101 (i6 : List Bool) p7 ∧ e 10 = o7 ∧ OB 2010 g w 101 (p5 : List Bool) o7 ∧ e 11 = q7 ∧ BX 2011 9033 g w 4 101 (s.1 : List Bool) q7 ∧ e 21 = up1 ∧ RV g.m w (x1 : List Int) up1 ∧ e 22 = .int .i64 (((x1).length : Int)) ∧ e 23 = .int .i64 (i5) ∧ e 35 = .int .i64 (((e7).length : Int)) ∧ e 36 = .int .i64 (s.2)) ⟨lC, hfr, hmk, iA, i7, jA, j7, t8, d7, rfl, b3543, rfl, ⟨_, b3546, b3542⟩, j9, j6, k9, m8, rfl, rfl⟩ (fun X4111 eC gE => ?_)
     rintro ⟨v7, o0⟩ tG kA jH ⟨oC, hfr, hmk, lA, x6, mA, y6, v8, a7, n8, l6, u5, ⟨aG, x5, c6⟩, n9, d6, o9, p9, q9, o8⟩ h
     refine E_seq (E_region (EL_in (.bool ((decide (o0 < ((e7).length : Int))))) o8 q9 rfl rfl ?_))
     refine EL_nil (thn_n (E_seq ?_))
     rcases csome h with ⟨t9, h⟩ | ⟨t9, h⟩
     ·refine E_ct t9 rfl ?_
      refine E_skip (thn_n ?_)
      obtain ⟨c8, hx, h⟩ := bsome h
      refine E_joinD (fun e ds w => ∃ (g : Gh) , Fr gI wI g w ∧ MkF g w ds ∧ e 2 = up2 ∧ MQ (Value.int .i64) wI.heap.size g w (x2 : List (Int × LoomRun)) up2 ∧ e 3 = p1 ∧ PT g.m w (x0 : LoomLoomMill) p1 ∧ e 7 = p7 ∧ OB 2007 g w 101 (i6 : List Bool) p7 ∧ e 10 = o7 ∧ OB 2010 g w 101 (p5 : List Bool) o7 ∧ e 11 = q7 ∧ BX 2011 9033 g w 4 101 (c8 : List Bool) q7 ∧ e 21 = up1 ∧ RV g.m w (x1 : List Int) up1 ∧ e 22 = .int .i64 (((x1).length : Int)) ∧ e 23 = .int .i64 (i5) ∧ e 35 = .int .i64 (((e7).length : Int)) ∧ e 36 = .int .i64 (o0)) (fun Q' hQ => ?_) (fun uG kG kH hR => ?_)
      ·replace h := hx
       clear hx
       refine E_block ?_
       refine E_seq (E_region (EL_mv o8 rfl ?_))
       refine EL_do .plain rfl (D_allocOc (g := oC) 2012 (0 : Int) Try.zeroValue3 (fun m w => ⟨_, rep_int, rfl⟩) fun yE lH zE hs b4393 cb => ?_)
       have hfr := hfr.stp hs
       have hmk := hmk.stp hs
       have x6 := x6.stp hs
       have y6 := y6.stp hs
       have a7 := a7.stp hs rfl
       have l6 := l6.stp hs rfl
       have x5 := x5.stp hs rfl
       have c6 := c6.stp hs rfl
       have d6 := d6.stp hs
       clear cb
       refine EL_do .plain rfl (D_storeOc (g := yE) (v := .int .i64 (o0)) Try.sizeOf3 rfl b4393 rfl (RV_int.2 rfl) fun qC mH hs b4394 cb => ?_)
       clear cb
       have hfr := hfr.stp hs
       have hmk := hmk.stp hs
       have x6 := x6.stp hs
       have y6 := y6.stp hs
       have a7 := a7.stp hs rfl
       have l6 := l6.stp hs rfl
       have x5 := x5.stp hs rfl
       have c6 := c6.stp hs rfl
       have d6 := d6.stp hs
       refine EL_nil (thn_n (E_seq (E_region (EL_do .plain rfl (D_loadO (g := qC) Try.isAgg3 Try.sizeOf3 rfl b4394 fun nH cF => ?_)))))
       obtain rfl := RV_int.1 cF
       obtain ⟨oA, iE, h⟩ := bsome h
       refine EL_do .plain rfl (D_call (g := qC) (vs := [.int .i64 (o0)]) en84 (.cons rfl .nil) (wk84  iE) fun oH vG dF hs hr => ?_)
       have hfr := hfr.ext hs
       have hmk := hmk.ext hs
       have x6 := x6.ext hs
       have y6 := y6.ext hs
       have a7 := a7.ext hs
       have l6 := l6.ext hs
       have x5 := x5.ext hs
       have c6 := c6.ext hs
       have d6 := d6.ext hs
       have b4394 := b4394.ext hs
       have rC := hr
       refine EL_nil (thn_n (E_block ?_))
       have hB0 := hfr.size
       have hmk0 := hmk
       obtain ⟨i9, hφ, h⟩ := bsome h
       refine E_rangeFunc (σ := ((List Bool))) (s0 := (v7)) 10 rfl (fun _ => 0) [] (fun (s : (List Bool)) (g : Gh) (w : World) => Fr gI wI g w ∧ MkF g w kA ∧ MQ (Value.int .i64) wI.heap.size g w (x2 : List (Int × LoomRun)) up2 ∧ PT g.m w (x0 : LoomLoomMill) p1 ∧ OB 2007 g w 101 (i6 : List Bool) p7 ∧ OB 2010 g w 101 (p5 : List Bool) o7 ∧ BX 2011 9033 g w 4 101 (s : List Bool) q7 ∧ OB 2012 g w 3 (o0 : Int) zE ∧ RV g.m w (x1 : List Int) up1 ∧ ItV Try.prog (RA1 (α := Int)) oA dF g.m w) rfl rC hφ (fun _ _ _ _ => rfl) rfl ra1_size rfl (fun _ _ _ _ _ hx hR => by obtain ⟨hfr, hmk, z2, z3, z4, z5, z6, z7, z8, z9⟩ := hR; exact ⟨hfr.ist hx hB0, hmk.ist hx, z2.ist hx hB0, z3.ist hx, z4.ist hx, z5.ist hx, z6.ist hx, z7.ist hx, z8.ist hx, z9.ist hx⟩) (fun _ _ _ _ _ hx hR => by obtain ⟨hfr, hmk, z2, z3, z4, z5, z6, z7, z8, z9⟩ := hR; exact ⟨hfr.stp hx, hmk.stp hx, z2.stp hx, z3.stp hx, z4.stp hx rfl, z5.stp hx rfl, z6.stp hx rfl, z7.stp hx rfl, z8.stp hx, z9.stp hx⟩) ⟨hfr, hmk, x6, y6, a7, l6, ⟨_, x5, c6⟩, b4394, d6, rC⟩ (fun _ h => by cases h) ?_ ?_
       ·intro xG lG s x b s2 d9 eF vs hsz h hR hrec_0 zA hrd
        obtain ⟨t5, hse⟩ : ∃ y, y = s := ⟨s, rfl⟩
        subst hse
        obtain ⟨hfr, hmk, m4, p4, d4, d3, ⟨d5, j1, i3⟩, u0, j3, o3⟩ := hR
        obtain ⟨o5, hxe⟩ : ∃ y, y = x := ⟨x, rfl⟩
        subst hxe
        obtain ⟨cD, rfl, aB⟩ := ra1_get hrd
        obtain rfl : cD = .int .i64 (o5) := RV_int.1 aB
        have q5 := RFr.refl d9 eF
        refine E_region (EL_at (.int .i64 (o5)) rfl rfl ?_)
        refine EL_nil (thn_n ?_)
        obtain ⟨gF, hbr, hs, hrN⟩ := begin_round hrec_0 zA
        refine ⟨gF, hbr, ?_⟩
        have hfr := hfr.stp hs
        have hmk := hmk.stp hs
        have q5 := q5.stp hs
        have m4 := m4.stp hs
        have p4 := p4.stp hs
        have d4 := d4.stp hs rfl
        have d3 := d3.stp hs rfl
        have j1 := j1.stp hs rfl
        have i3 := i3.stp hs rfl
        have u0 := u0.stp hs rfl
        have j3 := j3.stp hs
        have o3 := o3.stp hs
        have hrec_0 := hrN
        clear hbr hs hrN
        refine E_block ?_
        refine L_loadO0 (α := Fv) (x := .tmp 11) Try.isAgg101 Try.sizeOf101 j1 fun sC tC u9 => ?_
        have e4536 : sC = d5.v := RV_fv.1 tC
        clear tC
        subst sC
        refine L_loadO0 (x := .tmp 12) Try.isAgg3 Try.sizeOf3 u0 fun pH iF y9 => ?_
        obtain rfl := RV_int.1 iF
        refine L_loadO0 (α := Fv) (x := .tmp 11) Try.isAgg101 Try.sizeOf101 j1 fun uC vC bA => ?_
        have e4538 : uC = d5.v := RV_fv.1 vC
        clear vC
        subst uC
        refine L_loadO0 (x := .tmp 12) Try.isAgg3 Try.sizeOf3 u0 fun qH jF cA => ?_
        obtain rfl := RV_int.1 jF
        obtain ⟨c7, q8, h⟩ := bsome h
        refine L_loadM (x := .tmp 46) Try.isAgg4 Try.sizeOf4 i3 q8 fun sH kF dA => ?_
        obtain rfl := RV_bool.1 kF
        rcases csome h with ⟨u3, h⟩ | ⟨u3, h⟩
        ·obtain ⟨mE, sA, h⟩ := bsome h
         refine E_drawL (g := d9) (n := 21) [] [0, 1, 2, 3, 4, 5, 6, 7, 8, 9, 10, 11, 12, 13, 14, 15, 16, 17, 18, 19, 20] rfl mixed (by kernel_rfl) trivial ?_
         refine L_ld (c := d5.v) rfl rfl .plain (fun _ _ h => ⟨h.ch, fun b hb _ => h.below.block b hb⟩) u9 u5 ?_
         refine L_ld (c := .int .i64 (o0)) rfl rfl .plain (fun _ _ h => ⟨h.ch, fun b hb _ => h.below.block b hb⟩) y9 rfl ?_
         refine L_ld (c := d5.v) rfl rfl .plain (fun _ _ h => ⟨h.ch, fun b hb _ => h.below.block b hb⟩) bA u5 ?_
         refine L_ld (c := .int .i64 (o0)) rfl rfl .plain (fun _ _ h => ⟨h.ch, fun b hb _ => h.below.block b hb⟩) cA rfl ?_
         refine L_pur (c := ePtr (d5.v) o0 1) rfl rfl .plain (fun _ _ hd => P_indexAddrM (α := Bool) Try.underlying101 Try.sizeOf4 rfl i3 rfl q8) ?_
         refine L_ld (c := .bool (c7)) rfl rfl .plain (fun _ _ h => ⟨h.ch, fun b hb _ => h.below.block b hb⟩) dA rfl ?_
         refine L_pur (c := .bool (c7)) rfl rfl .plain (fun _ _ hd => P_move rfl) ?_
         refine L_skip rfl (.no2 rfl rfl u3 rfl) ?_
         refine L_skip rfl (.no2 rfl rfl u3 rfl) ?_
         refine L_skip rfl (.no2 rfl rfl u3 rfl) ?_
         refine L_skip rfl (.no2 rfl rfl u3 rfl) ?_
         refine L_skip rfl (.no2 rfl rfl u3 rfl) ?_
         refine L_dead (fun _ => rfl) 6 rfl ?_
         refine L_skip rfl (.no2 rfl rfl u3 rfl) ?_
         refine L_pur (c := .bool true) rfl rfl .plain (fun _ _ hd => P_pick (b := c7) rfl (pick_t u3 rfl)) ?_
         refine L_pur (c := ePtr (d5.v) o0 1) rfl rfl .plain (fun _ _ hd => P_indexAddrM (α := Bool) Try.underlying101 Try.sizeOf4 rfl i3 rfl sA) ?_
         refine L_nil fun lF tH hall => ?_
         have hs := hall.1
         have hfr := hfr.ext hs
         have hmk := hmk.ext hs
         have q5 := q5.ext hs
         have hrec_0 := hrec_0.ext hs
         have m4 := m4.ext hs
         have p4 := p4.ext hs
         have d4 := d4.ext hs
         have d3 := d3.ext hs
         have j1 := j1.ext hs
         have i3 := i3.ext hs
         have u0 := u0.ext hs
         have j3 := j3.ext hs
         have o3 := o3.ext hs
         clear hs hall
         refine EL_do .plain rfl (D_storeM (g := lF) (α := Bool) (a' := true) Try.sizeOf4 rfl i3 sA rfl (RV_bool.2 rfl) fun uH vH hs b4581 => ?_)
         have hfr := hfr.stp hs
         have hmk := hmk.stp hs
         have q5 := q5.stp hs
         have hrec_0 := hrec_0.stp hs rfl
         have m4 := m4.stp hs
         have p4 := p4.stp hs
         have d4 := d4.stp hs rfl
         have d3 := d3.stp hs rfl
         have j1 := j1.stp hs rfl
         have u0 := u0.stp hs rfl
         have j3 := j3.stp hs
         have o3 := o3.stp hs
         refine EL_nil (blk_n ?_)
         obtain ⟨rfl, rfl⟩ := pairs2 h
         exact ⟨_, q5, ⟨hfr, hmk, m4, p4, d4, d3, ⟨_, j1, b4581⟩, u0, j3, o3⟩, hrec_0, rfl, rfl⟩
        ·refine L_loadO0 (x := .tmp 10) Try.isAgg101 Try.sizeOf101 d3 fun g9 pA tA => ?_
         obtain ⟨n7, eA, h⟩ := bsome h
         have mF := PT_idx pA eA
         refine L_load (x := .tmp 51) Try.isAgg4 Try.sizeOf4 mF fun xH nF uA => ?_
         obtain rfl := RV_bool.1 nF
         rcases csome h with ⟨l5, h⟩ | ⟨l5, h⟩
         ·refine L_loadO0 (x := .tmp 7) Try.isAgg101 Try.sizeOf101 d4 fun xC yC jE => ?_
          refine L_loadO0 (x := .tmp 12) Try.isAgg3 Try.sizeOf3 u0 fun yH oF kE => ?_
          obtain rfl := RV_int.1 oF
          obtain ⟨i8, vA, h⟩ := bsome h
          have pF := PT_idx yC vA
          refine L_load (x := .tmp 58) Try.isAgg4 Try.sizeOf4 pF fun zH qF lE => ?_
          obtain rfl := RV_bool.1 qF
          obtain ⟨nE, xA, h⟩ := bsome h
          refine E_drawL (g := d9) (n := 21) [] [0, 1, 2, 3, 4, 5, 6, 7, 8, 9, 10, 11, 12, 13, 14, 15, 16, 17, 18, 19, 20] rfl mixed (by kernel_rfl) trivial ?_
          refine L_ld (c := d5.v) rfl rfl .plain (fun _ _ h => ⟨h.ch, fun b hb _ => h.below.block b hb⟩) u9 u5 ?_
          refine L_ld (c := .int .i64 (o0)) rfl rfl .plain (fun _ _ h => ⟨h.ch, fun b hb _ => h.below.block b hb⟩) y9 rfl ?_
          refine L_ld (c := d5.v) rfl rfl .plain (fun _ _ h => ⟨h.ch, fun b hb _ => h.below.block b hb⟩) bA u5 ?_
          refine L_ld (c := .int .i64 (o0)) rfl rfl .plain (fun _ _ h => ⟨h.ch, fun b hb _ => h.below.block b hb⟩) cA rfl ?_
          refine L_pur (c := ePtr (d5.v) o0 1) rfl rfl .plain (fun _ _ hd => P_indexAddrM (α := Bool) Try.underlying101 Try.sizeOf4 rfl i3 rfl q8) ?_
          refine L_ld (c := .bool (c7)) rfl rfl .plain (fun _ _ h => ⟨h.ch, fun b hb _ => h.below.block b hb⟩) dA rfl ?_
          refine L_pur (c := .bool (c7)) rfl rfl .plain (fun _ _ hd => P_move rfl) ?_
          refine L_ld (c := g9) rfl rfl (.yes2 rfl rfl u3) (fun _ _ h => ⟨h.ch, fun b hb _ => h.below.block b hb⟩) tA n8 ?_
          refine L_pur (c := .int .i64 (o5)) rfl rfl (.yes2 rfl rfl u3) (fun _ _ hd => P_move rfl) ?_
          refine L_pur (c := ePtr g9 o5 1) rfl rfl (.yes2 rfl rfl u3) (fun _ _ hd => P_indexAddr (α := Bool) Try.underlying101 Try.sizeOf4 rfl pA rfl eA) ?_
          refine L_ld (c := .bool (n7)) rfl rfl (.yes2 rfl rfl u3) (fun _ _ h => h.ch) uA rfl ?_
          refine L_pur (c := .bool (n7)) rfl rfl (.yes2 rfl rfl u3) (fun _ _ hd => P_move rfl) ?_
          refine L_ld (c := xC) rfl rfl (.yes2 rfl rfl l5) (fun _ _ h => ⟨h.ch, fun b hb _ => h.below.block b hb⟩) jE v8 ?_
          refine L_ld (c := .int .i64 (o0)) rfl rfl (.yes2 rfl rfl l5) (fun _ _ h => ⟨h.ch, fun b hb _ => h.below.block b hb⟩) kE rfl ?_
          refine L_pur (c := .int .i64 (o5)) rfl rfl (.yes2 rfl rfl l5) (fun _ _ hd => P_move rfl) ?_
          refine L_pur (c := .int .i64 ((bit64 .andNot o0 o5))) rfl rfl (.yes2 rfl rfl l5) (fun _ _ hd => P_int rfl rfl rfl) ?_
          refine L_pur (c := ePtr xC (bit64 .andNot o0 o5) 1) rfl rfl (.yes2 rfl rfl l5) (fun _ _ hd => P_indexAddr (α := Bool) Try.underlying101 Try.sizeOf4 rfl yC rfl vA) ?_
          refine L_ld (c := .bool (i8)) rfl rfl (.yes2 rfl rfl l5) (fun _ _ h => h.ch) lE rfl ?_
          refine L_pur (c := .bool (i8)) rfl rfl (.yes2 rfl rfl u3) (fun _ _ hd => P_pick (b := n7) rfl (pick_t l5 rfl)) ?_
          refine L_pur (c := .bool (i8)) rfl rfl .plain (fun _ _ hd => P_pick (b := c7) rfl (pick_f u3 rfl)) ?_
          refine L_pur (c := ePtr (d5.v) o0 1) rfl rfl .plain (fun _ _ hd => P_indexAddrM (α := Bool) Try.underlying101 Try.sizeOf4 rfl i3 rfl xA) ?_
          refine L_nil fun rF aI hall => ?_
          have hs := hall.1
          have hfr := hfr.ext hs
          have hmk := hmk.ext hs
          have q5 := q5.ext hs
          have hrec_0 := hrec_0.ext hs
          have m4 := m4.ext hs
          have p4 := p4.ext hs
          have d4 := d4.ext hs
          have d3 := d3.ext hs
          have j1 := j1.ext hs
          have i3 := i3.ext hs
          have u0 := u0.ext hs
          have j3 := j3.ext hs
          have o3 := o3.ext hs
          clear hs hall
          refine EL_do .plain rfl (D_storeM (g := rF) (α := Bool) (a' := i8) Try.sizeOf4 rfl i3 xA rfl (RV_bool.2 rfl) fun bI cI hs b4630 => ?_)
          have hfr := hfr.stp hs
          have hmk := hmk.stp hs
          have q5 := q5.stp hs
          have hrec_0 := hrec_0.stp hs rfl
          have m4 := m4.stp hs
          have p4 := p4.stp hs
          have d4 := d4.stp hs rfl
          have d3 := d3.stp hs rfl
          have j1 := j1.stp hs rfl
          have u0 := u0.stp hs rfl
          have j3 := j3.stp hs
          have o3 := o3.stp hs
          refine EL_nil (blk_n ?_)
          obtain ⟨rfl, rfl⟩ := pairs2 h
          exact ⟨_, q5, ⟨hfr, hmk, m4, p4, d4, d3, ⟨_, j1, b4630⟩, u0, j3, o3⟩, hrec_0, rfl, rfl⟩
         ·obtain ⟨oE, yA, h⟩ := bsome h
          refine E_drawL (g := d9) (n := 21) [] [0, 1, 2, 3, 4, 5, 6, 7, 8, 9, 10, 11, 12, 13, 14, 15, 16, 17, 18, 19, 20] rfl mixed (by kernel_rfl) trivial ?_
          refine L_ld (c := d5.v) rfl rfl .plain (fun _ _ h => ⟨h.ch, fun b hb _ => h.below.block b hb⟩) u9 u5 ?_
          refine L_ld (c := .int .i64 (o0)) rfl rfl .plain (fun _ _ h => ⟨h.ch, fun b hb _ => h.below.block b hb⟩) y9 rfl ?_
          refine L_ld (c := d5.v) rfl rfl .plain (fun _ _ h => ⟨h.ch, fun b hb _ => h.below.block b hb⟩) bA u5 ?_
          refine L_ld (c := .int .i64 (o0)) rfl rfl .plain (fun _ _ h => ⟨h.ch, fun b hb _ => h.below.block b hb⟩) cA rfl ?_
          refine L_pur (c := ePtr (d5.v) o0 1) rfl rfl .plain (fun _ _ hd => P_indexAddrM (α := Bool) Try.underlying101 Try.sizeOf4 rfl i3 rfl q8) ?_
          refine L_ld (c := .bool (c7)) rfl rfl .plain (fun _ _ h => ⟨h.ch, fun b hb _ => h.below.block b hb⟩) dA rfl ?_
          refine L_pur (c := .bool (c7)) rfl rfl .plain (fun _ _ hd => P_move rfl) ?_
          refine L_ld (c := g9) rfl rfl (.yes2 rfl rfl u3) (fun _ _ h => ⟨h.ch, fun b hb _ => h.below.block b hb⟩) tA n8 ?_
          refine L_pur (c := .int .i64 (o5)) rfl rfl (.yes2 rfl rfl u3) (fun _ _ hd => P_move rfl) ?_
          refine L_pur (c := ePtr g9 o5 1) rfl rfl (.yes2 rfl rfl u3) (fun _ _ hd => P_indexAddr (α := Bool) Try.underlying101 Try.sizeOf4 rfl pA rfl eA) ?_
          refine L_ld (c := .bool (n7)) rfl rfl (.yes2 rfl rfl u3) (fun _ _ h => h.ch) uA rfl ?_
          refine L_pur (c := .bool (n7)) rfl rfl (.yes2 rfl rfl u3) (fun _ _ hd => P_move rfl) ?_
          refine L_skip rfl (.no2 rfl rfl l5 rfl) ?_
          refine L_skip rfl (.no2 rfl rfl l5 rfl) ?_
          refine L_skip rfl (.no2 rfl rfl l5 rfl) ?_
          refine L_skip rfl (.no2 rfl rfl l5 rfl) ?_
          refine L_skip rfl (.no2 rfl rfl l5 rfl) ?_
          refine L_skip rfl (.no2 rfl rfl l5 rfl) ?_
          refine L_pur (c := .bool false) rfl rfl (.yes2 rfl rfl u3) (fun _ _ hd => P_pick (b := n7) rfl (pick_f l5 rfl)) ?_
          refine L_pur (c := .bool false) rfl rfl .plain (fun _ _ hd => P_pick (b := c7) rfl (pick_f u3 rfl)) ?_
          refine L_pur (c := ePtr (d5.v) o0 1) rfl rfl .plain (fun _ _ hd => P_indexAddrM (α := Bool) Try.underlying101 Try.sizeOf4 rfl i3 rfl yA) ?_
          refine L_nil fun sF dI hall => ?_
          have hs := hall.1
          have hfr := hfr.ext hs
          have hmk := hmk.ext hs
          have q5 := q5.ext hs
          have hrec_0 := hrec_0.ext hs
          have m4 := m4.ext hs
          have p4 := p4.ext hs
          have d4 := d4.ext hs
          have d3 := d3.ext hs
          have j1 := j1.ext hs
          have i3 := i3.ext hs
          have u0 := u0.ext hs
          have j3 := j3.ext hs
          have o3 := o3.ext hs
          clear hs hall
          refine EL_do .plain rfl (D_storeM (g := sF) (α := Bool) (a' := false) Try.sizeOf4 rfl i3 yA rfl (RV_bool.2 rfl) fun eI iI hs b4669 => ?_)
          have hfr := hfr.stp hs
          have hmk := hmk.stp hs
          have q5 := q5.stp hs
          have hrec_0 := hrec_0.stp hs rfl
          have m4 := m4.stp hs
          have p4 := p4.stp hs
          have d4 := d4.stp hs rfl
          have d3 := d3.stp hs rfl
          have j1 := j1.stp hs rfl
          have u0 := u0.stp hs rfl
          have j3 := j3.stp hs
          have o3 := o3.stp hs
          refine EL_nil (blk_n ?_)
          obtain ⟨rfl, rfl⟩ := pairs2 h
          exact ⟨_, q5, ⟨hfr, hmk, m4, p4, d4, d3, ⟨_, j1, b4669⟩, u0, j3, o3⟩, hrec_0, rfl, rfl⟩
       ·intro tF jI ds4671 hsz hR hds
        obtain ⟨hfr, hmk, dD, eD, gD, bB, ⟨bG, cB, dB⟩, cG, eB, dG⟩ := hR
        obtain ⟨D, hdse, hD, hDb⟩ := hds.1 rfl
        subst hdse
        replace hmk := MkF.push hmk0 hmk hD hDb
        clear hD hDb hds
        revert hmk
        generalize ({ target := .collected D, args := #[] } :: kA : List Deferred) = mG
        intro hmk
        refine ⟨fun _ => ?_, fun k c hs _ => absurd hs (Nat.succ_ne_zero k).symm⟩
        refine blk_n (blk_n ?_)
        obtain rfl := sinj h
        exact hQ _ _ _ ⟨tF, hfr, hmk, lA, dD, mA, eD, v8, gD, n8, bB, u5, ⟨_, cB, dB⟩, n9, eB, o9, p9, q9, o8⟩
      ·clear hx
       obtain ⟨uF, hfr, hmk, iD, jD, kD, lD, mD, nD, iB, jB, kB, ⟨eG, lB, mB⟩, nB, oB, pB, qB, rB, sB⟩ := hR
       refine E_region (EL_in (.int .i64 ((w64 (o0 + (1 : Int))))) sB rfl rfl rfl ?_)
       refine EL_mw (.int .i64 ((w64 (o0 + (1 : Int))))) rfl rfl ?_
       exact EL_nil (thn_n (gE (c8, (w64 (o0 + (1 : Int)))) _ _ _ ⟨uF, hfr, hmk, iD, jD, kD, lD, mD, nD, iB, jB, kB, ⟨_, lB, mB⟩, nB, oB, pB, qB, rB, rfl⟩ h))
     ·refine E_cf t9 rfl ?_
      refine E_exit ?_
      refine thn_e ?_
      refine thn_e ?_
      refine blk_hit ?_
      obtain rfl := sinj h
      exact hQ _ _ _ ⟨oC, hfr, hmk, lA, x6, mA, y6, v8, a7, u5, ⟨_, x5, c6⟩, n9, d6, o9, p9⟩
    ·clear hx
     obtain ⟨vF, hfr, hmk, oD, t7, pD, u7, nA, x8, tB, ⟨gA, e8, uB⟩, vB, m7, xB, yB⟩ := hR
     refine E_region (EL_do .plain rfl (D_loadO (α := Fv) (g := vF) Try.isAgg101 Try.sizeOf101 tB e8 fun zC aD => ?_))
     have e4674 : zC = gA.v := RV_fv.1 aD
     clear aD
     subst zC
     obtain ⟨gp4676, hs, rp4676⟩ := OM.pub uB
     have hfr := hfr.stp hs
     have hmk := hmk.stp hs
     have t7 := t7.stp hs
     have u7 := u7.stp hs
     have x8 := x8.stp hs rfl
     have e8 := e8.stp hs rfl
     have m7 := m7.stp hs
     have ub4676 := OB.ofRV e8 rp4676
     refine EL_do .plain rfl (D_storeOc (g := gp4676) (v := gA.v) Try.sizeOf101 nA x8 rfl rp4676 fun xF kI hs b4675 cb => ?_)
     clear cb
     have hfr := hfr.stp hs
     have hmk := hmk.stp hs
     have t7 := t7.stp hs
     have u7 := u7.stp hs
     have m7 := m7.stp hs
     refine EL_nil (blk_n ?_)
     obtain rfl := sinj h
     exact hQ _ _ _ ⟨xF, hfr, hmk, oD, t7, pD, u7, nA, b4675, vB, m7, xB, yB⟩
   ·clear hx
    obtain ⟨yF, hfr, hmk, qD, rD, sD, tD, uD, vD, zB, aC, bC, cC⟩ := hR
    refine E_region (EL_in (.int .i64 ((w64 (i5 + (1 : Int))))) cC rfl rfl rfl ?_)
    refine EL_mw (.int .i64 ((w64 (i5 + (1 : Int))))) rfl rfl ?_
    exact EL_nil (thn_n (aE (k8, (w64 (i5 + (1 : Int)))) _ _ _ ⟨yF, hfr, hmk, qD, rD, sD, tD, uD, vD, zB, aC, bC, rfl⟩ h))
  ·refine E_cf l9 rfl ?_
   refine E_exit ?_
   refine thn_e ?_
   refine thn_e ?_
   refine blk_hit ?_
   obtain rfl := sinj h
   exact hQ _ _ _ ⟨y8, hfr, hmk, t8, d7⟩
 ·clear hx
  obtain ⟨zF, hfr, hmk, xD, yD⟩ := hR
  refine E_seq (E_region (EL_do .plain rfl (D_loadO (g := zF) Try.isAgg101 Try.sizeOf101 xD yD fun bD qA => ?_)))
  refine EL_at bD rfl rfl ?_
  refine EL_nil (thn_n (E_ret (endM (.inr rfl) hmk fun lI mI hs => ?_)))
  have hfr := hfr.stp hs
  have qA := qA.stp hs
  obtain rfl := sinj h
  exact end1 rfl rfl (show _ = bD from rfl) ⟨_, hfr, qA⟩
def f54 (x0 : LoomLoomMill) (x1 : Int) (x2 : List (Int × LoomRun)) : Option (Bool × (List (Int × LoomRun))) :=
 (idx ((x0).orders) x1).bind fun y4 =>
 jn (σ := (List (Int × LoomRun))) (fun j7 =>
  some (false, j7)
  ) fun n8 =>
 lp (σ := (List (Int × LoomRun)) × Int) (fun o8 (u3, o0) =>
  jn (σ := Unit) (fun (_ : Unit) =>
   jn (σ := (List (Int × LoomRun))) (fun o5 =>
    o8 (o5, (w64 (o0 + (1 : Int))))
    ) fun p8 =>
   (f52 x0).bind fun o3 =>
   lp (σ := (List (Int × LoomRun)) × Int) (fun q8 (d3, u0) =>
    bif (decide (u0 < ((o3).length : Int))) then
     jn (σ := (List (Int × LoomRun))) (fun p5 =>
      q8 (p5, (w64 (u0 + (1 : Int))))
      ) fun r8 =>
     (idx o3 u0).bind fun i3 =>
     (f52 x0).bind fun i5 =>
     (f51 x0 i5 ((mset d3 x1 ((⟨x1, i3, o0⟩ : LoomRun))))).bind fun z3 =>
     (f53 x0).bind fun t5 =>
     (idx z3 t5).bind fun y6 =>
     bif y6 then
      some (true, (mset d3 x1 ((⟨x1, i3, o0⟩ : LoomRun))))
     else
      r8 ((mset d3 x1 ((⟨x1, i3, o0⟩ : LoomRun))))
    else
     p8 (d3)
    ) big (u3, (0 : Int))
   ) fun t8 =>
  bif (decide ((w64 (o0 + (y4).Woven)) ≤ (y4).Late)) then
   t8 ()
  else
   n8 (u3)
  ) big (x2, (y4).Early)
theorem en54 : Enters Try.prog 54 := enters_of Try.func54 (by kernel_rfl) rfl
theorem wk54 {iI : Nat} {gI : Gh} {wI : World} {x0 : LoomLoomMill} {x1 : Int} {x2 : List (Int × LoomRun)} {up0 : Value} (rp0 : RV gI.m wI x0 up0) {up2 : Value} (mp2 : MP (Value.int .i64) iI gI wI x2 up2) {r : Bool × (List (Int × LoomRun))} (h : f54 x0 x1 x2 = some r) : FnM Try.prog 54 #[up0, .int .i64 (x1), up2] iI gI wI (fun g w v => v = .bool (r.1) ∧ MP (Value.int .i64) iI g w r.2 up2) := by
 unfold f54 at h
 refine fnM_of_E Try.func54 rfl (Nat.le_of_ble_eq_true rfl) fun g0 hm hfr => ?_
 have c8 := mp2
 replace mp2 := mp2.enter
 rw [← hm] at mp2
 replace hm : g0.m = gI.m := by rw [hm]
 have rp0 : RV g0.m wI x0 up0 := hm ▸ rp0
 show E _ 50 none _ _ _ _ _
 refine E_seq (E_region (EL_do .plain rfl (D_box (g := g0) rfl rp0 fun g1 w1 p1 hs q1 => ?_)))
 have hfr := hfr.ext hs
 have mp2 := mp2.ext hs
 refine EL_at (.bool false) rfl rfl ?_
 refine EL_nil (thn_n (E_seq (E_region (EL_pur (v := fPtr p1 2) (P_fieldAddr at_96_1 rfl (PT.ptr q1)) .plain rfl ?_))))
 have q2 := PT_field (part_LoomLoomMill_1).1 q1
 refine EL_do .plain rfl (D_load (g := g1) Try.isAgg25 Try.sizeOf25 rfl q2 fun v3 r3 => ?_)
 refine EL_mw (.int .i64 (x1)) rfl rfl ?_
 obtain ⟨y4, bB, h⟩ := bsome h
 refine EL_pur (v := ePtr v3 x1 5) (P_indexAddr (α := LoomOrder) Try.underlying25 Try.sizeOf82 rfl r3 rfl bB) .plain rfl ?_
 have q5 := PT_idx r3 bB
 refine EL_do .plain rfl (D_load (g := g1) Try.isAgg82 Try.sizeOf82 rfl q5 fun v6 r6 => ?_)
 refine EL_do .plain rfl (D_allocOc (g := g1) 2007 (⟨0, 0, 0, 0, 0⟩ : LoomOrder) Try.zeroValue82 (fun m w => ⟨_, (rep_two rep_int (rep_two rep_int (rep_two rep_int (rep_two rep_int rep_int)))), rfl⟩) fun g7 w7 p7 hs b7 cb => ?_)
 have hfr := hfr.stp hs
 have mp2 := mp2.stp hs rfl
 have q1 := q1.stp hs
 have r6 := r6.stp hs
 clear cb
 refine EL_do .plain rfl (D_storeOc (g := g7) (v := v6) Try.sizeOf82 rfl b7 rfl r6 fun g8 w8 hs b8 cb => ?_)
 clear cb
 have hfr := hfr.stp hs
 have mp2 := mp2.stp hs rfl
 have q1 := q1.stp hs
 refine EL_nil (thn_n (E_joinC h (fun (s : (List (Int × LoomRun))) e w => ∃ (g : Gh) , FrM iI gI wI g w ∧ e 2 = up2 ∧ MP (Value.int .i64) 1 g w (s : List (Int × LoomRun)) up2) (fun X227 n8 mA h => ?_) ?_))
 ·refine E_seq (E_region (EL_pur (v := fPtr p7 3) (P_fieldAddr at_82_3 rfl (OB.ptr b8)) .plain rfl ?_))
  refine EL_do .plain rfl (D_loadF (g := g8) part_LoomOrder_3.1 Try.isAgg3 Try.sizeOf3 rfl b8 fun iC cB => ?_)
  obtain rfl := RV_int.1 cB
  refine EL_at (.int .i64 ((y4).Early)) rfl rfl ?_
  refine EL_nil (thn_n (E_block ?_))
  refine E_lp h (fun (s : (List (Int × LoomRun)) × Int) e w => ∃ (g : Gh) , FrM iI gI wI g w ∧ e 1 = .int .i64 (x1) ∧ e 2 = up2 ∧ MP (Value.int .i64) 1 g w (s.1 : List (Int × LoomRun)) up2 ∧ e 3 = p1 ∧ PT g.m w (x0 : LoomLoomMill) p1 ∧ e 7 = p7 ∧ OB 2007 g w 82 (y4 : LoomOrder) p7 ∧ e 8 = .int .i64 (s.2)) ⟨g8, hfr, rfl, rfl, mp2, rfl, q1, rfl, b8, rfl⟩ (fun X230 o8 nA => ?_)
  rintro ⟨u3, o0⟩ yB jC ⟨z6, hfr, v8, m7, n7, x8, y8, u5, d4, o7⟩ h
  refine E_joinC h (fun (s : Unit) e w => ∃ (g : Gh) , FrM iI gI wI g w ∧ e 1 = .int .i64 (x1) ∧ e 2 = up2 ∧ MP (Value.int .i64) 1 g w (u3 : List (Int × LoomRun)) up2 ∧ e 3 = p1 ∧ PT g.m w (x0 : LoomLoomMill) p1 ∧ e 7 = p7 ∧ OB 2007 g w 82 (y4 : LoomOrder) p7 ∧ e 8 = .int .i64 (o0)) (fun X237 t8 oA h => ?_) ?_
  ·refine E_seq (E_region (EL_mv o7 rfl ?_))
   refine EL_pur (v := fPtr p7 2) (P_fieldAddr at_82_2 u5 (OB.ptr d4)) .plain rfl ?_
   refine EL_do .plain rfl (D_loadF (g := z6) part_LoomOrder_2.1 Try.isAgg3 Try.sizeOf3 rfl d4 fun kC dB => ?_)
   obtain rfl := RV_int.1 dB
   refine EL_in (.int .i64 ((w64 (o0 + (y4).Woven)))) rfl rfl rfl rfl ?_
   refine EL_pur (v := fPtr p7 4) (P_fieldAddr at_82_4 u5 (OB.ptr d4)) .plain rfl ?_
   refine EL_do .plain rfl (D_loadF (g := z6) part_LoomOrder_4.1 Try.isAgg3 Try.sizeOf3 rfl d4 fun lC eB => ?_)
   obtain rfl := RV_int.1 eB
   refine EL_pur (v := .bool ((decide ((w64 (o0 + (y4).Woven)) ≤ (y4).Late)))) (P_int rfl rfl rfl) .plain rfl ?_
   refine EL_nil (thn_n ?_)
   rcases csome h with ⟨a7, h⟩ | ⟨a7, h⟩
   ·refine E_ct a7 rfl ?_
    exact E_skip (thn_n (oA () _ _ ⟨z6, hfr, v8, m7, n7, x8, y8, u5, d4, o7⟩ h))
   ·refine E_cf a7 rfl ?_
    refine E_exit ?_
    refine thn_e ?_
    refine thn_e ?_
    refine blk_hit ?_
    exact thn_n (mA (u3) _ _ ⟨z6, hfr, m7, n7⟩ h)
  ·rintro _ zB mC ⟨z8, hfr, a9, d9, x5, q7, p4, e9, c6, g9⟩ h
   refine E_joinC h (fun (s : (List (Int × LoomRun))) e w => ∃ (g : Gh) , FrM iI gI wI g w ∧ e 1 = .int .i64 (x1) ∧ e 2 = up2 ∧ MP (Value.int .i64) 1 g w (s : List (Int × LoomRun)) up2 ∧ e 3 = p1 ∧ PT g.m w (x0 : LoomLoomMill) p1 ∧ e 7 = p7 ∧ OB 2007 g w 82 (y4 : LoomOrder) p7 ∧ e 8 = .int .i64 (o0)) (fun X344 p8 pA h => ?_) ?_
   ·refine E_block ?_
    refine E_seq (E_region (EL_do .plain rfl (D_load (g := z8) Try.isAgg96 Try.sizeOf96 q7 p4 fun iB jB => ?_)))
    obtain ⟨o3, qA, h⟩ := bsome h
    refine EL_do .plain rfl (D_call (g := z8) (vs := [iB]) en52 (.cons rfl .nil) (wk52 jB qA) fun kB aC d6 hs hr => ?_)
    have hfr := hfr.ext hs
    have x5 := x5.ext hs
    have p4 := p4.ext hs
    have c6 := c6.ext hs
    have i9 := hr
    refine EL_pur (v := .int .i64 ((o3).length : Int)) (P_len Try.underlying22 rfl i9) .plain rfl ?_
    refine EL_mw (.int .i64 (0)) rfl rfl ?_
    refine EL_nil (thn_n (E_block ?_))
    refine E_lp h (fun (s : (List (Int × LoomRun)) × Int) e w => ∃ (g : Gh) , FrM iI gI wI g w ∧ e 1 = .int .i64 (x1) ∧ e 2 = up2 ∧ MP (Value.int .i64) 1 g w (s.1 : List (Int × LoomRun)) up2 ∧ e 3 = p1 ∧ PT g.m w (x0 : LoomLoomMill) p1 ∧ e 7 = p7 ∧ OB 2007 g w 82 (y4 : LoomOrder) p7 ∧ e 8 = .int .i64 (o0) ∧ e 28 = d6 ∧ RV g.m w (o3 : List Int) d6 ∧ e 29 = .int .i64 (((o3).length : Int)) ∧ e 30 = .int .i64 (s.2)) ⟨kB, hfr, a9, d9, x5, q7, p4, e9, c6, g9, rfl, i9, rfl, rfl⟩ (fun X348 q8 rA => ?_)
    rintro ⟨d3, u0⟩ bC lB ⟨c7, hfr, z4, d5, t7, m4, j1, u7, j3, i6, l6, z2, x6, l5⟩ h
    refine E_seq (E_region (EL_in (.bool ((decide (u0 < ((o3).length : Int))))) l5 x6 rfl rfl ?_))
    refine EL_nil (thn_n (E_seq ?_))
    rcases csome h with ⟨d7, h⟩ | ⟨d7, h⟩
    ·refine E_ct d7 rfl ?_
     refine E_skip (thn_n (E_joinC h (fun (s : (List (Int × LoomRun))) e w => ∃ (g : Gh) , FrM iI gI wI g w ∧ e 1 = .int .i64 (x1) ∧ e 2 = up2 ∧ MP (Value.int .i64) 1 g w (s : List (Int × LoomRun)) up2 ∧ e 3 = p1 ∧ PT g.m w (x0 : LoomLoomMill) p1 ∧ e 7 = p7 ∧ OB 2007 g w 82 (y4 : LoomOrder) p7 ∧ e 8 = .int .i64 (o0) ∧ e 28 = d6 ∧ RV g.m w (o3 : List Int) d6 ∧ e 29 = .int .i64 (((o3).length : Int)) ∧ e 30 = .int .i64 (u0)) (fun X397 r8 sA h => ?_) ?_))
     ·refine E_block ?_
      refine E_seq (E_region ?_)
      obtain ⟨i3, e8, h⟩ := bsome h
      refine EL_pur (v := ePtr d6 u0 1) (P_indexAddr (α := Int) Try.underlying22 Try.sizeOf3 l6 z2 l5 e8) .plain rfl ?_
      have mB := PT_idx z2 e8
      refine EL_do .plain rfl (D_load (g := c7) Try.isAgg3 Try.sizeOf3 rfl mB fun nC nB => ?_)
      obtain rfl := RV_int.1 nB
      refine EL_at (.int .i64 (i3)) rfl rfl ?_
      refine EL_nil (thn_n (E_seq (E_region (EL_mv d5 rfl ?_))))
      refine EL_mv z4 rfl ?_
      refine EL_mv z4 rfl ?_
      refine EL_mw (.int .i64 (i3)) rfl rfl ?_
      refine EL_mv i6 rfl ?_
      have j9 : RV c7.m lB (⟨x1, i3, o0⟩ : LoomRun) (.agg (setCh [[.int .i64 0], [.int .i64 0], [.int .i64 0]] [(0, .int .i64 (x1)), (1, .int .i64 (i3)), (2, .int .i64 (o0))]).flatten.toArray) := RV_build rfl (rep_pair (rfl) (rep_pair (rfl) (rep_last (rfl))))
      generalize tA : (Value.agg (setCh [[.int .i64 0], [.int .i64 0], [.int .i64 0]] [(0, .int .i64 (x1)), (1, .int .i64 (i3)), (2, .int .i64 (o0))]).flatten.toArray) = oB at j9
      refine EL_pur (v := oB) (tA ▸ P_build (vs := [(0, .int .i64 (x1)), (1, .int .i64 (i3)), (2, .int .i64 (o0))]) [[.int .i64 0], [.int .i64 0], [.int .i64 0]] lay_76 rfl rfl (.cons rfl (.cons rfl (.cons rfl .nil))) ⟨⟨_, rfl, rfl⟩, ⟨⟨_, rfl, rfl⟩, ⟨⟨_, rfl, rfl⟩, trivial⟩⟩⟩) .plain rfl ?_
      refine EL_do .plain rfl (D_mapUpdate (g := c7) Try.underlying100 key_3 rfl t7 rfl rfl j9 fun pB oC hs m402 => ?_)
      have hfr := hfr.stp hs
      have j1 := j1.stp hs
      have j3 := j3.stp hs rfl
      have z2 := z2.stp hs
      refine EL_nil (thn_n (E_seq (L_load (x := .tmp 3) Try.isAgg96 Try.sizeOf96 j1 fun k9 qB uA => ?_)))
      refine L_load (x := .tmp 3) Try.isAgg96 Try.sizeOf96 j1 fun l9 rB vA => ?_
      obtain ⟨i5, xA, h⟩ := bsome h
      obtain ⟨z3, yA, h⟩ := bsome h
      refine L_load (x := .tmp 3) Try.isAgg96 Try.sizeOf96 j1 fun n9 sB zA => ?_
      obtain ⟨t5, aB, h⟩ := bsome h
      obtain ⟨y6, e7, h⟩ := bsome h
      refine E_drawL (g := pB) (n := 9) [(2, (fun v g w => RV g.m w i5 v)), (4, (fun v g w => RV g.m w z3 v)), (6, (fun v g w => v = .int .i64 (t5))), (8, (fun v _ _ => v = .bool (y6)))] [0, 1, 2, 3, 4, 5, 6, 7, 8] rfl mixed (by kernel_rfl) (⟨fun _ => up_rv, fun _ => up_rv, fun _ => up_eq _, fun _ => up_eq _, trivial⟩) ?_
      refine L_ld (c := k9) rfl rfl .plain (fun _ _ h => h.ch) uA m4 ?_
      refine L_ld (c := l9) rfl rfl .plain (fun _ _ h => h.ch) vA m4 ?_
      refine L_do (φ := fun v g w => RV g.m w i5 v) rfl rfl .plain (fun g w hd => D_call (g := g) (vs := [l9]) en52 (.cons rfl .nil) (wk52 (rB.ext hd.1) xA) fun g' w' v hs hr => ⟨g', hs, hr⟩) (fun v7 hv => ?_)
      obtain ⟨_, _, _, rq405⟩ := hv
      refine L_pur (c := up2) rfl rfl .plain (fun _ _ hd => P_move d5) ?_
      refine L_do (φ := fun v g w => RV g.m w z3 v) rfl rfl .plain (fun g w hd => D_call (g := g) (vs := [k9, v7, up2]) en51 (.cons rfl (.cons rfl (.cons rfl .nil))) (wk51 (qB.ext hd.1) (word (A := fun g w => RV g.m w i5 v7) 2 rfl rfl (deps_of hd)) (m402.ext hd.1).r yA) fun g' w' v hs hr => ⟨g', hs, hr⟩) (fun j6 hv => ?_)
      obtain ⟨_, _, _, rq407⟩ := hv
      refine L_ld (c := n9) rfl rfl .plain (fun _ _ h => h.ch) zA m4 ?_
      refine L_do (φ := fun v g w => v = .int .i64 (t5)) rfl rfl .plain (fun g w hd => D_call (g := g) (vs := [n9]) en53 (.cons rfl .nil) (wk53 (sB.ext hd.1) aB) fun g' w' v hs hr => ⟨g', hs, hr⟩) (fun qC hv => ?_)
      obtain ⟨_, _, _, rfl⟩ := hv
      refine L_pur (c := ePtr j6 t5 1) rfl rfl .plain (fun _ _ hd => P_indexAddr (α := Bool) Try.underlying101 Try.sizeOf4 rfl (word (A := fun g w => RV g.m w z3 j6) 4 rfl rfl (deps_of hd)) rfl e7) ?_
      refine L_do (φ := (fun v _ _ => v = .bool (y6))) rfl rfl .plain (fun g w hd => D_load (g := g) Try.isAgg4 Try.sizeOf4 rfl (PT_idx (word (A := fun g w => RV g.m w z3 j6) 4 rfl rfl (hop 7 rfl rfl (deps_of hd))) e7) fun v r => ⟨g, Ext.refl g w, RV_bool.1 r⟩) (fun rC hv => ?_)
      obtain ⟨_, _, _, rfl⟩ := hv
      refine L_nil fun tB sC hall => ?_
      have hs := hall.1
      have hfr := hfr.ext hs
      have m402 := m402.ext hs
      have j1 := j1.ext hs
      have j3 := j3.ext hs
      have z2 := z2.ext hs
      have tC := (word_all (A := fun g w => RV g.m w i5 v7) 2 rfl hall)
      have uC := (word_all (A := fun g w => RV g.m w z3 j6) 4 rfl hall)
      have vC := (PT_idx (word_all (A := fun g w => RV g.m w z3 j6) 4 rfl hall) e7)
      clear hs hall
      refine EL_nil (thn_n ?_)
      rcases csome h with ⟨i7, h⟩ | ⟨i7, h⟩
      ·refine E_ct i7 rfl ?_
       refine E_seq (E_region (EL_at (.bool true) rfl rfl ?_))
       refine EL_nil (thn_n (E_ret (blk_r ?_)))
       refine thn_r ?_
       refine thn_r ?_
       refine blk_r ?_
       refine blk_r ?_
       refine thn_r ?_
       refine thn_r ?_
       refine blk_r ?_
       refine thn_r ?_
       obtain rfl := sinj h
       exact end1 rfl rfl (show _ = .bool true from rfl) ⟨_, hfr, rfl, c8.back m402⟩
      ·refine E_cf i7 rfl ?_
       exact E_skip (blk_n (thn_n (sA ((mset d3 x1 ((⟨x1, i3, o0⟩ : LoomRun)))) _ _ ⟨tB, hfr, z4, d5, m402, m4, j1, u7, j3, i6, l6, z2, x6, l5⟩ h)))
     ·rintro p5 cC xC ⟨uB, hfr, o9, p9, q9, r9, t9, u9, y9, z9, i8, k8, l8, m8⟩ h
      refine E_region (EL_in (.int .i64 ((w64 (u0 + (1 : Int))))) m8 rfl rfl rfl ?_)
      refine EL_mw (.int .i64 ((w64 (u0 + (1 : Int))))) rfl rfl ?_
      exact EL_nil (thn_n (rA (p5, (w64 (u0 + (1 : Int)))) _ _ ⟨uB, hfr, o9, p9, q9, r9, t9, u9, y9, z9, i8, k8, l8, rfl⟩ h))
    ·refine E_cf d7 rfl ?_
     refine E_exit ?_
     refine thn_e ?_
     refine thn_e ?_
     refine blk_hit ?_
     exact blk_n (thn_n (pA (d3) _ _ ⟨c7, hfr, z4, d5, t7, m4, j1, u7, j3, i6⟩ h))
   ·rintro o5 dC yC ⟨vB, hfr, bA, cA, dA, eA, gA, iA, jA, kA⟩ h
    refine E_region (EL_mv kA rfl ?_)
    refine EL_in (.int .i64 ((w64 (o0 + (1 : Int))))) rfl rfl rfl rfl ?_
    refine EL_at (.int .i64 ((w64 (o0 + (1 : Int))))) rfl rfl ?_
    exact EL_nil (thn_n (nA (o5, (w64 (o0 + (1 : Int)))) _ _ ⟨vB, hfr, bA, cA, dA, eA, gA, iA, jA, rfl⟩ h))
 ·rintro j7 eC zC ⟨aD, hfr, xB, lA⟩ h
  refine E_seq (E_region (EL_at (.bool false) rfl rfl ?_))
  refine EL_nil (thn_n (E_ret ?_))
  obtain rfl := sinj h
  exact end1 rfl rfl (show _ = .bool false from rfl) ⟨_, hfr, rfl, c8.back lA⟩
def f55 (x0 : Int) (x1 : Int → Option Bool) : Option ((List Int) × Bool) :=
 Option.bind (α := (List Int) × Bool) (
  (shl64 (1 : Int) x0).bind fun q5 =>
  lp (σ := (List Int) × Bool × Int) (fun g7 (j1, o3, o0) =>
   bif (decide (o0 < q5)) then
    Option.bind (α := (List Int) × Bool) (
     (f59 o0).bind fun i3 =>
     jn (σ := Unit) (fun (_ : Unit) =>
      some (i3, true)
      ) fun i7 =>
     Option.bind (α := Bool) (
      bif o3 then
       bif (decide (((i3).length : Int) > ((j1).length : Int))) then
        some (true)
       else
        bif (((i3).length : Int) == ((j1).length : Int)) then
         (f85 i3 j1).bind fun p5 =>
         bif (decide (p5 > (0 : Int))) then
          some (true)
         else
          (x1 o0).bind fun j6 =>
          some ((!j6))
        else
         (x1 o0).bind fun l6 =>
         some ((!l6))
      else
       (x1 o0).bind fun v6 =>
       some ((!v6))
      ) fun l5 =>
     bif l5 then
      some (j1, o3)
     else
      i7 ()
     ) fun (u5, x5) =>
    g7 (u5, x5, (w64 (o0 + (1 : Int))))
   else
    some (j1, o3)
   ) big ([], false, (0 : Int))
  ) fun (c6, t5) =>
 some (c6, t5)
theorem en55 : Enters Try.prog 55 := enters_of Try.func55 (by kernel_rfl) rfl
theorem wk55 {gI : Gh} {wI : World} {x0 : Int} {x1 : Int → Option Bool} {up1 : Value} (rp1 : FnV1 Try.prog x1 up1 gI wI) {r : (List Int) × Bool} (h : f55 x0 x1 = some r) : Fn Try.prog 55 #[.int .i64 (x0), up1] gI wI (fun m w v => ∃ y0 y1, v = .tuple #[y0, y1] ∧ RV m w (r.1) y0 ∧ y1 = .bool (r.2)) := by
 unfold f55 at h
 refine fn_of_E Try.func55 rfl (Nat.le_of_ble_eq_true rfl) fun g0 hm hfr => ?_
 obtain ⟨ff1, fa1, fc1, rfl, fen1, fcl1⟩ := rp1
 show E _ 46 none _ _ _ _ _
 refine E_seq (E_region (EL_at (.slice none 0 0) rfl rfl ?_))
 refine EL_at (.bool false) rfl rfl ?_
 refine EL_nil (thn_n ?_)
 obtain ⟨⟨c6, t5⟩, hx, h⟩ := bsome h
 refine E_join (fun e w => ∃ (g : Gh) (v4 : Value), Fr gI wI g w ∧ e 4 = v4 ∧ RV g.m w (c6 : List Int) v4 ∧ e 5 = .bool (t5)) (fun Q' hQ => ?_) (fun n9 y9 hR => ?_)
 ·replace h := hx
  clear hx
  refine E_seq (E_region (EL_mw (.int .i64 (x0)) rfl rfl ?_))
  obtain ⟨q5, t8, h⟩ := bsome h
  refine EL_pur (v := .int .i64 (q5)) (P_int rfl rfl (congrArg (Option.map (Value.int .i64)) t8)) .plain rfl ?_
  refine EL_mw (.int .i64 (0)) rfl rfl ?_
  refine EL_nil (thn_n (E_block ?_))
  refine E_lp h (fun (s : (List Int) × Bool × Int) e w => ∃ (g : Gh) (v4 : Value), Fr gI wI g w ∧ e 1 = (.func (.func ff1) fa1 fc1) ∧ e 4 = v4 ∧ RV g.m w (s.1 : List Int) v4 ∧ e 5 = .bool (s.2.1) ∧ e 9 = .int .i64 (q5) ∧ e 10 = .int .i64 (s.2.2)) ⟨g0, (.slice none 0 0), hfr, rfl, rfl, RV_nil, rfl, rfl, rfl⟩ (fun X351 g7 v8 => ?_)
  rintro ⟨j1, o3, o0⟩ o9 z9 ⟨j7, p4, hfr, z4, u3, u0, d5, o5, m4⟩ h
  refine E_seq (E_region (EL_in (.bool ((decide (o0 < q5)))) m4 o5 rfl rfl ?_))
  refine EL_nil (thn_n (E_seq ?_))
  rcases csome h with ⟨x6, h⟩ | ⟨x6, h⟩
  ·refine E_ct x6 rfl ?_
   refine E_skip (thn_n ?_)
   obtain ⟨⟨u5, x5⟩, hx, h⟩ := bsome h
   refine E_join (fun e w => ∃ (g : Gh) (v4 : Value), Fr gI wI g w ∧ e 1 = (.func (.func ff1) fa1 fc1) ∧ e 4 = v4 ∧ RV g.m w (u5 : List Int) v4 ∧ e 5 = .bool (x5) ∧ e 9 = .int .i64 (q5) ∧ e 10 = .int .i64 (o0)) (fun Q' hQ => ?_) (fun p9 bA hR => ?_)
   ·replace h := hx
    clear hx
    refine E_block ?_
    refine E_seq (E_region (EL_mv m4 rfl ?_))
    refine EL_at (.int .i64 (o0)) rfl rfl ?_
    refine EL_nil (thn_n (E_seq (E_region (EL_mw (.int .i64 (o0)) rfl rfl ?_))))
    obtain ⟨i3, x8, h⟩ := bsome h
    refine EL_do .plain rfl (D_call (g := j7) (vs := [.int .i64 (o0)]) en59 (.cons rfl .nil) (wk59  x8) fun y6 q9 i5 hs hr => ?_)
    have hfr := hfr.ext hs
    have u0 := u0.ext hs
    have j3 := hr
    refine EL_at i5 rfl rfl ?_
    refine EL_nil (thn_n (E_joinC h (fun (s : Unit) e w => ∃ (g : Gh) , Fr gI wI g w ∧ e 1 = (.func (.func ff1) fa1 fc1) ∧ e 7 = i5 ∧ RV g.m w (i3 : List Int) i5 ∧ e 9 = .int .i64 (q5) ∧ e 10 = .int .i64 (o0)) (fun X438 i7 y8 h => ?_) ?_))
    ·obtain ⟨l5, hx, h⟩ := bsome h
     refine E_join (fun e w => ∃ (g : Gh) , Fr gI wI g w ∧ e 1 = (.func (.func ff1) fa1 fc1) ∧ e 4 = p4 ∧ RV g.m w (j1 : List Int) p4 ∧ e 5 = .bool (o3) ∧ e 7 = i5 ∧ RV g.m w (i3 : List Int) i5 ∧ e 9 = .int .i64 (q5) ∧ e 10 = .int .i64 (o0) ∧ e 41 = .bool (l5)) (fun Q' hQ => ?_) (fun r9 cA hR => ?_)
     ·replace h := hx
      clear hx
      refine E_region (EL_mv d5 rfl ?_)
      refine EL_mw (.bool (o3)) rfl rfl ?_
      rcases csome h with ⟨z2, h⟩ | ⟨z2, h⟩
      ·refine EL_pur (v := i5) (P_move rfl) (.yes2 rfl rfl z2) rfl ?_
       refine EL_pur (v := .int .i64 ((i3).length : Int)) (P_len Try.underlying22 rfl j3) (.yes2 rfl rfl z2) rfl ?_
       refine EL_pur (v := p4) (P_move u3) (.yes2 rfl rfl z2) rfl ?_
       refine EL_pur (v := .int .i64 ((j1).length : Int)) (P_len Try.underlying22 rfl u0) (.yes2 rfl rfl z2) rfl ?_
       refine EL_pur (v := .bool ((decide (((i3).length : Int) > ((j1).length : Int))))) (P_int rfl rfl rfl) (.yes2 rfl rfl z2) rfl ?_
       refine EL_pur (v := .bool ((decide (((i3).length : Int) > ((j1).length : Int))))) (P_move rfl) (.yes2 rfl rfl z2) rfl ?_
       rcases csome h with ⟨d3, h⟩ | ⟨d3, h⟩
       ·refine EL_skip (.no2 rfl rfl d3 rfl) rfl ?_
        refine EL_skip (.no2 rfl rfl d3 rfl) rfl ?_
        refine EL_skip (.no2 rfl rfl d3 rfl) rfl ?_
        refine EL_skip (.no2 rfl rfl d3 rfl) rfl ?_
        refine EL_skip (.no2 rfl rfl d3 rfl) rfl ?_
        refine EL_skip (.no2 rfl rfl d3 rfl) rfl ?_
        refine EL_dead 4 rfl ?_
        refine EL_skip (.no2 rfl rfl d3 rfl) rfl ?_
        refine EL_pur (v := .bool true) (P_pick (b := (decide (((i3).length : Int) > ((j1).length : Int)))) rfl (pick_t d3 rfl)) (.yes2 rfl rfl z2) rfl ?_
        refine EL_pur (v := .bool true) (P_pick (b := o3) rfl (pick_t z2 rfl)) .plain rfl ?_
        refine EL_dead 6 rfl ?_
        refine EL_nil ?_
        obtain rfl := sinj h
        exact hQ _ _ ⟨y6, hfr, z4, u3, u0, d5, rfl, j3, o5, m4, rfl⟩
       ·refine EL_pur (v := i5) (P_move rfl) (.yes2 rfl rfl d3) rfl ?_
        refine EL_pur (v := .int .i64 ((i3).length : Int)) (P_len Try.underlying22 rfl j3) (.yes2 rfl rfl d3) rfl ?_
        refine EL_pur (v := p4) (P_move u3) (.yes2 rfl rfl d3) rfl ?_
        refine EL_pur (v := .int .i64 ((j1).length : Int)) (P_len Try.underlying22 rfl u0) (.yes2 rfl rfl d3) rfl ?_
        refine EL_pur (v := .bool ((((i3).length : Int) == ((j1).length : Int)))) (P_int rfl rfl rfl) (.yes2 rfl rfl d3) rfl ?_
        refine EL_pur (v := .bool ((((i3).length : Int) == ((j1).length : Int)))) (P_move rfl) (.yes2 rfl rfl d3) rfl ?_
        rcases csome h with ⟨z3, h⟩ | ⟨z3, h⟩
        ·refine EL_pur (v := i5) (P_move rfl) (.yes2 rfl rfl z3) rfl ?_
         refine EL_pur (v := p4) (P_move u3) (.yes2 rfl rfl z3) rfl ?_
         obtain ⟨p5, z8, h⟩ := bsome h
         refine EL_do (.yes2 rfl rfl z3) rfl (D_call (g := y6) (vs := [i5, p4]) en85 (.cons rfl (.cons rfl .nil)) (wk85 j3 u0 z8) fun m7 t9 dA hs hr => ?_)
         have hfr := hfr.ext hs
         have u0 := u0.ext hs
         have j3 := j3.ext hs
         subst hr
         refine EL_pur (v := .bool ((decide (p5 > (0 : Int))))) (P_int rfl rfl rfl) (.yes2 rfl rfl z3) rfl ?_
         refine EL_pur (v := .bool ((decide (p5 > (0 : Int))))) (P_pick (b := (((i3).length : Int) == ((j1).length : Int))) rfl (pick_t z3 rfl)) (.yes2 rfl rfl d3) rfl ?_
         refine EL_pur (v := .bool ((decide (p5 > (0 : Int))))) (P_pick (b := (decide (((i3).length : Int) > ((j1).length : Int)))) rfl (pick_f d3 rfl)) (.yes2 rfl rfl z2) rfl ?_
         refine EL_pur (v := .bool ((decide (p5 > (0 : Int))))) (P_pick (b := o3) rfl (pick_t z2 rfl)) .plain rfl ?_
         refine EL_mw (.bool ((decide (p5 > (0 : Int))))) rfl rfl ?_
         rcases csome h with ⟨d4, h⟩ | ⟨d4, h⟩
         ·refine EL_skip (.no2 rfl rfl d4 rfl) rfl ?_
          refine EL_skip (.no2 rfl rfl d4 rfl) rfl ?_
          refine EL_skip (.no2 rfl rfl d4 rfl) rfl ?_
          refine EL_skip (.no2 rfl rfl d4 rfl) rfl ?_
          refine EL_pur (v := .bool true) (P_pick (b := (decide (p5 > (0 : Int)))) rfl (pick_t d4 rfl)) .plain rfl ?_
          refine EL_nil ?_
          obtain rfl := sinj h
          exact hQ _ _ ⟨m7, hfr, z4, u3, u0, d5, rfl, j3, o5, m4, rfl⟩
         ·refine EL_pur (v := (.func (.func ff1) fa1 fc1)) (P_move z4) (.yes2 rfl rfl d4) rfl ?_
          refine EL_pur (v := .int .i64 (o0)) (P_move rfl) (.yes2 rfl rfl d4) rfl ?_
          obtain ⟨j6, a9, h⟩ := bsome h
          refine EL_do (.yes2 rfl rfl d4) rfl (D_callv (g := m7) (vs := [.int .i64 (o0)]) rfl fen1 (.cons rfl .nil) (fcl1 _ _ hfr.ch _ _ _  (RV_int.2 rfl) a9) fun g9 eA gA hs hr => ?_)
          have hfr := hfr.ext hs
          have u0 := u0.ext hs
          have j3 := j3.ext hs
          obtain rfl := RV_bool.1 hr
          refine EL_pur (v := .bool (!j6)) (P_not rfl) (.yes2 rfl rfl d4) rfl ?_
          refine EL_pur (v := .bool (!j6)) (P_pick (b := (decide (p5 > (0 : Int)))) rfl (pick_f d4 rfl)) .plain rfl ?_
          refine EL_nil ?_
          obtain rfl := sinj h
          exact hQ _ _ ⟨g9, hfr, z4, u3, u0, d5, rfl, j3, o5, m4, rfl⟩
        ·refine EL_skip (.no2 rfl rfl z3 rfl) rfl ?_
         refine EL_skip (.no2 rfl rfl z3 rfl) rfl ?_
         refine EL_skip (.no2 rfl rfl z3 rfl) rfl ?_
         refine EL_skip (.no2 rfl rfl z3 rfl) rfl ?_
         refine EL_pur (v := .bool false) (P_pick (b := (((i3).length : Int) == ((j1).length : Int))) rfl (pick_f z3 rfl)) (.yes2 rfl rfl d3) rfl ?_
         refine EL_pur (v := .bool false) (P_pick (b := (decide (((i3).length : Int) > ((j1).length : Int)))) rfl (pick_f d3 rfl)) (.yes2 rfl rfl z2) rfl ?_
         refine EL_pur (v := .bool false) (P_pick (b := o3) rfl (pick_t z2 rfl)) .plain rfl ?_
         refine EL_mw (.bool false) rfl rfl ?_
         refine EL_pur (v := (.func (.func ff1) fa1 fc1)) (P_move z4) (.yes2 rfl rfl rfl) rfl ?_
         refine EL_pur (v := .int .i64 (o0)) (P_move rfl) (.yes2 rfl rfl rfl) rfl ?_
         obtain ⟨l6, d9, h⟩ := bsome h
         refine EL_do (.yes2 rfl rfl rfl) rfl (D_callv (g := y6) (vs := [.int .i64 (o0)]) rfl fen1 (.cons rfl .nil) (fcl1 _ _ hfr.ch _ _ _  (RV_int.2 rfl) d9) fun i9 iA jA hs hr => ?_)
         have hfr := hfr.ext hs
         have u0 := u0.ext hs
         have j3 := j3.ext hs
         obtain rfl := RV_bool.1 hr
         refine EL_pur (v := .bool (!l6)) (P_not rfl) (.yes2 rfl rfl rfl) rfl ?_
         refine EL_pur (v := .bool (!l6)) (P_pick (b := false) rfl (pick_f rfl rfl)) .plain rfl ?_
         refine EL_nil ?_
         obtain rfl := sinj h
         exact hQ _ _ ⟨i9, hfr, z4, u3, u0, d5, rfl, j3, o5, m4, rfl⟩
      ·refine EL_skip (.no2 rfl rfl z2 rfl) rfl ?_
       refine EL_skip (.no2 rfl rfl z2 rfl) rfl ?_
       refine EL_skip (.no2 rfl rfl z2 rfl) rfl ?_
       refine EL_skip (.no2 rfl rfl z2 rfl) rfl ?_
       refine EL_skip (.no2 rfl rfl z2 rfl) rfl ?_
       refine EL_skip (.no2 rfl rfl z2 rfl) rfl ?_
       refine EL_dead 11 rfl ?_
       refine EL_skip (.no2 rfl rfl z2 rfl) rfl ?_
       refine EL_pur (v := .bool false) (P_pick (b := o3) rfl (pick_f z2 rfl)) .plain rfl ?_
       refine EL_mw (.bool false) rfl rfl ?_
       refine EL_pur (v := (.func (.func ff1) fa1 fc1)) (P_move z4) (.yes2 rfl rfl rfl) rfl ?_
       refine EL_pur (v := .int .i64 (o0)) (P_move rfl) (.yes2 rfl rfl rfl) rfl ?_
       obtain ⟨v6, e9, h⟩ := bsome h
       refine EL_do (.yes2 rfl rfl rfl) rfl (D_callv (g := y6) (vs := [.int .i64 (o0)]) rfl fen1 (.cons rfl .nil) (fcl1 _ _ hfr.ch _ _ _  (RV_int.2 rfl) e9) fun j9 kA lA hs hr => ?_)
       have hfr := hfr.ext hs
       have u0 := u0.ext hs
       have j3 := j3.ext hs
       obtain rfl := RV_bool.1 hr
       refine EL_pur (v := .bool (!v6)) (P_not rfl) (.yes2 rfl rfl rfl) rfl ?_
       refine EL_pur (v := .bool (!v6)) (P_pick (b := false) rfl (pick_f rfl rfl)) .plain rfl ?_
       refine EL_nil ?_
       obtain rfl := sinj h
       exact hQ _ _ ⟨j9, hfr, z4, u3, u0, d5, rfl, j3, o5, m4, rfl⟩
     ·clear hx
      obtain ⟨n7, hfr, a7, o7, p7, q7, t7, u7, b7, d6, i6⟩ := hR
      rcases csome h with ⟨z6, h⟩ | ⟨z6, h⟩
      ·refine E_cond_true (Eq.trans (show ev _ _ = .bool (l5) from i6) (congrArg Value.bool z6)) ?_
       refine E_exit ?_
       refine thn_e ?_
       refine blk_hit ?_
       obtain ⟨rfl, rfl⟩ := pairs2 h
       exact hQ _ _ ⟨n7, (p4), hfr, a7, o7, p7, q7, b7, d6⟩
      ·refine E_cond_false (Eq.trans (show ev _ _ = .bool (l5) from i6) (congrArg Value.bool z6)) ?_
       exact E_skip (thn_n (y8 () _ _ ⟨n7, hfr, a7, t7, u7, b7, d6⟩ h))
    ·rintro _ u9 mA ⟨k9, hfr, v7, c8, e8, g8, d7⟩ h
     refine E_region (EL_mv c8 rfl ?_)
     refine EL_at i5 rfl rfl ?_
     refine EL_at (.bool true) rfl rfl ?_
     refine EL_nil (blk_n ?_)
     obtain ⟨rfl, rfl⟩ := pairs2 h
     exact hQ _ _ ⟨k9, (i5), hfr, v7, rfl, e8, rfl, g8, d7⟩
   ·clear hx
    obtain ⟨l9, i8, hfr, k8, l8, m8, n8, o8, e7⟩ := hR
    refine E_region (EL_in (.int .i64 ((w64 (o0 + (1 : Int))))) e7 rfl rfl rfl ?_)
    refine EL_mw (.int .i64 ((w64 (o0 + (1 : Int))))) rfl rfl ?_
    exact EL_nil (thn_n (v8 (u5, x5, (w64 (o0 + (1 : Int)))) _ _ ⟨l9, (i8), hfr, k8, l8, m8, n8, o8, rfl⟩ h))
  ·refine E_cf x6 rfl ?_
   refine E_exit ?_
   refine thn_e ?_
   refine thn_e ?_
   refine blk_hit ?_
   obtain ⟨rfl, rfl⟩ := pairs2 h
   exact hQ _ _ ⟨j7, (p4), hfr, u3, u0, d5⟩
 ·clear hx
  obtain ⟨nA, c7, hfr, p8, q8, r8⟩ := hR
  refine E_seq (E_region (EL_mv p8 rfl ?_))
  refine EL_mv r8 rfl ?_
  refine EL_at c7 rfl rfl ?_
  refine EL_at (.bool (t5)) rfl rfl ?_
  refine EL_nil (thn_n (E_ret ?_))
  obtain rfl := sinj h
  exact end2 rfl rfl (show _ = c7 from rfl) (show _ = .bool (t5) from rfl) ⟨_, hfr, _, _, rfl, q8, rfl⟩
def f58 (x0 : Int) (z0 : LoomLoomMill) : Option (Bool) :=
 (f59 x0).bind fun y3 =>
 (f51 z0 y3 ([])).bind fun y5 =>
 (f53 z0).bind fun y8 =>
 (idx y5 y8).bind fun y9 =>
 some (y9)
theorem en58 : Enters Try.prog 58 := enters_of Try.func58 (by kernel_rfl) rfl
theorem wk58 {gI : Gh} {wI : World} {x0 : Int} {z0 : LoomLoomMill} {pf0 : Value} (qf0 : PT gI.m wI z0 pf0) {r : Bool} (h : f58 x0 z0 = some r) : Fn Try.prog 58 #[.int .i64 (x0), pf0] gI wI (fun _ _ v => v = .bool (r)) := by
 unfold f58 at h
 refine fn_of_E Try.func58 rfl (Nat.le_of_ble_eq_true rfl) fun g0 hm hfr => ?_
 have qf0 : PT g0.m wI z0 pf0 := hm ▸ qf0
 show E _ 12 none _ _ _ _ _
 refine E_seq (E_region (EL_at (.bool false) rfl rfl ?_))
 refine EL_nil (thn_n (E_seq (L_load (x := .tmp 1) Try.isAgg96 Try.sizeOf96 qf0 fun v1 r1 hl1 => ?_)))
 obtain ⟨y3, hy3, h⟩ := bsome h
 obtain ⟨y5, hy5, h⟩ := bsome h
 refine L_load (x := .tmp 1) Try.isAgg96 Try.sizeOf96 qf0 fun v6 r6 u0 => ?_
 obtain ⟨y8, j1, h⟩ := bsome h
 obtain ⟨y9, o0, h⟩ := bsome h
 refine E_drawL (g := g0) (n := 9) [(2, (fun v g w => RV g.m w y3 v)), (3, (fun v g w => RV g.m w y5 v)), (5, (fun v g w => v = .int .i64 (y8))), (7, (fun v _ _ => v = .bool (y9)))] [0, 1, 2, 3, 4, 5, 6, 7, 8] rfl mixed (by kernel_rfl) (⟨fun _ => up_rv, fun _ => up_rv, fun _ => up_eq _, fun _ => up_eq _, trivial⟩) ?_
 refine L_ld (c := v1) rfl rfl .plain (fun _ _ h => h.ch) hl1 rfl ?_
 refine L_pur (c := .int .i64 (x0)) rfl rfl .plain (fun _ _ hd => P_move rfl) ?_
 refine L_do (φ := fun v g w => RV g.m w y3 v) rfl rfl .plain (fun g w hd => D_call (g := g) (vs := [.int .i64 (x0)]) en59 (.cons rfl .nil) (wk59  hy3) fun g' w' v hs hr => ⟨g', hs, hr⟩) (fun v2 hv => ?_)
 obtain ⟨_, _, _, rq2⟩ := hv
 refine L_do (φ := fun v g w => RV g.m w y5 v) rfl rfl .plain (fun g w hd => D_call (g := g) (vs := [v1, v2, .map none]) en51 (.cons rfl (.cons rfl (.cons rfl .nil))) (wk51 (r1.ext hd.1) (word (A := fun g w => RV g.m w y3 v2) 2 rfl rfl (deps_of hd)) MR.nil hy5) fun g' w' v hs hr => ⟨g', hs, hr⟩) (fun v4 hv => ?_)
 obtain ⟨_, _, _, rq4⟩ := hv
 refine L_ld (c := v6) rfl rfl .plain (fun _ _ h => h.ch) u0 rfl ?_
 refine L_do (φ := fun v g w => v = .int .i64 (y8)) rfl rfl .plain (fun g w hd => D_call (g := g) (vs := [v6]) en53 (.cons rfl .nil) (wk53 (r6.ext hd.1) j1) fun g' w' v hs hr => ⟨g', hs, hr⟩) (fun v7 hv => ?_)
 obtain ⟨_, _, _, rfl⟩ := hv
 refine L_pur (c := ePtr v4 y8 1) rfl rfl .plain (fun _ _ hd => P_indexAddr (α := Bool) Try.underlying101 Try.sizeOf4 rfl (word (A := fun g w => RV g.m w y5 v4) 3 rfl rfl (deps_of hd)) rfl o0) ?_
 refine L_do (φ := (fun v _ _ => v = .bool (y9))) rfl rfl .plain (fun g w hd => D_load (g := g) Try.isAgg4 Try.sizeOf4 rfl (PT_idx (word (A := fun g w => RV g.m w y5 v4) 3 rfl rfl (hop 6 rfl rfl (deps_of hd))) o0) fun v r => ⟨g, Ext.refl g w, RV_bool.1 r⟩) (fun z2 hv => ?_)
 obtain ⟨_, _, _, rfl⟩ := hv
 refine L_pur (c := .bool (y9)) rfl rfl .plain (fun _ _ hd => P_assign rfl) ?_
 refine L_nil fun d3 i3 hall => ?_
 have hs := hall.1
 have hfr := hfr.ext hs
 have j3 := (word_all (A := fun g w => RV g.m w y3 v2) 2 rfl hall)
 have o3 := (word_all (A := fun g w => RV g.m w y5 v4) 3 rfl hall)
 have u3 := (PT_idx (word_all (A := fun g w => RV g.m w y5 v4) 3 rfl hall) o0)
 clear hs hall
 refine EL_nil (thn_n (E_ret ?_))
 obtain rfl := sinj h
 exact end1 rfl rfl (show _ = .bool (y9) from rfl) ⟨_, hfr, rfl⟩
def f68 (x0 : List LoomRun) (x1 : Int) : Option ((List Int)) :=
 Option.bind (α := (List Int)) (
  lp (σ := (List Int) × Int) (fun g7 (i3, o0) =>
   bif (decide (o0 < ((x0).length : Int))) then
    Option.bind (α := (List Int)) (
     (idx x0 o0).bind fun q5 =>
     bif ((q5).Loom == x1) then
      (apnd 8 i3 (([o0] : List Int))).bind fun y55 =>
      some (y55)
     else
      some (i3)
     ) fun j3 =>
    g7 (j3, (w64 (o0 + (1 : Int))))
   else
    some (i3)
   ) big (([] : List Int), (0 : Int))
  ) fun o3 =>
 (f87 o3 ((fun a0 a1 => f88 a0 a1 x0))).bind fun i7 =>
 some (i7)
theorem en68 : Enters Try.prog 68 := enters_of Try.func68 (by kernel_rfl) rfl
theorem wk68 {gI : Gh} {wI : World} {x0 : List LoomRun} {x1 : Int} {up0 : Value} (rp0 : RV gI.m wI x0 up0) {r : (List Int)} (h : f68 x0 x1 = some r) : Fn Try.prog 68 #[up0, .int .i64 (x1)] gI wI (fun m w v => RV m w (r) v) := by
 unfold f68 at h
 refine fn_of_E Try.func68 rfl (Nat.le_of_ble_eq_true rfl) fun g0 hm hfr => ?_
 have rp0 : RV g0.m wI x0 up0 := hm ▸ rp0
 show E _ 27 none _ _ _ _ _
 refine E_seq (E_region (EL_do .plain rfl (D_box (g := g0) rfl rp0 fun g1 w1 p1 hs q1 => ?_)))
 have hfr := hfr.ext hs
 refine EL_at (.slice none 0 0) rfl rfl ?_
 have b2 : OA 4004 g1 w1 3 ([] : List Int) (.slice none 0 0) := OA.nil
 refine EL_nil (thn_n ?_)
 obtain ⟨o3, hx, h⟩ := bsome h
 refine E_join (fun e w => ∃ (g : Gh) (v4 : Value), Fr gI wI g w ∧ e 2 = p1 ∧ PT g.m w (x0 : List LoomRun) p1 ∧ e 4 = v4 ∧ OA 4004 g w 3 (o3 : List Int) v4) (fun Q' hQ => ?_) (fun m8 q8 hR => ?_)
 ·replace h := hx
  clear hx
  refine E_seq (E_region (EL_do .plain rfl (D_load (g := g1) Try.isAgg31 Try.sizeOf31 rfl q1 fun d5 j7 => ?_)))
  refine EL_pur (v := .int .i64 ((x0).length : Int)) (P_len Try.underlying31 rfl j7) .plain rfl ?_
  refine EL_mw (.int .i64 (0)) rfl rfl ?_
  refine EL_nil (thn_n (E_block ?_))
  refine E_lp h (fun (s : (List Int) × Int) e w => ∃ (g : Gh) (v4 : Value), Fr gI wI g w ∧ e 1 = .int .i64 (x1) ∧ e 2 = p1 ∧ PT g.m w (x0 : List LoomRun) p1 ∧ e 4 = v4 ∧ OA 4004 g w 3 (s.1 : List Int) v4 ∧ e 7 = d5 ∧ RV g.m w (x0 : List LoomRun) d5 ∧ e 8 = .int .i64 (((x0).length : Int)) ∧ e 9 = .int .i64 (s.2)) ⟨g1, (.slice none 0 0), hfr, rfl, rfl, q1, rfl, b2, rfl, j7, rfl, rfl⟩ (fun X31 g7 n7 => ?_)
  rintro ⟨i3, o0⟩ n8 r8 ⟨t5, o5, hfr, u3, z3, j1, d4, z2, m4, u0, p4, d3⟩ h
  refine E_seq (E_region (EL_in (.bool ((decide (o0 < ((x0).length : Int))))) d3 p4 rfl rfl ?_))
  refine EL_nil (thn_n (E_seq ?_))
  rcases csome h with ⟨i5, h⟩ | ⟨i5, h⟩
  ·refine E_ct i5 rfl ?_
   refine E_skip (thn_n ?_)
   obtain ⟨j3, hx, h⟩ := bsome h
   refine E_join (fun e w => ∃ (g : Gh) (v4 : Value), Fr gI wI g w ∧ e 1 = .int .i64 (x1) ∧ e 2 = p1 ∧ PT g.m w (x0 : List LoomRun) p1 ∧ e 4 = v4 ∧ OA 4004 g w 3 (j3 : List Int) v4 ∧ e 7 = d5 ∧ RV g.m w (x0 : List LoomRun) d5 ∧ e 8 = .int .i64 (((x0).length : Int)) ∧ e 9 = .int .i64 (o0)) (fun Q' hQ => ?_) (fun o8 t8 hR => ?_)
   ·replace h := hx
    clear hx
    refine E_block ?_
    refine E_seq (E_region (EL_mv d3 rfl ?_))
    obtain ⟨q5, u5, h⟩ := bsome h
    refine EL_pur (v := ePtr d5 o0 3) (P_indexAddr (α := LoomRun) Try.underlying31 Try.sizeOf76 m4 u0 d3 u5) .plain rfl ?_
    have q7 := PT_idx u0 u5
    refine EL_do .plain rfl (D_load (g := t5) Try.isAgg76 Try.sizeOf76 rfl q7 fun t7 x5 => ?_)
    refine EL_do .plain rfl (D_allocOc (g := t5) 2006 (⟨0, 0, 0⟩ : LoomRun) Try.zeroValue76 (fun m w => ⟨_, (rep_two rep_int (rep_two rep_int rep_int)), rfl⟩) fun u7 v8 v7 hs b48 cb => ?_)
    have hfr := hfr.stp hs
    have j1 := j1.stp hs
    have z2 := z2.stp hs rfl
    have u0 := u0.stp hs
    have x5 := x5.stp hs
    clear cb
    refine EL_at (.int .i64 (o0)) rfl rfl ?_
    refine EL_do .plain rfl (D_storeOc (g := u7) (v := t7) Try.sizeOf76 rfl b48 rfl x5 fun c6 x8 hs b49 cb => ?_)
    clear cb
    have hfr := hfr.stp hs
    have j1 := j1.stp hs
    have z2 := z2.stp hs rfl
    have u0 := u0.stp hs
    refine EL_nil (thn_n (E_seq (E_region (EL_pur (v := fPtr v7 1) (P_fieldAddr at_76_1 rfl (OB.ptr b49)) .plain rfl ?_))))
    refine EL_do .plain rfl (D_loadF (g := c6) part_LoomRun_1.1 Try.isAgg3 Try.sizeOf3 rfl b49 fun y8 c8 => ?_)
    obtain rfl := RV_int.1 c8
    refine EL_mv u3 rfl ?_
    refine EL_in (.bool (((q5).Loom == x1))) rfl rfl rfl rfl ?_
    refine EL_nil (thn_n ?_)
    rcases csome h with ⟨l5, h⟩ | ⟨l5, h⟩
    ·refine E_ct l5 rfl ?_
     refine E_region (EL_mv d4 rfl ?_)
     refine EL_mw (.int .i64 (o0)) rfl rfl ?_
     refine EL_do .plain rfl (D_buildSlice (g := c6) 3020 (xs := ([o0] : List Int)) (vs := [.int .i64 (o0)]) Try.underlying22 Try.sizeOf3 Try.zeroValue3 rfl rfl (.cons rfl .nil) (RVs.cons (RV_int.2 rfl) RVs.nil) rfl rfl fun e8 z8 a9 hs o53 g8 hxt hfl => ?_)
     have hfr := hfr.stp hs
     have j1 := j1.stp hs
     have z2 := z2.stp hs rfl
     have u0 := u0.stp hs
     obtain ⟨y55, o7, h⟩ := bsome h
     refine EL_do .plain rfl (D_appendA (g := e8) plain_int (i := 4004) Try.underlying22 info_3 rfl rfl z2 rfl g8 o7 fun i8 d9 m7 hs b54 => ?_)
     have hfr := hfr.stp hs
     have j1 := j1.stp hs
     have u0 := u0.stp hs
     refine EL_at m7 rfl rfl ?_
     refine EL_nil (blk_n ?_)
     obtain rfl := sinj h
     exact hQ _ _ ⟨i8, (m7), hfr, u3, z3, j1, rfl, b54, m4, u0, p4, d3⟩
    ·refine E_cf l5 rfl ?_
     refine E_skip (blk_n ?_)
     obtain rfl := sinj h
     exact hQ _ _ ⟨c6, (o5), hfr, u3, z3, j1, d4, z2, m4, u0, p4, d3⟩
   ·clear hx
    obtain ⟨k8, d6, hfr, i6, j6, l6, v6, x6, y6, z6, a7, b7⟩ := hR
    refine E_region (EL_in (.int .i64 ((w64 (o0 + (1 : Int))))) b7 rfl rfl rfl ?_)
    refine EL_mw (.int .i64 ((w64 (o0 + (1 : Int))))) rfl rfl ?_
    exact EL_nil (thn_n (n7 (j3, (w64 (o0 + (1 : Int)))) _ _ ⟨k8, (d6), hfr, i6, j6, l6, v6, x6, y6, z6, a7, rfl⟩ h))
  ·refine E_cf i5 rfl ?_
   refine E_exit ?_
   refine thn_e ?_
   refine thn_e ?_
   refine blk_hit ?_
   obtain rfl := sinj h
   exact hQ _ _ ⟨t5, (o5), hfr, z3, j1, d4, z2⟩
 ·clear hx
  obtain ⟨l8, z4, hfr, c7, d7, p5, e7⟩ := hR
  refine E_seq (E_region (EL_mv p5 rfl ?_))
  refine EL_pur (v := (.func (.func 88) #[] #[p1])) (P_makeFunc (capf_0_1 (show ev _ _ = p1 from c7))) .plain rfl ?_
  obtain ⟨i7, p7, h⟩ := bsome h
  refine EL_do .plain rfl (D_callM (g := l8) (i := 4004) (vs := [z4, (.func (.func 88) #[] #[p1])]) en87 (.cons rfl (.cons rfl .nil)) (wk87 (e7.toM) ⟨88, #[], #[p1], rfl, en88, fun g' w' hch a0 a1 b0 b1 r hu0 hu1 hr => by obtain rfl := RV_int.1 hu0; obtain rfl := RV_int.1 hu1; exact Fn.mono (wk88  (d7.ch hch) hr) fun _ _ _ h => RV_int.2 h⟩ p7) fun e9 p8 g9 hs hr => ?_)
  obtain ⟨hrv, b58⟩ := hr
  have hfr := hfr.stp hs
  subst hrv
  refine EL_nil (thn_n (E_seq (E_region (EL_mv p5 rfl ?_))))
  refine EL_at z4 rfl rfl ?_
  refine EL_nil (thn_n (E_ret ?_))
  obtain ⟨gp60, hs, rp60⟩ := OM.pub b58
  have hfr := hfr.stp hs
  obtain rfl := sinj h
  exact end1 rfl rfl (show _ = z4 from rfl) ⟨_, hfr, rp60⟩
def f71 (x0 : List Int) : Option (Bool) :=
 (f81 ((0 : Int)) ((300 : Int)) x0).bind fun y2 =>
 some (y2)
theorem en71 : Enters Try.prog 71 := enters_of Try.func71 (by kernel_rfl) rfl
theorem wk71 {gI : Gh} {wI : World} {x0 : List Int} {up0 : Value} (rp0 : RV gI.m wI x0 up0) {r : Bool} (h : f71 x0 = some r) : Fn Try.prog 71 #[up0] gI wI (fun _ _ v => v = .bool (r)) := by
 unfold f71 at h
 refine fn_of_E Try.func71 rfl (Nat.le_of_ble_eq_true rfl) fun g0 hm hfr => ?_
 have rp0 : RV g0.m wI x0 up0 := hm ▸ rp0
 show E _ 5 none _ _ _ _ _
 refine E_seq (E_region (EL_at (.bool false) rfl rfl ?_))
 refine EL_nil (thn_n (E_seq (E_region (EL_mw up0 rfl rfl ?_))))
 obtain ⟨y2, hy2, h⟩ := bsome h
 refine EL_do .plain rfl (D_call (g := g0) (vs := [.int .i64 (0), .int .i64 (300), up0]) en81 (.cons rfl (.cons rfl (.cons rfl .nil))) (wk81 rp0 hy2) fun g1 w1_ v1 hs hr => ?_)
 have hfr := hfr.ext hs
 subst hr
 refine EL_at (.bool (y2)) rfl rfl ?_
 refine EL_nil (thn_n (E_ret ?_))
 obtain rfl := sinj h
 exact end1 rfl rfl (show _ = .bool (y2) from rfl) ⟨_, hfr, rfl⟩
def f80 (x0 : LoomOrder) : Option (Bool) :=
 Option.bind (α := Bool) (
  (f81 ((1 : Int)) ((100 : Int)) (([(x0).Width] : List Int))).bind fun i3 =>
  bif i3 then
   (f81 ((0 : Int)) ((100 : Int)) (([(x0).Chain] : List Int))).bind fun d3 =>
   bif d3 then
    (f81 ((1 : Int)) ((100 : Int)) (([(x0).Woven] : List Int))).bind fun y43 =>
    bif y43 then
     (f71 (([(x0).Early, (x0).Late] : List Int))).bind fun j3 =>
     some (j3)
    else
     some (false)
   else
    some (false)
  else
   some (false)
  ) fun z2 =>
 some (z2)
theorem en80 : Enters Try.prog 80 := enters_of Try.func80 (by kernel_rfl) rfl
theorem wk80 {gI : Gh} {wI : World} {x0 : LoomOrder} {up0 : Value} (rp0 : RV gI.m wI x0 up0) {r : Bool} (h : f80 x0 = some r) : Fn Try.prog 80 #[up0] gI wI (fun _ _ v => v = .bool (r)) := by
 unfold f80 at h
 refine fn_of_E Try.func80 rfl (Nat.le_of_ble_eq_true rfl) fun g0 hm hfr => ?_
 have rp0 : RV g0.m wI x0 up0 := hm ▸ rp0
 show E _ 27 none _ _ _ _ _
 refine E_seq (E_region (EL_do .plain rfl (D_box (g := g0) rfl rp0 fun g1 w1 p1 hs q1 => ?_)))
 have hfr := hfr.ext hs
 refine EL_at (.bool false) rfl rfl ?_
 refine EL_nil (thn_n ?_)
 obtain ⟨z2, hx, h⟩ := bsome h
 refine E_join (fun e w => ∃ (g : Gh) , Fr gI wI g w ∧ e 2 = .bool (z2)) (fun Q' hQ => ?_) (fun i7 p7 hR => ?_)
 ·replace h := hx
  clear hx
  refine E_region (EL_pur (v := fPtr p1 0) (P_fieldAddr at_82_0 rfl (PT.ptr q1)) .plain rfl ?_)
  have i5 := PT_field (part_LoomOrder_0).1 q1
  refine EL_do .plain rfl (D_load (g := g1) Try.isAgg3 Try.sizeOf3 rfl i5 fun q7 l5 => ?_)
  obtain rfl := RV_int.1 l5
  refine EL_do .plain rfl (D_buildSlice (g := g1) 3005 (xs := ([(x0).Width] : List Int)) (vs := [.int .i64 ((x0).Width)]) Try.underlying22 Try.sizeOf3 Try.zeroValue3 rfl rfl (.cons rfl .nil) (RVs.cons (RV_int.2 rfl) RVs.nil) rfl rfl fun o5 t7 p5 hs o29 q5 hxt hfl => ?_)
  have hfr := hfr.stp hs
  have q1 := q1.stp hs
  obtain ⟨i3, m4, h⟩ := bsome h
  refine EL_do .plain rfl (D_call (g := o5) (vs := [.int .i64 (1), .int .i64 (100), p5]) en81 (.cons rfl (.cons rfl (.cons rfl .nil))) (wk81 q5 m4) fun u3 j7 u7 hs hr => ?_)
  have hfr := hfr.ext hs
  have q1 := q1.ext hs
  subst hr
  refine EL_mw (.bool (i3)) rfl rfl ?_
  rcases csome h with ⟨u0, h⟩ | ⟨u0, h⟩
  ·refine EL_pur (v := fPtr p1 1) (P_fieldAddr at_82_1 rfl (PT.ptr q1)) (.yes2 rfl rfl u0) rfl ?_
   have t5 := PT_field (part_LoomOrder_1).1 q1
   refine EL_do (.yes2 rfl rfl u0) rfl (D_load (g := u3) Try.isAgg3 Try.sizeOf3 rfl t5 fun v7 u5 => ?_)
   obtain rfl := RV_int.1 u5
   refine EL_do (.yes2 rfl rfl u0) rfl (D_buildSlice (g := u3) 3010 (xs := ([(x0).Chain] : List Int)) (vs := [.int .i64 ((x0).Chain)]) Try.underlying22 Try.sizeOf3 Try.zeroValue3 rfl rfl (.cons rfl .nil) (RVs.cons (RV_int.2 rfl) RVs.nil) rfl rfl fun x5 c8 c6 hs o35 d6 hxt hfl => ?_)
   have hfr := hfr.stp hs
   have q1 := q1.stp hs
   obtain ⟨d3, p4, h⟩ := bsome h
   refine EL_do (.yes2 rfl rfl u0) rfl (D_call (g := x5) (vs := [.int .i64 (0), .int .i64 (100), c6]) en81 (.cons rfl (.cons rfl (.cons rfl .nil))) (wk81 d6 p4) fun z3 m7 e8 hs hr => ?_)
   have hfr := hfr.ext hs
   have q1 := q1.ext hs
   subst hr
   refine EL_pur (v := .bool (d3)) (P_pick (b := i3) rfl (pick_t u0 rfl)) .plain rfl ?_
   refine EL_mw (.bool (d3)) rfl rfl ?_
   rcases csome h with ⟨j1, h⟩ | ⟨j1, h⟩
   ·refine EL_pur (v := fPtr p1 2) (P_fieldAddr at_82_2 rfl (PT.ptr q1)) (.yes2 rfl rfl j1) rfl ?_
    have i6 := PT_field (part_LoomOrder_2).1 q1
    refine EL_do (.yes2 rfl rfl j1) rfl (D_load (g := z3) Try.isAgg3 Try.sizeOf3 rfl i6 fun g8 j6 => ?_)
    obtain rfl := RV_int.1 j6
    refine EL_do (.yes2 rfl rfl j1) rfl (D_buildSlice (g := z3) 3016 (xs := ([(x0).Woven] : List Int)) (vs := [.int .i64 ((x0).Woven)]) Try.underlying22 Try.sizeOf3 Try.zeroValue3 rfl rfl (.cons rfl .nil) (RVs.cons (RV_int.2 rfl) RVs.nil) rfl rfl fun l6 i8 v6 hs o41 x6 hxt hfl => ?_)
    have hfr := hfr.stp hs
    have q1 := q1.stp hs
    obtain ⟨y43, z4, h⟩ := bsome h
    refine EL_do (.yes2 rfl rfl j1) rfl (D_call (g := l6) (vs := [.int .i64 (1), .int .i64 (100), v6]) en81 (.cons rfl (.cons rfl (.cons rfl .nil))) (wk81 x6 z4) fun o3 n7 k8 hs hr => ?_)
    have hfr := hfr.ext hs
    have q1 := q1.ext hs
    subst hr
    refine EL_pur (v := .bool (y43)) (P_pick (b := d3) rfl (pick_t j1 rfl)) .plain rfl ?_
    refine EL_mw (.bool (y43)) rfl rfl ?_
    rcases csome h with ⟨o0, h⟩ | ⟨o0, h⟩
    ·refine EL_pur (v := fPtr p1 3) (P_fieldAddr at_82_3 rfl (PT.ptr q1)) (.yes2 rfl rfl o0) rfl ?_
     have y6 := PT_field (part_LoomOrder_3).1 q1
     refine EL_do (.yes2 rfl rfl o0) rfl (D_load (g := o3) Try.isAgg3 Try.sizeOf3 rfl y6 fun l8 z6 => ?_)
     obtain rfl := RV_int.1 z6
     refine EL_pur (v := fPtr p1 4) (P_fieldAddr at_82_4 rfl (PT.ptr q1)) (.yes2 rfl rfl o0) rfl ?_
     have a7 := PT_field (part_LoomOrder_4).1 q1
     refine EL_do (.yes2 rfl rfl o0) rfl (D_load (g := o3) Try.isAgg3 Try.sizeOf3 rfl a7 fun m8 b7 => ?_)
     obtain rfl := RV_int.1 b7
     refine EL_do (.yes2 rfl rfl o0) rfl (D_buildSlice (g := o3) 3024 (xs := ([(x0).Early, (x0).Late] : List Int)) (vs := [.int .i64 ((x0).Early), .int .i64 ((x0).Late)]) Try.underlying22 Try.sizeOf3 Try.zeroValue3 rfl rfl (.cons rfl (.cons rfl .nil)) (RVs.cons (RV_int.2 rfl) (RVs.cons (RV_int.2 rfl) RVs.nil)) rfl rfl fun c7 n8 d7 hs o49 e7 hxt hfl => ?_)
     have hfr := hfr.stp hs
     obtain ⟨j3, d5, h⟩ := bsome h
     refine EL_do (.yes2 rfl rfl o0) rfl (D_call (g := c7) (vs := [d7]) en71 (.cons rfl .nil) (wk71 e7 d5) fun g7 o7 o8 hs hr => ?_)
     have hfr := hfr.ext hs
     subst hr
     refine EL_pur (v := .bool (j3)) (P_pick (b := y43) rfl (pick_t o0 rfl)) .plain rfl ?_
     refine EL_at (.bool (j3)) rfl rfl ?_
     refine EL_nil ?_
     obtain rfl := sinj h
     exact hQ _ _ ⟨g7, hfr, rfl⟩
    ·refine EL_skip (.no2 rfl rfl o0 rfl) rfl ?_
     refine EL_skip (.no2 rfl rfl o0 rfl) rfl ?_
     refine EL_skip (.no2 rfl rfl o0 rfl) rfl ?_
     refine EL_skip (.no2 rfl rfl o0 rfl) rfl ?_
     refine EL_skip (.no2 rfl rfl o0 rfl) rfl ?_
     refine EL_skip (.no2 rfl rfl o0 rfl) rfl ?_
     refine EL_pur (v := .bool false) (P_pick (b := y43) rfl (pick_f o0 rfl)) .plain rfl ?_
     refine EL_at (.bool false) rfl rfl ?_
     refine EL_nil ?_
     obtain rfl := sinj h
     exact hQ _ _ ⟨o3, hfr, rfl⟩
   ·refine EL_skip (.no2 rfl rfl j1 rfl) rfl ?_
    refine EL_skip (.no2 rfl rfl j1 rfl) rfl ?_
    refine EL_skip (.no2 rfl rfl j1 rfl) rfl ?_
    refine EL_skip (.no2 rfl rfl j1 rfl) rfl ?_
    refine EL_pur (v := .bool false) (P_pick (b := d3) rfl (pick_f j1 rfl)) .plain rfl ?_
    refine EL_dead 8 rfl ?_
    refine EL_at (.bool false) rfl rfl ?_
    refine EL_nil ?_
    obtain rfl := sinj h
    exact hQ _ _ ⟨z3, hfr, rfl⟩
  ·refine EL_skip (.no2 rfl rfl u0 rfl) rfl ?_
   refine EL_skip (.no2 rfl rfl u0 rfl) rfl ?_
   refine EL_skip (.no2 rfl rfl u0 rfl) rfl ?_
   refine EL_skip (.no2 rfl rfl u0 rfl) rfl ?_
   refine EL_pur (v := .bool false) (P_pick (b := i3) rfl (pick_f u0 rfl)) .plain rfl ?_
   refine EL_dead 14 rfl ?_
   refine EL_at (.bool false) rfl rfl ?_
   refine EL_nil ?_
   obtain rfl := sinj h
   exact hQ _ _ ⟨u3, hfr, rfl⟩
 ·clear hx
  obtain ⟨p8, hfr, d4⟩ := hR
  refine E_ret ?_
  obtain rfl := sinj h
  exact end1 rfl rfl (show _ = .bool (z2) from d4) ⟨_, hfr, rfl⟩
end Go.Proofs.Ytnfjhdagbknlbaa
