import Derived.Test.YtkmbkaoolacofaaGreatCode4
set_option maxRecDepth 8000
set_option maxHeartbeats 4000000
namespace Go.Proofs.YtkmbkaoolacofaaGreat
open Go.RowKit
def f8 (x0 : Sheet) (x1 : Vector UInt8 3) (x2 : UInt16) : Option (Bool) :=
 (f40 x0).bind fun y5 =>
 (f35 y5).bind fun cP =>
 (f41 cP).bind fun zH =>
 (f35 y5).bind fun dP =>
 (f42 dP).bind fun tK =>
 jn (σ := Unit) (fun _ =>
  (idx (x1).toList (1 : Int)).bind fun nO =>
  (rem64 ((nO).toNat : Int) (((y5).Rows).length : Int)).bind fun x5 =>
  (idx (x1).toList (2 : Int)).bind fun oO =>
  (rem64 ((oO).toNat : Int) (((y5).Down).length : Int)).bind fun m7 =>
  (f35 y5).bind fun u3 =>
  (idx (x1).toList (0 : Int)).bind fun kO =>
  (u8rem kO (4 : UInt8)).bind fun i7 =>
  Option.bind (α := PayTable × PayEntry) (
   bif (((((1 : UInt8) + i7)).toNat : Int) == (1 : Int)) then
    (idx ((y5).Rows) x5).bind fun aL =>
    (idx aL m7).bind fun tH =>
    (idx ((u3).Rows) x5).bind fun cC =>
    (idx ((y5).Rows) x5).bind fun bL =>
    (idx bL m7).bind fun oD =>
    (f43 oD (((x2).toNat : Int)) ((1000000 : Int))).bind fun rA =>
    (idx cC m7).bind fun pL =>
    some (({ u3 with Rows := (List.set ((u3).Rows) (Int.toNat x5) (List.set cC (Int.toNat m7) rA)) } : PayTable), (⟨((((1 : UInt8) + i7)).toNat : Int), x5, m7, tH⟩ : PayEntry))
   else
    bif (((((1 : UInt8) + i7)).toNat : Int) == (2 : Int)) then
     (idx ((y5).Across) x5).bind fun uH =>
     (idx ((y5).Across) x5).bind fun sD =>
     (f43 sD (((x2).toNat : Int)) ((1000000000 : Int))).bind fun yA =>
     (idx ((u3).Across) x5).bind fun qL =>
     some (({ u3 with Across := (List.set ((u3).Across) (Int.toNat x5) yA) } : PayTable), (⟨((((1 : UInt8) + i7)).toNat : Int), x5, 0, uH⟩ : PayEntry))
    else
     bif (((((1 : UInt8) + i7)).toNat : Int) == (3 : Int)) then
      (idx ((y5).Down) m7).bind fun xH =>
      (idx ((y5).Down) m7).bind fun tD =>
      (f43 tD (((x2).toNat : Int)) ((1000000000 : Int))).bind fun aB =>
      (idx ((u3).Down) m7).bind fun rL =>
      some (({ u3 with Down := (List.set ((u3).Down) (Int.toNat m7) aB) } : PayTable), (⟨((((1 : UInt8) + i7)).toNat : Int), 0, m7, xH⟩ : PayEntry))
     else
      (f43 ((y5).Total) (((x2).toNat : Int)) ((1000000000 : Int))).bind fun uD =>
      some (({ u3 with Total := uD } : PayTable), (⟨((((1 : UInt8) + i7)).toNat : Int), 0, 0, (y5).Total⟩ : PayEntry))
   ) fun (qC, l8) =>
  (f35 qC).bind fun dL =>
  (f41 dL).bind fun t5 =>
  (f35 qC).bind fun eL =>
  (f42 eL).bind fun y6 =>
  Option.bind (α := Bool) (
   bif (t5.2 == (0 : Int)) then
    bif (!t5.1) then
     bif (y6.2 == (0 : Int)) then
      bif (decide (y6.1 = l8)) then
       (f12).bind fun vD =>
       some (vD)
      else
       some (false)
     else
      some (false)
    else
     some (false)
   else
    some (false)
   ) fun zB =>
  some (zB)
  ) fun eP =>
 Option.bind (α := Bool) (
  bif (zH.2 != (0 : Int)) then
   some (true)
  else
   bif (tK.2 != (0 : Int)) then
    some (true)
   else
    bif (!zH.1) then
     some (true)
    else
     some ((!(decide (tK.1 = (⟨0, 0, 0, 0⟩ : PayEntry)))))
  ) fun iL =>
 bif iL then
  some (false)
 else
  eP ()
theorem wk8 {gI : Gh} {wI : World} {x0 : Sheet} {x1 : Vector UInt8 3} {x2 : UInt16} {up0 : Value} (rp0 : RV gI.m wI x0 up0) {up1 : Value} (rp1 : RV gI.m wI x1 up1) {r : Bool} (h : f8 x0 x1 x2 = some r) : Fn Tryz.prog 8 #[up0, up1, .int .u16 (UInt16.toNat (x2))] gI wI (fun _ _ v => v = .bool (r)) := by
 unfold f8 at h
 refine fn_of_E Tryz.func8 rfl (Nat.le_of_ble_eq_true rfl) fun g0 hm hfr => ?_
 have rp0 : RV g0.m wI x0 up0 := hm ▸ rp0
 have rp1 : RV g0.m wI x1 up1 := hm ▸ rp1
 show E _ 187 none _ _ _ _ _
 refine E_seq (E_region (EL_do .plain rfl (D_box (g := g0) rfl rp0 fun g1 w1 p1 hs q1 => ?_)))
 have hfr := hfr.ext hs
 have rp1 := rp1.ext hs
 refine EL_do .plain rfl (D_box (g := g1) rfl rp1 fun g2 w2 p2 hs q2 => ?_)
 have hfr := hfr.ext hs
 have q1 := q1.ext hs
 refine EL_at (.bool false) rfl rfl ?_
 refine EL_nil (thn_n (E_seq (E_region (EL_do .plain rfl (D_load (g := g2) Tryz.isAgg94 Tryz.sizeOf94 rfl q1 fun v3 r3 => ?_)))))
 obtain ⟨y5, hy5, h⟩ := bsome h
 refine EL_do .plain rfl (D_call (g := g2) (vs := [v3]) en40 (.cons rfl .nil) (wk40 r3 hy5) fun g4 w4_ v4 hs hr => ?_)
 have hfr := hfr.ext hs
 have q2 := q2.ext hs
 have r4 := hr
 refine EL_do .plain rfl (D_allocOc (g := g4) 2007 (⟨[], [], [], 0⟩ : PayTable) Tryz.zeroValue58 (fun m w => ⟨_, (rep_two rep_nil (rep_two rep_nil (rep_two rep_nil rep_int))), rfl⟩) fun g6 w6 p6 hs b6 cb => ?_)
 have hfr := hfr.stp hs
 have q2 := q2.stp hs
 have r4 := r4.stp hs
 have bR : OSF 2007 60700 0 g6 w6 23 58 ([] : List (List Int)) p6 := cb.osf (by rfl)
 have cR : OSF 2007 60701 1 g6 w6 3 58 ([] : List Int) p6 := cb.osf (by rfl)
 have dR : OSF 2007 60702 2 g6 w6 3 58 ([] : List Int) p6 := cb.osf (by rfl)
 clear cb
 refine EL_do .plain rfl (D_storeOc (g := g6) (v := v4) Tryz.sizeOf58 rfl b6 rfl r4 fun g7 w7 hs b7 cb => ?_)
 clear cb
 have hfr := hfr.stp hs
 have q2 := q2.stp hs
 refine EL_nil (thn_n (E_seq (E_region (EL_do .plain rfl (D_loadO (g := g7) Tryz.isAgg58 Tryz.sizeOf58 rfl b7 fun v8 r8 => ?_)))))
 obtain ⟨cP, kP, h⟩ := bsome h
 refine EL_do .plain rfl (D_call (g := g7) (vs := [v8]) en35 (.cons rfl .nil) (wk35 r8 kP) fun g9 w9_ v9 hs hr => ?_)
 have hfr := hfr.ext hs
 have q2 := q2.ext hs
 have b7 := b7.ext hs
 have r9 := hr
 obtain ⟨zH, lP, h⟩ := bsome h
 refine EL_do .plain rfl (D_call (g := g9) (vs := [v9]) en41 (.cons rfl .nil) (wk41 r9 lP) fun gP eR nR hs hr => ?_)
 have hfr := hfr.ext hs
 have q2 := q2.ext hs
 have b7 := b7.ext hs
 obtain ⟨yQ, zQ, rfl, rfl, rfl⟩ := hr
 refine EL_mw (.tuple #[.bool (zH.1), .int .i64 (zH.2)]) rfl rfl ?_
 refine EL_p (.bool (zH.1)) (P_extract rfl rfl) rfl ?_
 refine EL_p (.int .i64 (zH.2)) (P_extract rfl rfl) rfl ?_
 refine EL_at (.bool (zH.1)) rfl rfl ?_
 refine EL_at (.int .i64 (zH.2)) rfl rfl ?_
 refine EL_nil (thn_n (E_seq (E_region (EL_do .plain rfl (D_loadO (g := gP) Tryz.isAgg58 Tryz.sizeOf58 rfl b7 fun bQ cQ => ?_)))))
 obtain ⟨dP, mP, h⟩ := bsome h
 refine EL_do .plain rfl (D_call (g := gP) (vs := [bQ]) en35 (.cons rfl .nil) (wk35 cQ mP) fun dQ gR eQ hs hr => ?_)
 have hfr := hfr.ext hs
 have q2 := q2.ext hs
 have b7 := b7.ext hs
 have gQ := hr
 obtain ⟨tK, nP, h⟩ := bsome h
 refine EL_do .plain rfl (D_call (g := dQ) (vs := [eQ]) en42 (.cons rfl .nil) (wk42 gQ nP) fun iQ iR oR hs hr => ?_)
 have hfr := hfr.ext hs
 have q2 := q2.ext hs
 have b7 := b7.ext hs
 obtain ⟨zN, aR, rfl, aO, rfl⟩ := hr
 refine EL_mw (.tuple #[zN, .int .i64 (tK.2)]) rfl rfl ?_
 refine EL_p zN (P_extract rfl rfl) rfl ?_
 refine EL_p (.int .i64 (tK.2)) (P_extract rfl rfl) rfl ?_
 refine EL_do .plain rfl (D_allocOc (g := iQ) 2010 (⟨0, 0, 0, 0⟩ : PayEntry) Tryz.zeroValue100 (fun m w => ⟨_, (rep_two rep_int (rep_two rep_int (rep_two rep_int rep_int))), rfl⟩) fun jQ pR qR hs b18 cb => ?_)
 have hfr := hfr.stp hs
 have q2 := q2.stp hs
 have b7 := b7.stp hs rfl
 have aO := aO.stp hs
 clear cb
 refine EL_do .plain rfl (D_storeOc (g := jQ) (v := zN) Tryz.sizeOf100 rfl b18 rfl aO fun yN kQ hs b19 cb => ?_)
 clear cb
 have hfr := hfr.stp hs
 have q2 := q2.stp hs
 have b7 := b7.stp hs rfl
 refine EL_at (.int .i64 (tK.2)) rfl rfl ?_
 refine EL_nil (thn_n (E_joinC h (fun (s : Unit) e w => ∃ (g : Gh) , Fr gI wI g w ∧ e 2 = .int .u16 (UInt16.toNat (x2)) ∧ e 4 = p2 ∧ PT g.m w (x1 : Vector UInt8 3) p2 ∧ e 7 = p6 ∧ OB 2007 g w 58 (y5 : PayTable) p6) (fun X32 eP oP h => ?_) ?_))
 ·obtain ⟨iL, hx, h⟩ := bsome h
  refine E_join (fun e w => ∃ (g : Gh) , Fr gI wI g w ∧ e 2 = .int .u16 (UInt16.toNat (x2)) ∧ e 4 = p2 ∧ PT g.m w (x1 : Vector UInt8 3) p2 ∧ e 7 = p6 ∧ OB 2007 g w 58 (y5 : PayTable) p6 ∧ e 46 = .bool (iL)) (fun Q' hQ => ?_) (fun jR rR hR => ?_)
  ·replace h := hx
   clear hx
   refine E_region (EL_mw (.int .i64 (zH.2)) rfl rfl ?_)
   refine EL_in (.bool ((zH.2 != (0 : Int)))) rfl rfl rfl rfl ?_
   refine EL_mw (.bool ((zH.2 != (0 : Int)))) rfl rfl ?_
   rcases csome h with ⟨tL, h⟩ | ⟨tL, h⟩
   ·refine EL_s rfl rfl tL rfl rfl ?_
    refine EL_s rfl rfl tL rfl rfl ?_
    refine EL_p (.bool true) (P_pick (b := (zH.2 != (0 : Int))) rfl (pick_t tL rfl)) rfl ?_
    refine EL_dead 9 rfl ?_
    refine EL_nil ?_
    obtain rfl := sinj h
    exact hQ _ _ ⟨yN, hfr, rfl, rfl, q2, rfl, b7, rfl⟩
   ·refine EL_y (.int .i64 (tK.2)) (P_move rfl) rfl rfl tL rfl ?_
    refine EL_y (.bool ((tK.2 != (0 : Int)))) (P_int rfl rfl rfl) rfl rfl tL rfl ?_
    refine EL_p (.bool ((tK.2 != (0 : Int)))) (P_pick (b := (zH.2 != (0 : Int))) rfl (pick_f tL rfl)) rfl ?_
    refine EL_mw (.bool ((tK.2 != (0 : Int)))) rfl rfl ?_
    rcases csome h with ⟨uL, h⟩ | ⟨uL, h⟩
    ·refine EL_s rfl rfl uL rfl rfl ?_
     refine EL_s rfl rfl uL rfl rfl ?_
     refine EL_p (.bool true) (P_pick (b := (tK.2 != (0 : Int))) rfl (pick_t uL rfl)) rfl ?_
     refine EL_dead 5 rfl ?_
     refine EL_nil ?_
     obtain rfl := sinj h
     exact hQ _ _ ⟨yN, hfr, rfl, rfl, q2, rfl, b7, rfl⟩
    ·refine EL_y (.bool (zH.1)) (P_move rfl) rfl rfl uL rfl ?_
     refine EL_y (.bool (!zH.1)) (P_not rfl) rfl rfl uL rfl ?_
     refine EL_p (.bool (!zH.1)) (P_pick (b := (tK.2 != (0 : Int))) rfl (pick_f uL rfl)) rfl ?_
     refine EL_mw (.bool (!zH.1)) rfl rfl ?_
     rcases csome h with ⟨gL, h⟩ | ⟨gL, h⟩
     ·refine EL_s rfl rfl gL rfl rfl ?_
      refine EL_s rfl rfl gL rfl rfl ?_
      refine EL_s rfl rfl gL rfl rfl ?_
      refine EL_p (.bool true) (P_pick (b := (!zH.1)) rfl (pick_t gL rfl)) rfl ?_
      refine EL_nil ?_
      obtain rfl := sinj h
      exact hQ _ _ ⟨yN, hfr, rfl, rfl, q2, rfl, b7, rfl⟩
     ·refine EL_do (.yes2 rfl rfl gL) rfl (D_loadO (g := yN) Tryz.isAgg100 Tryz.sizeOf100 rfl b19 fun tR lQ => ?_)
      have iP : RV yN.m kQ (⟨0, 0, 0, 0⟩ : PayEntry) (.agg (setCh [[.int .i64 0], [.int .i64 0], [.int .i64 0], [.int .i64 0]] []).flatten.toArray) := RV_build rfl (rep_pair (rep_int) (rep_pair (rep_int) (rep_pair (rep_int) (rep_last (rep_int)))))
      generalize pP : (Value.agg (setCh [[.int .i64 0], [.int .i64 0], [.int .i64 0], [.int .i64 0]] []).flatten.toArray) = mQ at iP
      refine EL_y mQ (pP ▸ P_build (vs := []) [[.int .i64 0], [.int .i64 0], [.int .i64 0], [.int .i64 0]] lay_100 rfl rfl .nil trivial) rfl rfl gL rfl ?_
      refine EL_y (.bool ((!(decide (tK.1 = (⟨0, 0, 0, 0⟩ : PayEntry)))))) (P_sne seq_100 rfl eg_100 rfl rfl lQ iP) rfl rfl gL rfl ?_
      refine EL_p (.bool ((!(decide (tK.1 = (⟨0, 0, 0, 0⟩ : PayEntry)))))) (P_pick (b := (!zH.1)) rfl (pick_f gL rfl)) rfl ?_
      refine EL_nil ?_
      obtain rfl := sinj h
      exact hQ _ _ ⟨yN, hfr, rfl, rfl, q2, rfl, b7, rfl⟩
  ·clear hx
   obtain ⟨nQ, hfr, sO, tO, uO, vO, xO, gO⟩ := hR
   rcases csome h with ⟨lO, h⟩ | ⟨lO, h⟩
   ·refine E_cond_true (Eq.trans (show ev _ _ = .bool (iL) from gO) (congrArg Value.bool lO)) ?_
    refine E_seq (E_region (EL_at (.bool false) rfl rfl ?_))
    refine EL_nil (thn_n (E_ret (thn_r ?_)))
    obtain rfl := sinj h
    exact end1 rfl rfl (show _ = .bool false from rfl) ⟨_, hfr, rfl⟩
   ·refine E_cond_false (Eq.trans (show ev _ _ = .bool (iL) from gO) (congrArg Value.bool lO)) ?_
    exact E_skip (thn_n (oP () _ _ ⟨nQ, hfr, sO, tO, uO, vO, xO⟩ h))
 ·rintro _ lR uR ⟨oQ, hfr, mC, bO, oK, a9, o0⟩ h
  refine E_seq ?_
  obtain ⟨nO, qO, h⟩ := bsome h
  have pQ := PT_idxA oK qO
  refine L_load (x := .tmp 47) Tryz.isAgg5 Tryz.sizeOf5 pQ fun vR qQ sP => ?_
  obtain rfl := RV_u8.1 qQ
  refine L_loadO (x := .tmp 50) part_PayTable_0.1 Tryz.isAgg56 Tryz.sizeOf56 o0 fun rQ sQ tP => ?_
  obtain ⟨x5, uP, h⟩ := bsome h
  obtain ⟨oO, rO, h⟩ := bsome h
  have tQ := PT_idxA oK rO
  refine L_load (x := .tmp 54) Tryz.isAgg5 Tryz.sizeOf5 tQ fun xR uQ vP => ?_
  obtain rfl := RV_u8.1 uQ
  refine L_loadO (x := .tmp 57) part_PayTable_2.1 Tryz.isAgg23 Tryz.sizeOf23 o0 fun vQ xQ xP => ?_
  obtain ⟨m7, yP, h⟩ := bsome h
  refine E_drawL (g := oQ) (n := 16) [] [0, 1, 2, 3, 4, 5, 6, 7, 8, 9, 10, 11, 12, 13, 14, 15] rfl mixed (by kernel_rfl) trivial ?_
  refine L_p (fPtr p2 (((1 : Int) : Int).toNat * 1)) rfl rfl (P_indexAddrA (α := UInt8) Tryz.underlying89 Tryz.sizeOf5 bO (PT.ptr oK) rfl qO) ?_
  refine L_ld (c := .int .u8 (UInt8.toNat (nO))) rfl rfl .plain (fun _ _ h => h.ch) sP rfl ?_
  refine L_p (.int .i64 (((nO).toNat : Int))) rfl rfl (P_u8int Tryz.underlying5 Tryz.underlying3 rfl) ?_
  refine L_p (fPtr p6 0) rfl rfl (P_fieldAddr at_58_0 a9 (OB.ptr o0)) ?_
  refine L_ld (c := rQ) rfl rfl .plain (fun _ _ h => ⟨h.ch, fun b hb _ => h.below.block b hb⟩) tP rfl ?_
  refine L_p (.int .i64 (((y5).Rows).length : Int)) rfl rfl (P_len Tryz.underlying56 rfl sQ) ?_
  refine L_p (.int .i64 (x5)) rfl rfl (P_int rfl rfl (congrArg (Option.map (Value.int .i64)) uP)) ?_
  refine L_p (fPtr p2 (((2 : Int) : Int).toNat * 1)) rfl rfl (P_indexAddrA (α := UInt8) Tryz.underlying89 Tryz.sizeOf5 bO (PT.ptr oK) rfl rO) ?_
  refine L_ld (c := .int .u8 (UInt8.toNat (oO))) rfl rfl .plain (fun _ _ h => h.ch) vP rfl ?_
  refine L_p (.int .i64 (((oO).toNat : Int))) rfl rfl (P_u8int Tryz.underlying5 Tryz.underlying3 rfl) ?_
  refine L_p (fPtr p6 2) rfl rfl (P_fieldAddr at_58_2 a9 (OB.ptr o0)) ?_
  refine L_ld (c := vQ) rfl rfl .plain (fun _ _ h => ⟨h.ch, fun b hb _ => h.below.block b hb⟩) xP rfl ?_
  refine L_p (.int .i64 (((y5).Down).length : Int)) rfl rfl (P_len Tryz.underlying23 rfl xQ) ?_
  refine L_p (.int .i64 (m7)) rfl rfl (P_int rfl rfl (congrArg (Option.map (Value.int .i64)) yP)) ?_
  refine L_p (.int .i64 (x5)) rfl rfl (P_assign rfl) ?_
  refine L_p (.int .i64 (m7)) rfl rfl (P_assign rfl) ?_
  refine L_nl fun jO jP hs => ?_
  have hfr := hfr.ext hs
  have oK := oK.ext hs
  have o0 := o0.ext hs
  clear hs
  refine EL_nil (thn_n (E_seq (L_loadO0 (x := .tmp 7) Tryz.isAgg58 Tryz.sizeOf58 o0 fun vN yH yO => ?_)))
  obtain ⟨u3, xL, h⟩ := bsome h
  obtain ⟨kO, pO, h⟩ := bsome h
  have mO := PT_idxA oK pO
  refine L_load (x := .tmp 63) Tryz.isAgg5 Tryz.sizeOf5 mO fun mR zP zO => ?_
  obtain rfl := RV_u8.1 zP
  obtain ⟨i7, aP, h⟩ := bsome h
  have d9 : RV jO.m jP (⟨((((1 : UInt8) + i7)).toNat : Int), 0, 0, 0⟩ : PayEntry) (.agg (setCh [[.int .i64 0], [.int .i64 0], [.int .i64 0], [.int .i64 0]] [(0, .int .i64 (((((1 : UInt8) + i7)).toNat : Int)))]).flatten.toArray) := RV_build rfl (rep_pair (rfl) (rep_pair (rep_int) (rep_pair (rep_int) (rep_last (rep_int)))))
  generalize bP : (Value.agg (setCh [[.int .i64 0], [.int .i64 0], [.int .i64 0], [.int .i64 0]] [(0, .int .i64 (((((1 : UInt8) + i7)).toNat : Int)))]).flatten.toArray) = vL at d9
  refine E_drawT_ (g := jO) (w := jP) (n := 11) [0, 2, 3, 4, 5, 6, 7] [] [2007] [2007] 10 (.step 0 (.step 2 (.step 3 (.step 4 (.step 5 (.step 6 (.step 7 (.alt 1 (.alt 8 (.step 9 (.step 10 .done)) (.alt 9 (.step 8 (.step 10 .done)) .stop)) (.alt 8 (.alt 1 (.step 9 (.step 10 .done)) (.alt 9 (.step 1 (.step 10 .done)) .stop)) (.alt 9 (.alt 1 (.step 8 (.step 10 .done)) (.alt 8 (.step 1 (.step 10 .done)) .stop)) .stop)))))))))) mixed (by kernel_rfl) rfl fun w_c88 hs hlt => ?_
  have hfr := hfr.ext hs
  have oK := oK.ext hs
  have o0 := o0.ext hs
  clear hs
  refine CT_ldO false (n := 2007) (c := vN) rfl rfl .plain yO a9 rfl ?_
  have yH := yH.ch hlt.1
  refine CT_pur (c := fPtr p2 (((0 : Int) : Int).toNat * 1)) rfl rfl .plain (P_indexAddrA (α := UInt8) Tryz.underlying89 Tryz.sizeOf5 bO (PT.ptr oK) rfl pO) ?_
  have mO := mO.ch hlt.1
  refine CT_ldP (c := .int .u8 (UInt8.toNat (kO))) rfl rfl .plain zO rfl ?_
  refine CT_pur (c := .int .u8 (UInt8.toNat (i7))) rfl rfl .plain (P_u8 rfl rfl (u8rem_cop aP)) ?_
  refine CT_pur (c := .int .u8 (UInt8.toNat (((1 : UInt8) + i7)))) rfl rfl .plain (P_u8 rfl rfl rfl) ?_
  refine CT_pur (c := .int .i64 (((((1 : UInt8) + i7)).toNat : Int))) rfl rfl .plain (P_u8int Tryz.underlying5 Tryz.underlying98 rfl) ?_
  refine CT_pur (c := vL) rfl rfl .plain (bP ▸ P_build (vs := [(0, .int .i64 (((((1 : UInt8) + i7)).toNat : Int)))]) [[.int .i64 0], [.int .i64 0], [.int .i64 0], [.int .i64 0]] lay_100 rfl rfl (.cons rfl .nil) ⟨⟨_, rfl, rfl⟩, trivial⟩) ?_
  have d9 := d9.ch hlt.1
  refine CT_alt ?_ (CT_alt ?_ (CT_alt ?_ CT_stop))
  ·refine CT_do [2007] rfl rfl rfl .plain (D_callG (g := jO) (vs := [vN]) en35 (.cons rfl .nil) (W35 (iO := 4062) yH xL) fun uK cO dO hs hm161 => ?_)
   have hfr := hfr.ext hs
   have hlt := hlt.ext hs
   have o0 := o0.ext hs
   have d9 := d9.ext hs
   obtain ⟨sk161, ow161, ok161⟩ := hm161
   refine ⟨hlt.toW, ?_⟩
   refine CT_alt ?_ (CT_alt ?_ CT_stop)
   ·refine CT_do [2007] rfl rfl rfl .plain (D_allocOc (g := uK) 2014 (⟨[], [], [], 0⟩ : PayTable) Tryz.zeroValue58 (fun m w => ⟨_, (rep_two rep_nil (rep_two rep_nil (rep_two rep_nil rep_int))), rfl⟩) fun nD uF vF hs b581 cb => ?_)
    have hfr := hfr.stp hs
    have hlt := hlt.stp hs
    have o0 := o0.stp hs rfl
    have d9 := d9.stp hs
    have ow161 := ow161.stp hs rfl
    have yL : OSF 2014 61400 0 nD uF 23 58 ([] : List (List Int)) vF := cb.osf (by rfl)
    have zL : OSF 2014 61401 1 nD uF 3 58 ([] : List Int) vF := cb.osf (by rfl)
    have aM : OSF 2014 61402 2 nD uF 3 58 ([] : List Int) vF := cb.osf (by rfl)
    clear cb
    refine ⟨hlt.toW, ?_⟩
    refine CT_do [2007] rfl rfl rfl .plain (D_allocOc (g := nD) 2015 (⟨0, 0, 0, 0⟩ : PayEntry) Tryz.zeroValue100 (fun m w => ⟨_, (rep_two rep_int (rep_two rep_int (rep_two rep_int rep_int))), rfl⟩) fun vK eO g8 hs b641 cb => ?_)
    have hfr := hfr.stp hs
    have hlt := hlt.stp hs
    have o0 := o0.stp hs rfl
    have d9 := d9.stp hs
    have ow161 := ow161.stp hs rfl
    have b581 := b581.stp hs rfl
    clear cb
    refine ⟨hlt.toW, ?_⟩
    refine CT_do [2007] rfl rfl rfl .plain (D_storeOW (g := vK) Tryz.sizeOf58 rfl b581 rfl ow161 rfl fun gj701 qK xN bk701 hsa hsb hpp b701 => ?_)
    have hfr := hfr.stp hsa
    have hlt := hlt.stp hsa
    have o0 := o0.stp hsa rfl
    have d9 := d9.stp hsa
    have b641 := b641.stp hsa rfl
    have hfr := hfr.stp hsb
    have hlt := hlt.stp hsb
    have o0 := o0.stp hsb rfl
    have d9 := d9.stp hsb
    have b641 := b641.stp hsb rfl
    clear hsa hsb
    subst hpp
    refine ⟨hlt.toW, ?_⟩
    refine CT_nil ?_
    clear hlt
    refine EL_do .plain rfl (D_storeOc (g := qK) (v := vL) Tryz.sizeOf100 rfl b641 rfl d9 fun nB sK hs b821 cb => ?_)
    clear cb
    have hfr := hfr.stp hs
    have o0 := o0.stp hs rfl
    have b701 := b701.stp hs rfl
    refine EL_nil (thn_n ?_)
    obtain ⟨⟨qC, l8⟩, hx, h⟩ := bsome h
    refine E_join (fun e w => ∃ (g : Gh) , Fr gI wI g w ∧ e 14 = (Value.pointer (some ⟨bk701, 0, none⟩)) ∧ OVb ow_PayTable 2014 g w 58 (qC : PayTable) bk701 ∧ e 15 = g8 ∧ OB 2015 g w 100 (l8 : PayEntry) g8) (fun Q' hQ => ?_) (fun jL yD hR => ?_)
    ·replace h := hx
     clear hx
     refine E_seq (E_region (EL_p (fPtr g8 0) (P_fieldAddr at_100_0 rfl (OB.ptr b821)) rfl ?_))
     refine EL_do .plain rfl (D_loadF (g := nB) part_PayEntry_0.1 Tryz.isAgg98 Tryz.sizeOf98 rfl b821 fun bM aI => ?_)
     obtain rfl := RV_int.1 aI
     refine EL_nil (thn_n (E_block ?_))
     refine E_seq (E_region (EL_p (.bool ((((((1 : UInt8) + i7)).toNat : Int) == (1 : Int)))) (P_int rfl rfl rfl) rfl ?_))
     refine EL_p (.bool ((((((1 : UInt8) + i7)).toNat : Int) == (1 : Int)))) (P_assign rfl) rfl ?_
     refine EL_nil (thn_n ?_)
     rcases csome h with ⟨oB, h⟩ | ⟨oB, h⟩
     ·refine E_ct oB rfl ?_
      refine E_seq (L_loadO (x := .tmp 84) part_PayTable_0.1 Tryz.isAgg56 Tryz.sizeOf56 o0 fun zD dB xF => ?_)
      obtain ⟨aL, vC, h⟩ := bsome h
      have rC := PT_idx dB vC
      refine L_load (x := .tmp 87) Tryz.isAgg23 Tryz.sizeOf23 rC fun aE iB yF => ?_
      obtain ⟨tH, aD, h⟩ := bsome h
      have uC := PT_idx iB aD
      refine L_load (x := .tmp 90) Tryz.isAgg3 Tryz.sizeOf3 uC fun cM bI zF => ?_
      obtain rfl := RV_int.1 bI
      refine E_drawC (g := nB) (w := sK) (n := 14) [0, 1, 2, 3, 4, 5, 6, 7, 8, 9, 10, 12] [2007] [0, 1, 2, 3, 4, 5, 6, 7, 8, 9, 10, 11, 12, 13] rfl mixed (by kernel_rfl) fun w_c1210 hs hlt => ?_
      have hfr := hfr.ext hs
      have o0 := o0.ext hs
      have b701 := b701.ext hs
      have b821 := b821.ext hs
      clear hs
      refine CH_pur (c := .int .i64 (x5)) rfl rfl .plain (P_move rfl) ?_
      refine CH_pur (c := .int .i64 (m7)) rfl rfl .plain (P_move rfl) ?_
      refine CH_pur (c := fPtr p6 0) rfl rfl .plain (P_fieldAddr at_58_0 a9 (OB.ptr o0)) ?_
      refine CH_ldO (n := 2007) (c := zD) rfl rfl .plain xF rfl rfl ?_
      have dB := dB.ch hlt.1
      refine CH_pur (c := .int .i64 (x5)) rfl rfl .plain (P_move rfl) ?_
      refine CH_pur (c := ePtr zD x5 1) rfl rfl .plain (P_indexAddr (α := List Int) Tryz.underlying56 Tryz.sizeOf23 rfl dB rfl vC) ?_
      have rC := rC.ch hlt.1
      refine CH_ldP (c := aE) rfl rfl .plain yF rfl ?_
      have iB := iB.ch hlt.1
      refine CH_pur (c := .int .i64 (m7)) rfl rfl .plain (P_move rfl) ?_
      refine CH_pur (c := ePtr aE m7 1) rfl rfl .plain (P_indexAddr (α := Int) Tryz.underlying23 Tryz.sizeOf3 rfl iB rfl aD) ?_
      have uC := uC.ch hlt.1
      refine CH_ldP (c := .int .i64 (tH)) rfl rfl .plain zF rfl ?_
      refine CH_pur (c := fPtr g8 1) rfl rfl .plain (P_fieldAddr at_100_1 rfl (OB.ptr b821)) ?_
      refine CH_do rfl rfl .plain (D_storeFc (g := nB) part_PayEntry_1 Tryz.sizeOf3 rfl b821 rfl (RV_int.2 rfl) fun dI dM hs b1220 rst hos => ?_)
      clear rst hos
      have hfr := hfr.stp hs
      have hlt := hlt.stp hs
      have o0 := o0.stp hs rfl
      have b701 := b701.stp hs rfl
      refine ⟨hlt.toW, ?_⟩
      refine CH_pur (c := fPtr g8 2) rfl rfl .plain (P_fieldAddr at_100_2 rfl (OB.ptr b1220)) ?_
      refine CH_do rfl rfl .plain (D_storeFc (g := dI) part_PayEntry_2 Tryz.sizeOf3 rfl b1220 rfl (RV_int.2 rfl) fun iI eM hs b1222 rst hos => ?_)
      clear rst hos
      have hfr := hfr.stp hs
      have hlt := hlt.stp hs
      have o0 := o0.stp hs rfl
      have b701 := b701.stp hs rfl
      refine ⟨hlt.toW, ?_⟩
      refine CH_nil ?_
      clear hlt
      refine EL_p (fPtr g8 3) (P_fieldAddr at_100_3 rfl (OB.ptr b1222)) rfl ?_
      refine EL_do .plain rfl (D_storeFc (g := iI) part_PayEntry_3 Tryz.sizeOf3 rfl b1222 rfl (RV_int.2 rfl) fun jI iM hs b1224 rst hos => ?_)
      clear rst hos
      have hfr := hfr.stp hs
      have o0 := o0.stp hs rfl
      have b701 := b701.stp hs rfl
      refine EL_nil (thn_n (L_loadH (x := .tmp 95) (Cxt.fld (Cxt.root ow_PayTable bk701) fl_PayTable_0 (u3) (sk161)) rfl rfl (ok161.1) Tryz.isAgg56 b701 fun aG => ?_))
      obtain ⟨cC, x6, h⟩ := bsome h
      obtain ⟨bb1229, cc1229, ss1229, hq1229, m8⟩ := (OV.slice b701 (Cxt.fld (Cxt.root ow_PayTable bk701) fl_PayTable_0 (u3) (sk161)) rfl rfl (ok161.1)).2 x6
      refine L_loadH (x := .tmp 98) (Cxt.idx (Cxt.fld (Cxt.root ow_PayTable bk701) fl_PayTable_0 (u3) (sk161)) ((u3).Rows) (Int.toNat x5) bb1229 cc1229 ss1229 (idx_nat x6).2 m8) ((congrArg (fun q => ({ u3 with Rows := q } : PayTable)) (set_idx x6)).trans rfl) (((congrArg (fun q => ((Sl.at bb1229 cc1229 q), (Prod.snd sk161))) (set_getD (by rw [m8]; exact (idx_nat x6).2))).trans (congrArg (fun q => (q, (Prod.snd sk161))) (hq1229).symm)).trans rfl) (ok_at (ok161.1) hq1229 (by rw [m8]; exact (idx_nat x6).2)) Tryz.isAgg23 b701 fun bG => ?_
      refine L_loadO (x := .tmp 101) part_PayTable_0.1 Tryz.isAgg56 Tryz.sizeOf56 o0 fun bE iE cG => ?_
      obtain ⟨bL, bD, h⟩ := bsome h
      have kI := PT_idx iE bD
      refine L_load (x := .tmp 104) Tryz.isAgg23 Tryz.sizeOf23 kI fun lE mE eG => ?_
      obtain ⟨oD, cD, h⟩ := bsome h
      have lI := PT_idx mE cD
      refine L_load (x := .tmp 107) Tryz.isAgg3 Tryz.sizeOf3 lI fun jM mI gG => ?_
      obtain rfl := RV_int.1 mI
      obtain ⟨rA, hG, h⟩ := bsome h
      obtain ⟨pL, n9, h⟩ := bsome h
      obtain ⟨bb1243, cc1243, ss1243, hq1243, iG⟩ := (OV.slice b701 (Cxt.idx (Cxt.fld (Cxt.root ow_PayTable bk701) fl_PayTable_0 (u3) (sk161)) ((u3).Rows) (Int.toNat x5) bb1229 cc1229 ss1229 (idx_nat x6).2 m8) ((congrArg (fun q => ({ u3 with Rows := q } : PayTable)) (set_idx x6)).trans rfl) (((congrArg (fun q => ((Sl.at bb1229 cc1229 q), (Prod.snd sk161))) (set_getD (by rw [m8]; exact (idx_nat x6).2))).trans (congrArg (fun q => (q, (Prod.snd sk161))) (hq1229).symm)).trans rfl) (ok_at (ok161.1) hq1229 (by rw [m8]; exact (idx_nat x6).2))).2 n9
      refine E_drawL (g := jI) (n := 18) [(16, (fun v g w => v = .int .i64 (rA)))] [0, 1, 2, 3, 4, 5, 6, 7, 8, 9, 10, 11, 12, 13, 14, 15, 16, 17] rfl mixed (by kernel_rfl) (⟨fun _ => up_eq _, trivial⟩) ?_
      refine L_p ((.pointer (some ⟨bk701, (0 + 0), none⟩))) rfl rfl (P_fieldAddrH at_58_0 rfl) ?_
      refine L_ld (c := (hdrV (Prod.fst sk161) ((u3).Rows).length)) rfl rfl .plain (fun _ _ h => ⟨h.ch, fun b hb _ => h.below.block b hb⟩) aG rfl ?_
      refine L_p (.int .i64 (x5)) rfl rfl (P_move rfl) ?_
      refine L_p ((.pointer (some ⟨bb1229, ((Int.toNat x5) * 1), none⟩))) rfl rfl (P_indexH Tryz.underlying56 Tryz.sizeOf23 (rfl.trans (hdr_at hq1229 _)) rfl (idx_nat x6)) ?_
      refine L_ld (c := (hdrV (List.getD ss1229 (Int.toNat x5) ((Ow.list 3 (Ow.sh Int))).df) (cC).length)) rfl rfl .plain (fun _ _ h => ⟨h.ch, fun b hb _ => h.below.block b hb⟩) bG rfl ?_
      refine L_p (.int .i64 (m7)) rfl rfl (P_move rfl) ?_
      refine L_p (fPtr p6 0) rfl rfl (P_fieldAddr at_58_0 a9 (OB.ptr o0)) ?_
      refine L_ld (c := bE) rfl rfl .plain (fun _ _ h => ⟨h.ch, fun b hb _ => h.below.block b hb⟩) cG rfl ?_
      refine L_p (.int .i64 (x5)) rfl rfl (P_move rfl) ?_
      refine L_p (ePtr bE x5 1) rfl rfl (P_indexAddr (α := List Int) Tryz.underlying56 Tryz.sizeOf23 rfl iE rfl bD) ?_
      refine L_ld (c := lE) rfl rfl .plain (fun _ _ h => h.ch) eG rfl ?_
      refine L_p (.int .i64 (m7)) rfl rfl (P_move rfl) ?_
      refine L_p (ePtr lE m7 1) rfl rfl (P_indexAddr (α := Int) Tryz.underlying23 Tryz.sizeOf3 rfl mE rfl cD) ?_
      refine L_ld (c := .int .i64 (oD)) rfl rfl .plain (fun _ _ h => h.ch) gG rfl ?_
      refine L_p (.int .u16 (UInt16.toNat (x2))) rfl rfl (P_move mC) ?_
      refine L_p (.int .i64 (((x2).toNat : Int))) rfl rfl (P_u16int Tryz.underlying81 Tryz.underlying3 rfl) ?_
      refine L_do (φ := fun v g w => v = .int .i64 (rA)) rfl rfl .plain (fun g w hd => D_call (g := g) (vs := [.int .i64 (oD), .int .i64 (((x2).toNat : Int)), .int .i64 (1000000)]) en43 (.cons rfl (.cons rfl (.cons rfl .nil))) (wk43  hG) fun g' w' v hs hr => ⟨g', hs, hr⟩) (fun kM hv => ?_)
      obtain ⟨_, _, _, rfl⟩ := hv
      refine L_p ((.pointer (some ⟨bb1243, ((Int.toNat m7) * 1), none⟩))) rfl rfl (P_indexH Tryz.underlying23 Tryz.sizeOf3 (rfl.trans (hdr_at hq1243 _)) rfl (idx_nat n9)) ?_
      refine L_nl fun nI mM hs => ?_
      have hfr := hfr.ext hs
      have b701 := b701.ext hs
      have b1224 := b1224.ext hs
      clear hs
      refine EL_do .plain rfl (D_storeOV (g := nI) (u' := (rA : Int)) (Cxt.idx (Cxt.idx (Cxt.fld (Cxt.root ow_PayTable bk701) fl_PayTable_0 (u3) (sk161)) ((u3).Rows) (Int.toNat x5) bb1229 cc1229 ss1229 (idx_nat x6).2 m8) (cC) (Int.toNat m7) bb1243 cc1243 ss1243 (idx_nat n9).2 iG) ((congrArg (fun q => ({ u3 with Rows := (List.set ((u3).Rows) (Int.toNat x5) q) } : PayTable)) (set_idx n9)).trans ((congrArg (fun q => ({ u3 with Rows := q } : PayTable)) (set_idx x6)).trans rfl)) (((congrArg (fun q => ((Sl.at bb1229 cc1229 (List.set ss1229 (Int.toNat x5) (Sl.at bb1243 cc1243 q))), (Prod.snd sk161))) set_unit).trans (congrArg (fun q => ((Sl.at bb1229 cc1229 (List.set ss1229 (Int.toNat x5) q)), (Prod.snd sk161))) (hq1243).symm)).trans (((congrArg (fun q => ((Sl.at bb1229 cc1229 q), (Prod.snd sk161))) (set_getD (by rw [m8]; exact (idx_nat x6).2))).trans (congrArg (fun q => (q, (Prod.snd sk161))) (hq1229).symm)).trans rfl)) Tryz.sizeOf3 rfl b701 rfl (RV_int.2 rfl) fun nE pI hs b1310 => ?_)
      have hfr := hfr.stp hs
      have b1224 := b1224.stp hs rfl
      replace b1310 : OV ow_PayTable 2014 nE pI 58 (({ u3 with Rows := (List.set ((u3).Rows) (Int.toNat x5) (List.set cC (Int.toNat m7) rA)) } : PayTable) : PayTable) bk701 sk161 := b1310
      refine EL_nil (blk_n ?_)
      obtain ⟨rfl, rfl⟩ := pairs2 h
      exact hQ _ _ ⟨nE, hfr, rfl, ⟨_, b1310, ok161⟩, rfl, b1224⟩
     ·refine E_cf oB rfl ?_
      refine E_seq (E_region (EL_p (.bool ((((((1 : UInt8) + i7)).toNat : Int) == (2 : Int)))) (P_int rfl rfl rfl) rfl ?_))
      refine EL_p (.bool ((((((1 : UInt8) + i7)).toNat : Int) == (2 : Int)))) (P_assign rfl) rfl ?_
      refine EL_nil (thn_n ?_)
      rcases csome h with ⟨tB, h⟩ | ⟨tB, h⟩
      ·refine E_ct tB rfl ?_
       refine E_seq (L_loadO (x := .tmp 116) part_PayTable_1.1 Tryz.isAgg23 Tryz.sizeOf23 o0 fun oE rE jG => ?_)
       obtain ⟨uH, eD, h⟩ := bsome h
       have qI := PT_idx rE eD
       refine L_load (x := .tmp 119) Tryz.isAgg3 Tryz.sizeOf3 qI fun nM sI kG => ?_
       obtain rfl := RV_int.1 sI
       refine E_drawB (a0 := ((⟨((((1 : UInt8) + i7)).toNat : Int), 0, 0, 0⟩ : PayEntry) : PayEntry)) (a1 := ((⟨((((1 : UInt8) + i7)).toNat : Int), x5, 0, 0⟩ : PayEntry) : PayEntry)) b821 (n := 9) [(7, (fun _ g w => OB 2015 g w 100 ((⟨((((1 : UInt8) + i7)).toNat : Int), x5, 0, 0⟩ : PayEntry) : PayEntry) g8))] [0, 1, 2, 3, 4, 5, 6, 7, 8] rfl mixed (by kernel_rfl) (⟨fun _ => up_box, trivial⟩) ?_
       refine L_p (.int .i64 (x5)) rfl rfl (P_move rfl) ?_
       refine L_p (fPtr p6 1) rfl rfl (P_fieldAddr at_58_1 a9 (OB.ptr o0)) ?_
       refine L_ld (c := oE) rfl rfl .plain (fun _ _ h => ⟨h.1.ch, fun b hb ho => h.1.block b hb (by rw [ho]; decide)⟩) jG rfl ?_
       refine L_p (.int .i64 (x5)) rfl rfl (P_move rfl) ?_
       refine L_p (ePtr oE x5 1) rfl rfl (P_indexAddr (α := Int) Tryz.underlying23 Tryz.sizeOf3 rfl rE rfl eD) ?_
       refine L_ld (c := .int .i64 (uH)) rfl rfl .plain (fun _ _ h => h.1.ch) kG rfl ?_
       refine L_p (fPtr g8 1) rfl rfl (P_fieldAddr at_100_1 rfl (OB.ptr b821)) ?_
       refine L_do (φ := fun _ g w => OB 2015 g w 100 ((⟨((((1 : UInt8) + i7)).toNat : Int), x5, 0, 0⟩ : PayEntry) : PayEntry) g8) rfl rfl .plain (fun g w hd => D_storeR (g := g) (by rfl) (by exact rfl) part_PayEntry_1 Tryz.sizeOf3 rfl hd.1.2 rfl (RV_int.2 rfl)) (fun oM hv => ?_)
       clear hv
       refine L_p (fPtr g8 3) rfl rfl (P_fieldAddr at_100_3 rfl (OB.ptr b821)) ?_
       refine L_nil fun tI pM hall => ?_
       have hs := hall.1.1
       have hfr := hfr.stp hs
       have o0 := o0.stp hs rfl
       have b701 := b701.stp hs rfl
       have b1352 := (word_all (A := fun g w => OB 2015 g w 100 ((⟨((((1 : UInt8) + i7)).toNat : Int), x5, 0, 0⟩ : PayEntry) : PayEntry) g8) 7 rfl hall)
       clear hs hall
       refine EL_do .plain rfl (D_storeFc (g := tI) part_PayEntry_3 Tryz.sizeOf3 rfl b1352 rfl (RV_int.2 rfl) fun uI qM hs b1367 rst hos => ?_)
       clear rst hos
       have hfr := hfr.stp hs
       have o0 := o0.stp hs rfl
       have b701 := b701.stp hs rfl
       refine EL_nil (thn_n (L_loadH (x := .tmp 123) (Cxt.fld (Cxt.root ow_PayTable bk701) fl_PayTable_1 (u3) (sk161)) rfl rfl ((ok161.2).1) Tryz.isAgg23 b701 fun lG => ?_))
       refine L_loadO (x := .tmp 126) part_PayTable_1.1 Tryz.isAgg23 Tryz.sizeOf23 o0 fun uE vE mG => ?_
       obtain ⟨sD, gD, h⟩ := bsome h
       have vI := PT_idx vE gD
       refine L_load (x := .tmp 129) Tryz.isAgg3 Tryz.sizeOf3 vI fun rM yI sG => ?_
       obtain rfl := RV_int.1 yI
       obtain ⟨yA, xG, h⟩ := bsome h
       obtain ⟨qL, u9, h⟩ := bsome h
       obtain ⟨bb1379, cc1379, ss1379, hq1379, yG⟩ := (OV.slice b701 (Cxt.fld (Cxt.root ow_PayTable bk701) fl_PayTable_1 (u3) (sk161)) rfl rfl ((ok161.2).1)).2 u9
       refine E_drawL (g := uI) (n := 12) [(10, (fun v g w => v = .int .i64 (yA)))] [0, 1, 2, 3, 4, 5, 6, 7, 8, 9, 10, 11] rfl mixed (by kernel_rfl) (⟨fun _ => up_eq _, trivial⟩) ?_
       refine L_p ((.pointer (some ⟨bk701, (0 + 1), none⟩))) rfl rfl (P_fieldAddrH at_58_1 rfl) ?_
       refine L_ld (c := (hdrV (Prod.fst (Prod.snd sk161)) ((u3).Across).length)) rfl rfl .plain (fun _ _ h => ⟨h.ch, fun b hb _ => h.below.block b hb⟩) lG rfl ?_
       refine L_p (.int .i64 (x5)) rfl rfl (P_move rfl) ?_
       refine L_p (fPtr p6 1) rfl rfl (P_fieldAddr at_58_1 a9 (OB.ptr o0)) ?_
       refine L_ld (c := uE) rfl rfl .plain (fun _ _ h => ⟨h.ch, fun b hb _ => h.below.block b hb⟩) mG rfl ?_
       refine L_p (.int .i64 (x5)) rfl rfl (P_move rfl) ?_
       refine L_p (ePtr uE x5 1) rfl rfl (P_indexAddr (α := Int) Tryz.underlying23 Tryz.sizeOf3 rfl vE rfl gD) ?_
       refine L_ld (c := .int .i64 (sD)) rfl rfl .plain (fun _ _ h => h.ch) sG rfl ?_
       refine L_p (.int .u16 (UInt16.toNat (x2))) rfl rfl (P_move mC) ?_
       refine L_p (.int .i64 (((x2).toNat : Int))) rfl rfl (P_u16int Tryz.underlying81 Tryz.underlying3 rfl) ?_
       refine L_do (φ := fun v g w => v = .int .i64 (yA)) rfl rfl .plain (fun g w hd => D_call (g := g) (vs := [.int .i64 (sD), .int .i64 (((x2).toNat : Int)), .int .i64 (1000000000)]) en43 (.cons rfl (.cons rfl (.cons rfl .nil))) (wk43  xG) fun g' w' v hs hr => ⟨g', hs, hr⟩) (fun sM hv => ?_)
       obtain ⟨_, _, _, rfl⟩ := hv
       refine L_p ((.pointer (some ⟨bb1379, ((Int.toNat x5) * 1), none⟩))) rfl rfl (P_indexH Tryz.underlying23 Tryz.sizeOf3 (rfl.trans (hdr_at hq1379 _)) rfl (idx_nat u9)) ?_
       refine L_nl fun zI tM hs => ?_
       have hfr := hfr.ext hs
       have b701 := b701.ext hs
       have b1367 := b1367.ext hs
       clear hs
       refine EL_do .plain rfl (D_storeOV (g := zI) (u' := (yA : Int)) (Cxt.idx (Cxt.fld (Cxt.root ow_PayTable bk701) fl_PayTable_1 (u3) (sk161)) ((u3).Across) (Int.toNat x5) bb1379 cc1379 ss1379 (idx_nat u9).2 yG) ((congrArg (fun q => ({ u3 with Across := q } : PayTable)) (set_idx u9)).trans rfl) (((congrArg (fun q => ((Prod.fst sk161), ((Sl.at bb1379 cc1379 q), (Prod.snd (Prod.snd sk161))))) set_unit).trans (congrArg (fun q => ((Prod.fst sk161), (q, (Prod.snd (Prod.snd sk161))))) (hq1379).symm)).trans rfl) Tryz.sizeOf3 rfl b701 rfl (RV_int.2 rfl) fun xE eJ hs b1437 => ?_)
       have hfr := hfr.stp hs
       have b1367 := b1367.stp hs rfl
       replace b1437 : OV ow_PayTable 2014 xE eJ 58 (({ u3 with Across := (List.set ((u3).Across) (Int.toNat x5) yA) } : PayTable) : PayTable) bk701 sk161 := b1437
       refine EL_nil (blk_n ?_)
       obtain ⟨rfl, rfl⟩ := pairs2 h
       exact hQ _ _ ⟨xE, hfr, rfl, ⟨_, b1437, ok161⟩, rfl, b1367⟩
      ·refine E_cf tB rfl ?_
       refine E_seq (E_region (EL_p (.bool ((((((1 : UInt8) + i7)).toNat : Int) == (3 : Int)))) (P_int rfl rfl rfl) rfl ?_))
       refine EL_p (.bool ((((((1 : UInt8) + i7)).toNat : Int) == (3 : Int)))) (P_assign rfl) rfl ?_
       refine EL_nil (thn_n ?_)
       rcases csome h with ⟨vB, h⟩ | ⟨vB, h⟩
       ·refine E_ct vB rfl ?_
        refine E_seq (L_loadO (x := .tmp 138) part_PayTable_2.1 Tryz.isAgg23 Tryz.sizeOf23 o0 fun yE zE zG => ?_)
        obtain ⟨xH, iD, h⟩ := bsome h
        have gJ := PT_idx zE iD
        refine L_load (x := .tmp 141) Tryz.isAgg3 Tryz.sizeOf3 gJ fun uM iJ aH => ?_
        obtain rfl := RV_int.1 iJ
        refine E_drawB (a0 := ((⟨((((1 : UInt8) + i7)).toNat : Int), 0, 0, 0⟩ : PayEntry) : PayEntry)) (a1 := ((⟨((((1 : UInt8) + i7)).toNat : Int), 0, m7, 0⟩ : PayEntry) : PayEntry)) b821 (n := 9) [(7, (fun _ g w => OB 2015 g w 100 ((⟨((((1 : UInt8) + i7)).toNat : Int), 0, m7, 0⟩ : PayEntry) : PayEntry) g8))] [0, 1, 2, 3, 4, 5, 6, 7, 8] rfl mixed (by kernel_rfl) (⟨fun _ => up_box, trivial⟩) ?_
        refine L_p (.int .i64 (m7)) rfl rfl (P_move rfl) ?_
        refine L_p (fPtr p6 2) rfl rfl (P_fieldAddr at_58_2 a9 (OB.ptr o0)) ?_
        refine L_ld (c := yE) rfl rfl .plain (fun _ _ h => ⟨h.1.ch, fun b hb ho => h.1.block b hb (by rw [ho]; decide)⟩) zG rfl ?_
        refine L_p (.int .i64 (m7)) rfl rfl (P_move rfl) ?_
        refine L_p (ePtr yE m7 1) rfl rfl (P_indexAddr (α := Int) Tryz.underlying23 Tryz.sizeOf3 rfl zE rfl iD) ?_
        refine L_ld (c := .int .i64 (xH)) rfl rfl .plain (fun _ _ h => h.1.ch) aH rfl ?_
        refine L_p (fPtr g8 2) rfl rfl (P_fieldAddr at_100_2 rfl (OB.ptr b821)) ?_
        refine L_do (φ := fun _ g w => OB 2015 g w 100 ((⟨((((1 : UInt8) + i7)).toNat : Int), 0, m7, 0⟩ : PayEntry) : PayEntry) g8) rfl rfl .plain (fun g w hd => D_storeR (g := g) (by rfl) (by exact rfl) part_PayEntry_2 Tryz.sizeOf3 rfl hd.1.2 rfl (RV_int.2 rfl)) (fun vM hv => ?_)
        clear hv
        refine L_p (fPtr g8 3) rfl rfl (P_fieldAddr at_100_3 rfl (OB.ptr b821)) ?_
        refine L_nil fun jJ xM hall => ?_
        have hs := hall.1.1
        have hfr := hfr.stp hs
        have o0 := o0.stp hs rfl
        have b701 := b701.stp hs rfl
        have b1479 := (word_all (A := fun g w => OB 2015 g w 100 ((⟨((((1 : UInt8) + i7)).toNat : Int), 0, m7, 0⟩ : PayEntry) : PayEntry) g8) 7 rfl hall)
        clear hs hall
        refine EL_do .plain rfl (D_storeFc (g := jJ) part_PayEntry_3 Tryz.sizeOf3 rfl b1479 rfl (RV_int.2 rfl) fun kJ bN hs b1496 rst hos => ?_)
        clear rst hos
        have hfr := hfr.stp hs
        have o0 := o0.stp hs rfl
        have b701 := b701.stp hs rfl
        refine EL_nil (thn_n (L_loadH (x := .tmp 145) (Cxt.fld (Cxt.root ow_PayTable bk701) fl_PayTable_2 (u3) (sk161)) rfl rfl (((ok161.2).2).1) Tryz.isAgg23 b701 fun cH => ?_))
        refine L_loadO (x := .tmp 148) part_PayTable_2.1 Tryz.isAgg23 Tryz.sizeOf23 o0 fun cF dF dH => ?_
        obtain ⟨tD, jD, h⟩ := bsome h
        have lJ := PT_idx dF jD
        refine L_load (x := .tmp 151) Tryz.isAgg3 Tryz.sizeOf3 lJ fun cN mJ gH => ?_
        obtain rfl := RV_int.1 mJ
        obtain ⟨aB, iH, h⟩ := bsome h
        obtain ⟨rL, y9, h⟩ := bsome h
        obtain ⟨bb1508, cc1508, ss1508, hq1508, jH⟩ := (OV.slice b701 (Cxt.fld (Cxt.root ow_PayTable bk701) fl_PayTable_2 (u3) (sk161)) rfl rfl (((ok161.2).2).1)).2 y9
        refine E_drawL (g := kJ) (n := 12) [(10, (fun v g w => v = .int .i64 (aB)))] [0, 1, 2, 3, 4, 5, 6, 7, 8, 9, 10, 11] rfl mixed (by kernel_rfl) (⟨fun _ => up_eq _, trivial⟩) ?_
        refine L_p ((.pointer (some ⟨bk701, (0 + 2), none⟩))) rfl rfl (P_fieldAddrH at_58_2 rfl) ?_
        refine L_ld (c := (hdrV (Prod.fst (Prod.snd (Prod.snd sk161))) ((u3).Down).length)) rfl rfl .plain (fun _ _ h => ⟨h.ch, fun b hb _ => h.below.block b hb⟩) cH rfl ?_
        refine L_p (.int .i64 (m7)) rfl rfl (P_move rfl) ?_
        refine L_p (fPtr p6 2) rfl rfl (P_fieldAddr at_58_2 a9 (OB.ptr o0)) ?_
        refine L_ld (c := cF) rfl rfl .plain (fun _ _ h => ⟨h.ch, fun b hb _ => h.below.block b hb⟩) dH rfl ?_
        refine L_p (.int .i64 (m7)) rfl rfl (P_move rfl) ?_
        refine L_p (ePtr cF m7 1) rfl rfl (P_indexAddr (α := Int) Tryz.underlying23 Tryz.sizeOf3 rfl dF rfl jD) ?_
        refine L_ld (c := .int .i64 (tD)) rfl rfl .plain (fun _ _ h => h.ch) gH rfl ?_
        refine L_p (.int .u16 (UInt16.toNat (x2))) rfl rfl (P_move mC) ?_
        refine L_p (.int .i64 (((x2).toNat : Int))) rfl rfl (P_u16int Tryz.underlying81 Tryz.underlying3 rfl) ?_
        refine L_do (φ := fun v g w => v = .int .i64 (aB)) rfl rfl .plain (fun g w hd => D_call (g := g) (vs := [.int .i64 (tD), .int .i64 (((x2).toNat : Int)), .int .i64 (1000000000)]) en43 (.cons rfl (.cons rfl (.cons rfl .nil))) (wk43  iH) fun g' w' v hs hr => ⟨g', hs, hr⟩) (fun dN hv => ?_)
        obtain ⟨_, _, _, rfl⟩ := hv
        refine L_p ((.pointer (some ⟨bb1508, ((Int.toNat m7) * 1), none⟩))) rfl rfl (P_indexH Tryz.underlying23 Tryz.sizeOf3 (rfl.trans (hdr_at hq1508 _)) rfl (idx_nat y9)) ?_
        refine L_nl fun nJ eN hs => ?_
        have hfr := hfr.ext hs
        have b701 := b701.ext hs
        have b1496 := b1496.ext hs
        clear hs
        refine EL_do .plain rfl (D_storeOV (g := nJ) (u' := (aB : Int)) (Cxt.idx (Cxt.fld (Cxt.root ow_PayTable bk701) fl_PayTable_2 (u3) (sk161)) ((u3).Down) (Int.toNat m7) bb1508 cc1508 ss1508 (idx_nat y9).2 jH) ((congrArg (fun q => ({ u3 with Down := q } : PayTable)) (set_idx y9)).trans rfl) (((congrArg (fun q => ((Prod.fst sk161), ((Prod.fst (Prod.snd sk161)), ((Sl.at bb1508 cc1508 q), (Prod.snd (Prod.snd (Prod.snd sk161))))))) set_unit).trans (congrArg (fun q => ((Prod.fst sk161), ((Prod.fst (Prod.snd sk161)), (q, (Prod.snd (Prod.snd (Prod.snd sk161))))))) (hq1508).symm)).trans rfl) Tryz.sizeOf3 rfl b701 rfl (RV_int.2 rfl) fun eF oJ hs b1568 => ?_)
        have hfr := hfr.stp hs
        have b1496 := b1496.stp hs rfl
        replace b1568 : OV ow_PayTable 2014 eF oJ 58 (({ u3 with Down := (List.set ((u3).Down) (Int.toNat m7) aB) } : PayTable) : PayTable) bk701 sk161 := b1568
        refine EL_nil (blk_n ?_)
        obtain ⟨rfl, rfl⟩ := pairs2 h
        exact hQ _ _ ⟨eF, hfr, rfl, ⟨_, b1568, ok161⟩, rfl, b1496⟩
       ·refine E_cf vB rfl ?_
        refine E_seq (E_region (EL_p (fPtr p6 3) (P_fieldAddr at_58_3 a9 (OB.ptr o0)) rfl ?_))
        refine EL_do .plain rfl (D_loadF (g := nB) part_PayTable_3.1 Tryz.isAgg3 Tryz.sizeOf3 rfl o0 fun gN pJ => ?_)
        obtain rfl := RV_int.1 pJ
        refine EL_p (fPtr g8 3) (P_fieldAddr at_100_3 rfl (OB.ptr b821)) rfl ?_
        refine EL_do .plain rfl (D_storeFc (g := nB) part_PayEntry_3 Tryz.sizeOf3 rfl b821 rfl (RV_int.2 rfl) fun rF iN hs b1572 rst hos => ?_)
        clear rst hos
        have hfr := hfr.stp hs
        have o0 := o0.stp hs rfl
        have b701 := b701.stp hs rfl
        refine EL_nil (thn_n (E_region (EL_p (fPtr p6 3) (P_fieldAddr at_58_3 a9 (OB.ptr o0)) rfl ?_)))
        refine EL_do .plain rfl (D_loadF (g := rF) part_PayTable_3.1 Tryz.isAgg3 Tryz.sizeOf3 rfl o0 fun jN qJ => ?_)
        obtain rfl := RV_int.1 qJ
        refine EL_mv mC rfl ?_
        refine EL_p (.int .i64 (((x2).toNat : Int))) (P_u16int Tryz.underlying81 Tryz.underlying3 rfl) rfl ?_
        obtain ⟨uD, kH, h⟩ := bsome h
        refine EL_do .plain rfl (D_call (g := rF) (vs := [.int .i64 ((y5).Total), .int .i64 (((x2).toNat : Int)), .int .i64 (1000000000)]) en43 (.cons rfl (.cons rfl (.cons rfl .nil))) (wk43  kH) fun rJ lL kN hs hr => ?_)
        have hfr := hfr.ext hs
        have b701 := b701.ext hs
        have b1572 := b1572.ext hs
        subst hr
        refine EL_p ((.pointer (some ⟨bk701, (0 + 3), none⟩))) (P_fieldAddrH at_58_3 rfl) rfl ?_
        refine EL_do .plain rfl (D_storeOV (g := rJ) (u' := (uD : Int)) (Cxt.fld (Cxt.root ow_PayTable bk701) fl_PayTable_3 (u3) (sk161)) rfl rfl Tryz.sizeOf3 rfl b701 rfl (RV_int.2 rfl) fun sF sJ hs b1579 => ?_)
        have hfr := hfr.stp hs
        have b1572 := b1572.stp hs rfl
        replace b1579 : OV ow_PayTable 2014 sF sJ 58 (({ u3 with Total := uD } : PayTable) : PayTable) bk701 sk161 := b1579
        refine EL_nil (blk_n ?_)
        obtain ⟨rfl, rfl⟩ := pairs2 h
        exact hQ _ _ ⟨sF, hfr, rfl, ⟨_, b1579, ok161⟩, rfl, b1572⟩
    ·clear hx
     obtain ⟨lB, hfr, yB, ⟨pK, i6, iA⟩, xD, l5⟩ := hR
     refine E_seq (E_region (EL_do .plain rfl (D_loadAL (g := lB) Tryz.isAgg58 Tryz.sizeOf58 yB i6 fun vJ al1582 => ?_)))
     obtain ⟨dL, lH, h⟩ := bsome h
     refine EL_do .plain rfl (D_callGF (g := lB) (vs := [vJ]) en35 (.cons rfl .nil) (W35 (iO := 4159) (AL.lent al1582 i6 iA rfl) lH) fun gl1583 mH xJ hxl hr => ?_)
     have hm1583 := OWx.unlend fw_ow_PayTable hxl hr
     obtain ⟨yJ, hge1583⟩ : ∃ g, g = { m := fun b => if b < yD.heap.size then lB.m b else gl1583.m b, o := gl1583.o : Gh } := ⟨_, rfl⟩
     rw [← hge1583] at hm1583
     have hs : Ext lB yD yJ mH := hge1583 ▸ unlend hxl
     clear hxl hr hge1583
     have hfr := hfr.ext hs
     have i6 := i6.ext hs
     have l5 := l5.ext hs
     obtain ⟨sk1583, ow1583, ok1583⟩ := hm1583
     obtain ⟨gp1585, hs, rp1585⟩ := OW.pub ow1583 ok1583
     have hfr := hfr.stp hs
     have i6 := i6.stp hs rfl
     have l5 := l5.stp hs rfl
     obtain ⟨t5, nH, h⟩ := bsome h
     refine EL_do .plain rfl (D_call (g := gp1585) (vs := [xJ]) en41 (.cons rfl .nil) (wk41 rp1585 nH) fun mB lD lN hs hr => ?_)
     have hfr := hfr.ext hs
     have i6 := i6.ext hs
     have l5 := l5.ext hs
     obtain ⟨xK, yK, rfl, rfl, rfl⟩ := hr
     refine EL_mw (.tuple #[.bool (t5.1), .int .i64 (t5.2)]) rfl rfl ?_
     refine EL_p (.bool (t5.1)) (P_extract rfl rfl) rfl ?_
     refine EL_p (.int .i64 (t5.2)) (P_extract rfl rfl) rfl ?_
     refine EL_at (.bool (t5.1)) rfl rfl ?_
     refine EL_at (.int .i64 (t5.2)) rfl rfl ?_
     refine EL_nil (thn_n (E_seq (E_region (EL_do .plain rfl (D_loadAL (g := mB) Tryz.isAgg58 Tryz.sizeOf58 yB i6 fun zJ al1589 => ?_)))))
     obtain ⟨eL, oH, h⟩ := bsome h
     refine EL_do .plain rfl (D_callGF (g := mB) (vs := [zJ]) en35 (.cons rfl .nil) (W35 (iO := 4165) (AL.lent al1589 i6 iA rfl) oH) fun gl1590 pH aK hxl hr => ?_)
     have hm1590 := OWx.unlend fw_ow_PayTable hxl hr
     obtain ⟨bK, hge1590⟩ : ∃ g, g = { m := fun b => if b < lD.heap.size then mB.m b else gl1590.m b, o := gl1590.o : Gh } := ⟨_, rfl⟩
     rw [← hge1590] at hm1590
     have hs : Ext mB lD bK pH := hge1590 ▸ unlend hxl
     clear hxl hr hge1590
     have hfr := hfr.ext hs
     have l5 := l5.ext hs
     obtain ⟨sk1590, ow1590, ok1590⟩ := hm1590
     obtain ⟨gp1592, hs, rp1592⟩ := OW.pub ow1590 ok1590
     have hfr := hfr.stp hs
     have l5 := l5.stp hs rfl
     obtain ⟨y6, qH, h⟩ := bsome h
     refine EL_do .plain rfl (D_call (g := gp1592) (vs := [aK]) en42 (.cons rfl .nil) (wk42 rp1592 qH) fun cK mL mN hs hr => ?_)
     have hfr := hfr.ext hs
     have l5 := l5.ext hs
     obtain ⟨z9, zK, rfl, bA, rfl⟩ := hr
     refine EL_mw (.tuple #[z9, .int .i64 (y6.2)]) rfl rfl ?_
     refine EL_p z9 (P_extract rfl rfl) rfl ?_
     refine EL_p (.int .i64 (y6.2)) (P_extract rfl rfl) rfl ?_
     refine EL_do .plain rfl (D_allocOc (g := cK) 2016 (⟨0, 0, 0, 0⟩ : PayEntry) Tryz.zeroValue100 (fun m w => ⟨_, (rep_two rep_int (rep_two rep_int (rep_two rep_int rep_int))), rfl⟩) fun dK nN oN hs b1595 cb => ?_)
     have hfr := hfr.stp hs
     have l5 := l5.stp hs rfl
     have bA := bA.stp hs
     clear cb
     refine EL_do .plain rfl (D_storeOc (g := dK) (v := z9) Tryz.sizeOf100 rfl b1595 rfl bA fun k9 pN hs b1596 cb => ?_)
     clear cb
     have hfr := hfr.stp hs
     have l5 := l5.stp hs rfl
     refine EL_at (.int .i64 (y6.2)) rfl rfl ?_
     refine EL_nil (thn_n ?_)
     obtain ⟨zB, hx, h⟩ := bsome h
     refine E_join (fun e w => ∃ (g : Gh) , Fr gI wI g w ∧ e 6 = .bool (zB)) (fun Q' hQ => ?_) (fun nL qN hR => ?_)
     ·replace h := hx
      clear hx
      refine E_region (EL_mw (.int .i64 (t5.2)) rfl rfl ?_)
      refine EL_in (.bool ((t5.2 == (0 : Int)))) rfl rfl rfl rfl ?_
      refine EL_mw (.bool ((t5.2 == (0 : Int)))) rfl rfl ?_
      rcases csome h with ⟨n8, h⟩ | ⟨n8, h⟩
      ·refine EL_y (.bool (t5.1)) (P_move rfl) rfl rfl n8 rfl ?_
       refine EL_y (.bool (!t5.1)) (P_not rfl) rfl rfl n8 rfl ?_
       refine EL_p (.bool (!t5.1)) (P_pick (b := (t5.2 == (0 : Int))) rfl (pick_t n8 rfl)) rfl ?_
       refine EL_mw (.bool (!t5.1)) rfl rfl ?_
       rcases csome h with ⟨x8, h⟩ | ⟨x8, h⟩
       ·refine EL_y (.int .i64 (y6.2)) (P_move rfl) rfl rfl x8 rfl ?_
        refine EL_y (.bool ((y6.2 == (0 : Int)))) (P_int rfl rfl rfl) rfl rfl x8 rfl ?_
        refine EL_p (.bool ((y6.2 == (0 : Int)))) (P_pick (b := (!t5.1)) rfl (pick_t x8 rfl)) rfl ?_
        refine EL_mw (.bool ((y6.2 == (0 : Int)))) rfl rfl ?_
        rcases csome h with ⟨k8, h⟩ | ⟨k8, h⟩
        ·refine EL_do (.yes2 rfl rfl k8) rfl (D_loadO (g := k9) Tryz.isAgg100 Tryz.sizeOf100 rfl b1596 fun rN lK => ?_)
         refine EL_do (.yes2 rfl rfl k8) rfl (D_loadO (g := k9) Tryz.isAgg100 Tryz.sizeOf100 xD l5 fun sN mK => ?_)
         refine EL_y (.bool ((decide (y6.1 = l8)))) (P_seq seq_100 rfl eg_100 rfl rfl lK mK) rfl rfl k8 rfl ?_
         refine EL_p (.bool ((decide (y6.1 = l8)))) (P_pick (b := (y6.2 == (0 : Int))) rfl (pick_t k8 rfl)) rfl ?_
         refine EL_mw (.bool ((decide (y6.1 = l8)))) rfl rfl ?_
         rcases csome h with ⟨l9, h⟩ | ⟨l9, h⟩
         ·obtain ⟨vD, sH, h⟩ := bsome h
          refine EL_do (.yes2 rfl rfl l9) rfl (D_call (g := k9) (vs := []) en12 .nil (wk12  sH) fun nK oL tN hs hr => ?_)
          have hfr := hfr.ext hs
          subst hr
          refine EL_p (.bool (vD)) (P_pick (b := (decide (y6.1 = l8))) rfl (pick_t l9 rfl)) rfl ?_
          refine EL_at (.bool (vD)) rfl rfl ?_
          refine EL_nil ?_
          obtain rfl := sinj h
          exact hQ _ _ ⟨nK, hfr, rfl⟩
         ·refine EL_s rfl rfl l9 rfl rfl ?_
          refine EL_p (.bool false) (P_pick (b := (decide (y6.1 = l8))) rfl (pick_f l9 rfl)) rfl ?_
          refine EL_at (.bool false) rfl rfl ?_
          refine EL_nil ?_
          obtain rfl := sinj h
          exact hQ _ _ ⟨k9, hfr, rfl⟩
        ·refine EL_s rfl rfl k8 rfl rfl ?_
         refine EL_s rfl rfl k8 rfl rfl ?_
         refine EL_s rfl rfl k8 rfl rfl ?_
         refine EL_p (.bool false) (P_pick (b := (y6.2 == (0 : Int))) rfl (pick_f k8 rfl)) rfl ?_
         refine EL_dead 3 rfl ?_
         refine EL_at (.bool false) rfl rfl ?_
         refine EL_nil ?_
         obtain rfl := sinj h
         exact hQ _ _ ⟨k9, hfr, rfl⟩
       ·refine EL_s rfl rfl x8 rfl rfl ?_
        refine EL_s rfl rfl x8 rfl rfl ?_
        refine EL_p (.bool false) (P_pick (b := (!t5.1)) rfl (pick_f x8 rfl)) rfl ?_
        refine EL_dead 8 rfl ?_
        refine EL_at (.bool false) rfl rfl ?_
        refine EL_nil ?_
        obtain rfl := sinj h
        exact hQ _ _ ⟨k9, hfr, rfl⟩
      ·refine EL_s rfl rfl n8 rfl rfl ?_
       refine EL_s rfl rfl n8 rfl rfl ?_
       refine EL_p (.bool false) (P_pick (b := (t5.2 == (0 : Int))) rfl (pick_f n8 rfl)) rfl ?_
       refine EL_dead 12 rfl ?_
       refine EL_at (.bool false) rfl rfl ?_
       refine EL_nil ?_
       obtain rfl := sinj h
       exact hQ _ _ ⟨k9, hfr, rfl⟩
     ·clear hx
      obtain ⟨uN, hfr, tF⟩ := hR
      refine E_ret ?_
      obtain rfl := sinj h
      exact end1 rfl rfl (show _ = .bool (zB) from tF) ⟨_, hfr, rfl⟩
   ·refine CT_do [2007] rfl rfl rfl .plain (D_allocOc (g := uK) 2015 (⟨0, 0, 0, 0⟩ : PayEntry) Tryz.zeroValue100 (fun m w => ⟨_, (rep_two rep_int (rep_two rep_int (rep_two rep_int rep_int))), rfl⟩) fun vK eO g8 hs b641 cb => ?_)
    have hfr := hfr.stp hs
    have hlt := hlt.stp hs
    have o0 := o0.stp hs rfl
    have d9 := d9.stp hs
    have ow161 := ow161.stp hs rfl
    clear cb
    refine ⟨hlt.toW, ?_⟩
    refine CT_do [2007] rfl rfl rfl .plain (D_allocOc (g := vK) 2014 (⟨[], [], [], 0⟩ : PayTable) Tryz.zeroValue58 (fun m w => ⟨_, (rep_two rep_nil (rep_two rep_nil (rep_two rep_nil rep_int))), rfl⟩) fun nD uF vF hs b581 cb => ?_)
    have hfr := hfr.stp hs
    have hlt := hlt.stp hs
    have o0 := o0.stp hs rfl
    have d9 := d9.stp hs
    have ow161 := ow161.stp hs rfl
    have b641 := b641.stp hs rfl
    have yL : OSF 2014 61400 0 nD uF 23 58 ([] : List (List Int)) vF := cb.osf (by rfl)
    have zL : OSF 2014 61401 1 nD uF 3 58 ([] : List Int) vF := cb.osf (by rfl)
    have aM : OSF 2014 61402 2 nD uF 3 58 ([] : List Int) vF := cb.osf (by rfl)
    clear cb
    refine ⟨hlt.toW, ?_⟩
    refine CT_do [2007] rfl rfl rfl .plain (D_storeOW (g := nD) Tryz.sizeOf58 rfl b581 rfl ow161 rfl fun gj701 qK xN bk701 hsa hsb hpp b701 => ?_)
    have hfr := hfr.stp hsa
    have hlt := hlt.stp hsa
    have o0 := o0.stp hsa rfl
    have d9 := d9.stp hsa
    have b641 := b641.stp hsa rfl
    have hfr := hfr.stp hsb
    have hlt := hlt.stp hsb
    have o0 := o0.stp hsb rfl
    have d9 := d9.stp hsb
    have b641 := b641.stp hsb rfl
    clear hsa hsb
    subst hpp
    refine ⟨hlt.toW, ?_⟩
    refine CT_nil ?_
    clear hlt
    refine EL_do .plain rfl (D_storeOc (g := qK) (v := vL) Tryz.sizeOf100 rfl b641 rfl d9 fun nB sK hs b821 cb => ?_)
    clear cb
    have hfr := hfr.stp hs
    have o0 := o0.stp hs rfl
    have b701 := b701.stp hs rfl
    refine EL_nil (thn_n ?_)
    obtain ⟨⟨qC, l8⟩, hx, h⟩ := bsome h
    refine E_join (fun e w => ∃ (g : Gh) , Fr gI wI g w ∧ e 14 = (Value.pointer (some ⟨bk701, 0, none⟩)) ∧ OVb ow_PayTable 2014 g w 58 (qC : PayTable) bk701 ∧ e 15 = g8 ∧ OB 2015 g w 100 (l8 : PayEntry) g8) (fun Q' hQ => ?_) (fun jL yD hR => ?_)
    ·replace h := hx
     clear hx
     refine E_seq (E_region (EL_p (fPtr g8 0) (P_fieldAddr at_100_0 rfl (OB.ptr b821)) rfl ?_))
     refine EL_do .plain rfl (D_loadF (g := nB) part_PayEntry_0.1 Tryz.isAgg98 Tryz.sizeOf98 rfl b821 fun bM aI => ?_)
     obtain rfl := RV_int.1 aI
     refine EL_nil (thn_n (E_block ?_))
     refine E_seq (E_region (EL_p (.bool ((((((1 : UInt8) + i7)).toNat : Int) == (1 : Int)))) (P_int rfl rfl rfl) rfl ?_))
     refine EL_p (.bool ((((((1 : UInt8) + i7)).toNat : Int) == (1 : Int)))) (P_assign rfl) rfl ?_
     refine EL_nil (thn_n ?_)
     rcases csome h with ⟨oB, h⟩ | ⟨oB, h⟩
     ·refine E_ct oB rfl ?_
      refine E_seq (L_loadO (x := .tmp 84) part_PayTable_0.1 Tryz.isAgg56 Tryz.sizeOf56 o0 fun zD dB xF => ?_)
      obtain ⟨aL, vC, h⟩ := bsome h
      have rC := PT_idx dB vC
      refine L_load (x := .tmp 87) Tryz.isAgg23 Tryz.sizeOf23 rC fun aE iB yF => ?_
      obtain ⟨tH, aD, h⟩ := bsome h
      have uC := PT_idx iB aD
      refine L_load (x := .tmp 90) Tryz.isAgg3 Tryz.sizeOf3 uC fun cM bI zF => ?_
      obtain rfl := RV_int.1 bI
      refine E_drawC (g := nB) (w := sK) (n := 14) [0, 1, 2, 3, 4, 5, 6, 7, 8, 9, 10, 12] [2007] [0, 1, 2, 3, 4, 5, 6, 7, 8, 9, 10, 11, 12, 13] rfl mixed (by kernel_rfl) fun w_c1210 hs hlt => ?_
      have hfr := hfr.ext hs
      have o0 := o0.ext hs
      have b821 := b821.ext hs
      have b701 := b701.ext hs
      clear hs
      refine CH_pur (c := .int .i64 (x5)) rfl rfl .plain (P_move rfl) ?_
      refine CH_pur (c := .int .i64 (m7)) rfl rfl .plain (P_move rfl) ?_
      refine CH_pur (c := fPtr p6 0) rfl rfl .plain (P_fieldAddr at_58_0 a9 (OB.ptr o0)) ?_
      refine CH_ldO (n := 2007) (c := zD) rfl rfl .plain xF rfl rfl ?_
      have dB := dB.ch hlt.1
      refine CH_pur (c := .int .i64 (x5)) rfl rfl .plain (P_move rfl) ?_
      refine CH_pur (c := ePtr zD x5 1) rfl rfl .plain (P_indexAddr (α := List Int) Tryz.underlying56 Tryz.sizeOf23 rfl dB rfl vC) ?_
      have rC := rC.ch hlt.1
      refine CH_ldP (c := aE) rfl rfl .plain yF rfl ?_
      have iB := iB.ch hlt.1
      refine CH_pur (c := .int .i64 (m7)) rfl rfl .plain (P_move rfl) ?_
      refine CH_pur (c := ePtr aE m7 1) rfl rfl .plain (P_indexAddr (α := Int) Tryz.underlying23 Tryz.sizeOf3 rfl iB rfl aD) ?_
      have uC := uC.ch hlt.1
      refine CH_ldP (c := .int .i64 (tH)) rfl rfl .plain zF rfl ?_
      refine CH_pur (c := fPtr g8 1) rfl rfl .plain (P_fieldAddr at_100_1 rfl (OB.ptr b821)) ?_
      refine CH_do rfl rfl .plain (D_storeFc (g := nB) part_PayEntry_1 Tryz.sizeOf3 rfl b821 rfl (RV_int.2 rfl) fun dI dM hs b1220 rst hos => ?_)
      clear rst hos
      have hfr := hfr.stp hs
      have hlt := hlt.stp hs
      have o0 := o0.stp hs rfl
      have b701 := b701.stp hs rfl
      refine ⟨hlt.toW, ?_⟩
      refine CH_pur (c := fPtr g8 2) rfl rfl .plain (P_fieldAddr at_100_2 rfl (OB.ptr b1220)) ?_
      refine CH_do rfl rfl .plain (D_storeFc (g := dI) part_PayEntry_2 Tryz.sizeOf3 rfl b1220 rfl (RV_int.2 rfl) fun iI eM hs b1222 rst hos => ?_)
      clear rst hos
      have hfr := hfr.stp hs
      have hlt := hlt.stp hs
      have o0 := o0.stp hs rfl
      have b701 := b701.stp hs rfl
      refine ⟨hlt.toW, ?_⟩
      refine CH_nil ?_
      clear hlt
      refine EL_p (fPtr g8 3) (P_fieldAddr at_100_3 rfl (OB.ptr b1222)) rfl ?_
      refine EL_do .plain rfl (D_storeFc (g := iI) part_PayEntry_3 Tryz.sizeOf3 rfl b1222 rfl (RV_int.2 rfl) fun jI iM hs b1224 rst hos => ?_)
      clear rst hos
      have hfr := hfr.stp hs
      have o0 := o0.stp hs rfl
      have b701 := b701.stp hs rfl
      refine EL_nil (thn_n (L_loadH (x := .tmp 95) (Cxt.fld (Cxt.root ow_PayTable bk701) fl_PayTable_0 (u3) (sk161)) rfl rfl (ok161.1) Tryz.isAgg56 b701 fun aG => ?_))
      obtain ⟨cC, x6, h⟩ := bsome h
      obtain ⟨bb1229, cc1229, ss1229, hq1229, m8⟩ := (OV.slice b701 (Cxt.fld (Cxt.root ow_PayTable bk701) fl_PayTable_0 (u3) (sk161)) rfl rfl (ok161.1)).2 x6
      refine L_loadH (x := .tmp 98) (Cxt.idx (Cxt.fld (Cxt.root ow_PayTable bk701) fl_PayTable_0 (u3) (sk161)) ((u3).Rows) (Int.toNat x5) bb1229 cc1229 ss1229 (idx_nat x6).2 m8) ((congrArg (fun q => ({ u3 with Rows := q } : PayTable)) (set_idx x6)).trans rfl) (((congrArg (fun q => ((Sl.at bb1229 cc1229 q), (Prod.snd sk161))) (set_getD (by rw [m8]; exact (idx_nat x6).2))).trans (congrArg (fun q => (q, (Prod.snd sk161))) (hq1229).symm)).trans rfl) (ok_at (ok161.1) hq1229 (by rw [m8]; exact (idx_nat x6).2)) Tryz.isAgg23 b701 fun bG => ?_
      refine L_loadO (x := .tmp 101) part_PayTable_0.1 Tryz.isAgg56 Tryz.sizeOf56 o0 fun bE iE cG => ?_
      obtain ⟨bL, bD, h⟩ := bsome h
      have kI := PT_idx iE bD
      refine L_load (x := .tmp 104) Tryz.isAgg23 Tryz.sizeOf23 kI fun lE mE eG => ?_
      obtain ⟨oD, cD, h⟩ := bsome h
      have lI := PT_idx mE cD
      refine L_load (x := .tmp 107) Tryz.isAgg3 Tryz.sizeOf3 lI fun jM mI gG => ?_
      obtain rfl := RV_int.1 mI
      obtain ⟨rA, hG, h⟩ := bsome h
      obtain ⟨pL, n9, h⟩ := bsome h
      obtain ⟨bb1243, cc1243, ss1243, hq1243, iG⟩ := (OV.slice b701 (Cxt.idx (Cxt.fld (Cxt.root ow_PayTable bk701) fl_PayTable_0 (u3) (sk161)) ((u3).Rows) (Int.toNat x5) bb1229 cc1229 ss1229 (idx_nat x6).2 m8) ((congrArg (fun q => ({ u3 with Rows := q } : PayTable)) (set_idx x6)).trans rfl) (((congrArg (fun q => ((Sl.at bb1229 cc1229 q), (Prod.snd sk161))) (set_getD (by rw [m8]; exact (idx_nat x6).2))).trans (congrArg (fun q => (q, (Prod.snd sk161))) (hq1229).symm)).trans rfl) (ok_at (ok161.1) hq1229 (by rw [m8]; exact (idx_nat x6).2))).2 n9
      refine E_drawL (g := jI) (n := 18) [(16, (fun v g w => v = .int .i64 (rA)))] [0, 1, 2, 3, 4, 5, 6, 7, 8, 9, 10, 11, 12, 13, 14, 15, 16, 17] rfl mixed (by kernel_rfl) (⟨fun _ => up_eq _, trivial⟩) ?_
      refine L_p ((.pointer (some ⟨bk701, (0 + 0), none⟩))) rfl rfl (P_fieldAddrH at_58_0 rfl) ?_
      refine L_ld (c := (hdrV (Prod.fst sk161) ((u3).Rows).length)) rfl rfl .plain (fun _ _ h => ⟨h.ch, fun b hb _ => h.below.block b hb⟩) aG rfl ?_
      refine L_p (.int .i64 (x5)) rfl rfl (P_move rfl) ?_
      refine L_p ((.pointer (some ⟨bb1229, ((Int.toNat x5) * 1), none⟩))) rfl rfl (P_indexH Tryz.underlying56 Tryz.sizeOf23 (rfl.trans (hdr_at hq1229 _)) rfl (idx_nat x6)) ?_
      refine L_ld (c := (hdrV (List.getD ss1229 (Int.toNat x5) ((Ow.list 3 (Ow.sh Int))).df) (cC).length)) rfl rfl .plain (fun _ _ h => ⟨h.ch, fun b hb _ => h.below.block b hb⟩) bG rfl ?_
      refine L_p (.int .i64 (m7)) rfl rfl (P_move rfl) ?_
      refine L_p (fPtr p6 0) rfl rfl (P_fieldAddr at_58_0 a9 (OB.ptr o0)) ?_
      refine L_ld (c := bE) rfl rfl .plain (fun _ _ h => ⟨h.ch, fun b hb _ => h.below.block b hb⟩) cG rfl ?_
      refine L_p (.int .i64 (x5)) rfl rfl (P_move rfl) ?_
      refine L_p (ePtr bE x5 1) rfl rfl (P_indexAddr (α := List Int) Tryz.underlying56 Tryz.sizeOf23 rfl iE rfl bD) ?_
      refine L_ld (c := lE) rfl rfl .plain (fun _ _ h => h.ch) eG rfl ?_
      refine L_p (.int .i64 (m7)) rfl rfl (P_move rfl) ?_
      refine L_p (ePtr lE m7 1) rfl rfl (P_indexAddr (α := Int) Tryz.underlying23 Tryz.sizeOf3 rfl mE rfl cD) ?_
      refine L_ld (c := .int .i64 (oD)) rfl rfl .plain (fun _ _ h => h.ch) gG rfl ?_
      refine L_p (.int .u16 (UInt16.toNat (x2))) rfl rfl (P_move mC) ?_
      refine L_p (.int .i64 (((x2).toNat : Int))) rfl rfl (P_u16int Tryz.underlying81 Tryz.underlying3 rfl) ?_
      refine L_do (φ := fun v g w => v = .int .i64 (rA)) rfl rfl .plain (fun g w hd => D_call (g := g) (vs := [.int .i64 (oD), .int .i64 (((x2).toNat : Int)), .int .i64 (1000000)]) en43 (.cons rfl (.cons rfl (.cons rfl .nil))) (wk43  hG) fun g' w' v hs hr => ⟨g', hs, hr⟩) (fun kM hv => ?_)
      obtain ⟨_, _, _, rfl⟩ := hv
      refine L_p ((.pointer (some ⟨bb1243, ((Int.toNat m7) * 1), none⟩))) rfl rfl (P_indexH Tryz.underlying23 Tryz.sizeOf3 (rfl.trans (hdr_at hq1243 _)) rfl (idx_nat n9)) ?_
      refine L_nl fun nI mM hs => ?_
      have hfr := hfr.ext hs
      have b1224 := b1224.ext hs
      have b701 := b701.ext hs
      clear hs
      refine EL_do .plain rfl (D_storeOV (g := nI) (u' := (rA : Int)) (Cxt.idx (Cxt.idx (Cxt.fld (Cxt.root ow_PayTable bk701) fl_PayTable_0 (u3) (sk161)) ((u3).Rows) (Int.toNat x5) bb1229 cc1229 ss1229 (idx_nat x6).2 m8) (cC) (Int.toNat m7) bb1243 cc1243 ss1243 (idx_nat n9).2 iG) ((congrArg (fun q => ({ u3 with Rows := (List.set ((u3).Rows) (Int.toNat x5) q) } : PayTable)) (set_idx n9)).trans ((congrArg (fun q => ({ u3 with Rows := q } : PayTable)) (set_idx x6)).trans rfl)) (((congrArg (fun q => ((Sl.at bb1229 cc1229 (List.set ss1229 (Int.toNat x5) (Sl.at bb1243 cc1243 q))), (Prod.snd sk161))) set_unit).trans (congrArg (fun q => ((Sl.at bb1229 cc1229 (List.set ss1229 (Int.toNat x5) q)), (Prod.snd sk161))) (hq1243).symm)).trans (((congrArg (fun q => ((Sl.at bb1229 cc1229 q), (Prod.snd sk161))) (set_getD (by rw [m8]; exact (idx_nat x6).2))).trans (congrArg (fun q => (q, (Prod.snd sk161))) (hq1229).symm)).trans rfl)) Tryz.sizeOf3 rfl b701 rfl (RV_int.2 rfl) fun nE pI hs b1310 => ?_)
      have hfr := hfr.stp hs
      have b1224 := b1224.stp hs rfl
      replace b1310 : OV ow_PayTable 2014 nE pI 58 (({ u3 with Rows := (List.set ((u3).Rows) (Int.toNat x5) (List.set cC (Int.toNat m7) rA)) } : PayTable) : PayTable) bk701 sk161 := b1310
      refine EL_nil (blk_n ?_)
      obtain ⟨rfl, rfl⟩ := pairs2 h
      exact hQ _ _ ⟨nE, hfr, rfl, ⟨_, b1310, ok161⟩, rfl, b1224⟩
     ·refine E_cf oB rfl ?_
      refine E_seq (E_region (EL_p (.bool ((((((1 : UInt8) + i7)).toNat : Int) == (2 : Int)))) (P_int rfl rfl rfl) rfl ?_))
      refine EL_p (.bool ((((((1 : UInt8) + i7)).toNat : Int) == (2 : Int)))) (P_assign rfl) rfl ?_
      refine EL_nil (thn_n ?_)
      rcases csome h with ⟨tB, h⟩ | ⟨tB, h⟩
      ·refine E_ct tB rfl ?_
       refine E_seq (L_loadO (x := .tmp 116) part_PayTable_1.1 Tryz.isAgg23 Tryz.sizeOf23 o0 fun oE rE jG => ?_)
       obtain ⟨uH, eD, h⟩ := bsome h
       have qI := PT_idx rE eD
       refine L_load (x := .tmp 119) Tryz.isAgg3 Tryz.sizeOf3 qI fun nM sI kG => ?_
       obtain rfl := RV_int.1 sI
       refine E_drawB (a0 := ((⟨((((1 : UInt8) + i7)).toNat : Int), 0, 0, 0⟩ : PayEntry) : PayEntry)) (a1 := ((⟨((((1 : UInt8) + i7)).toNat : Int), x5, 0, 0⟩ : PayEntry) : PayEntry)) b821 (n := 9) [(7, (fun _ g w => OB 2015 g w 100 ((⟨((((1 : UInt8) + i7)).toNat : Int), x5, 0, 0⟩ : PayEntry) : PayEntry) g8))] [0, 1, 2, 3, 4, 5, 6, 7, 8] rfl mixed (by kernel_rfl) (⟨fun _ => up_box, trivial⟩) ?_
       refine L_p (.int .i64 (x5)) rfl rfl (P_move rfl) ?_
       refine L_p (fPtr p6 1) rfl rfl (P_fieldAddr at_58_1 a9 (OB.ptr o0)) ?_
       refine L_ld (c := oE) rfl rfl .plain (fun _ _ h => ⟨h.1.ch, fun b hb ho => h.1.block b hb (by rw [ho]; decide)⟩) jG rfl ?_
       refine L_p (.int .i64 (x5)) rfl rfl (P_move rfl) ?_
       refine L_p (ePtr oE x5 1) rfl rfl (P_indexAddr (α := Int) Tryz.underlying23 Tryz.sizeOf3 rfl rE rfl eD) ?_
       refine L_ld (c := .int .i64 (uH)) rfl rfl .plain (fun _ _ h => h.1.ch) kG rfl ?_
       refine L_p (fPtr g8 1) rfl rfl (P_fieldAddr at_100_1 rfl (OB.ptr b821)) ?_
       refine L_do (φ := fun _ g w => OB 2015 g w 100 ((⟨((((1 : UInt8) + i7)).toNat : Int), x5, 0, 0⟩ : PayEntry) : PayEntry) g8) rfl rfl .plain (fun g w hd => D_storeR (g := g) (by rfl) (by exact rfl) part_PayEntry_1 Tryz.sizeOf3 rfl hd.1.2 rfl (RV_int.2 rfl)) (fun oM hv => ?_)
       clear hv
       refine L_p (fPtr g8 3) rfl rfl (P_fieldAddr at_100_3 rfl (OB.ptr b821)) ?_
       refine L_nil fun tI pM hall => ?_
       have hs := hall.1.1
       have hfr := hfr.stp hs
       have o0 := o0.stp hs rfl
       have b701 := b701.stp hs rfl
       have b1351 := (word_all (A := fun g w => OB 2015 g w 100 ((⟨((((1 : UInt8) + i7)).toNat : Int), x5, 0, 0⟩ : PayEntry) : PayEntry) g8) 7 rfl hall)
       clear hs hall
       refine EL_do .plain rfl (D_storeFc (g := tI) part_PayEntry_3 Tryz.sizeOf3 rfl b1351 rfl (RV_int.2 rfl) fun uI qM hs b1367 rst hos => ?_)
       clear rst hos
       have hfr := hfr.stp hs
       have o0 := o0.stp hs rfl
       have b701 := b701.stp hs rfl
       refine EL_nil (thn_n (L_loadH (x := .tmp 123) (Cxt.fld (Cxt.root ow_PayTable bk701) fl_PayTable_1 (u3) (sk161)) rfl rfl ((ok161.2).1) Tryz.isAgg23 b701 fun lG => ?_))
       refine L_loadO (x := .tmp 126) part_PayTable_1.1 Tryz.isAgg23 Tryz.sizeOf23 o0 fun uE vE mG => ?_
       obtain ⟨sD, gD, h⟩ := bsome h
       have vI := PT_idx vE gD
       refine L_load (x := .tmp 129) Tryz.isAgg3 Tryz.sizeOf3 vI fun rM yI sG => ?_
       obtain rfl := RV_int.1 yI
       obtain ⟨yA, xG, h⟩ := bsome h
       obtain ⟨qL, u9, h⟩ := bsome h
       obtain ⟨bb1379, cc1379, ss1379, hq1379, yG⟩ := (OV.slice b701 (Cxt.fld (Cxt.root ow_PayTable bk701) fl_PayTable_1 (u3) (sk161)) rfl rfl ((ok161.2).1)).2 u9
       refine E_drawL (g := uI) (n := 12) [(10, (fun v g w => v = .int .i64 (yA)))] [0, 1, 2, 3, 4, 5, 6, 7, 8, 9, 10, 11] rfl mixed (by kernel_rfl) (⟨fun _ => up_eq _, trivial⟩) ?_
       refine L_p ((.pointer (some ⟨bk701, (0 + 1), none⟩))) rfl rfl (P_fieldAddrH at_58_1 rfl) ?_
       refine L_ld (c := (hdrV (Prod.fst (Prod.snd sk161)) ((u3).Across).length)) rfl rfl .plain (fun _ _ h => ⟨h.ch, fun b hb _ => h.below.block b hb⟩) lG rfl ?_
       refine L_p (.int .i64 (x5)) rfl rfl (P_move rfl) ?_
       refine L_p (fPtr p6 1) rfl rfl (P_fieldAddr at_58_1 a9 (OB.ptr o0)) ?_
       refine L_ld (c := uE) rfl rfl .plain (fun _ _ h => ⟨h.ch, fun b hb _ => h.below.block b hb⟩) mG rfl ?_
       refine L_p (.int .i64 (x5)) rfl rfl (P_move rfl) ?_
       refine L_p (ePtr uE x5 1) rfl rfl (P_indexAddr (α := Int) Tryz.underlying23 Tryz.sizeOf3 rfl vE rfl gD) ?_
       refine L_ld (c := .int .i64 (sD)) rfl rfl .plain (fun _ _ h => h.ch) sG rfl ?_
       refine L_p (.int .u16 (UInt16.toNat (x2))) rfl rfl (P_move mC) ?_
       refine L_p (.int .i64 (((x2).toNat : Int))) rfl rfl (P_u16int Tryz.underlying81 Tryz.underlying3 rfl) ?_
       refine L_do (φ := fun v g w => v = .int .i64 (yA)) rfl rfl .plain (fun g w hd => D_call (g := g) (vs := [.int .i64 (sD), .int .i64 (((x2).toNat : Int)), .int .i64 (1000000000)]) en43 (.cons rfl (.cons rfl (.cons rfl .nil))) (wk43  xG) fun g' w' v hs hr => ⟨g', hs, hr⟩) (fun sM hv => ?_)
       obtain ⟨_, _, _, rfl⟩ := hv
       refine L_p ((.pointer (some ⟨bb1379, ((Int.toNat x5) * 1), none⟩))) rfl rfl (P_indexH Tryz.underlying23 Tryz.sizeOf3 (rfl.trans (hdr_at hq1379 _)) rfl (idx_nat u9)) ?_
       refine L_nl fun zI tM hs => ?_
       have hfr := hfr.ext hs
       have b1367 := b1367.ext hs
       have b701 := b701.ext hs
       clear hs
       refine EL_do .plain rfl (D_storeOV (g := zI) (u' := (yA : Int)) (Cxt.idx (Cxt.fld (Cxt.root ow_PayTable bk701) fl_PayTable_1 (u3) (sk161)) ((u3).Across) (Int.toNat x5) bb1379 cc1379 ss1379 (idx_nat u9).2 yG) ((congrArg (fun q => ({ u3 with Across := q } : PayTable)) (set_idx u9)).trans rfl) (((congrArg (fun q => ((Prod.fst sk161), ((Sl.at bb1379 cc1379 q), (Prod.snd (Prod.snd sk161))))) set_unit).trans (congrArg (fun q => ((Prod.fst sk161), (q, (Prod.snd (Prod.snd sk161))))) (hq1379).symm)).trans rfl) Tryz.sizeOf3 rfl b701 rfl (RV_int.2 rfl) fun xE eJ hs b1437 => ?_)
       have hfr := hfr.stp hs
       have b1367 := b1367.stp hs rfl
       replace b1437 : OV ow_PayTable 2014 xE eJ 58 (({ u3 with Across := (List.set ((u3).Across) (Int.toNat x5) yA) } : PayTable) : PayTable) bk701 sk161 := b1437
       refine EL_nil (blk_n ?_)
       obtain ⟨rfl, rfl⟩ := pairs2 h
       exact hQ _ _ ⟨xE, hfr, rfl, ⟨_, b1437, ok161⟩, rfl, b1367⟩
      ·refine E_cf tB rfl ?_
       refine E_seq (E_region (EL_p (.bool ((((((1 : UInt8) + i7)).toNat : Int) == (3 : Int)))) (P_int rfl rfl rfl) rfl ?_))
       refine EL_p (.bool ((((((1 : UInt8) + i7)).toNat : Int) == (3 : Int)))) (P_assign rfl) rfl ?_
       refine EL_nil (thn_n ?_)
       rcases csome h with ⟨vB, h⟩ | ⟨vB, h⟩
       ·refine E_ct vB rfl ?_
        refine E_seq (L_loadO (x := .tmp 138) part_PayTable_2.1 Tryz.isAgg23 Tryz.sizeOf23 o0 fun yE zE zG => ?_)
        obtain ⟨xH, iD, h⟩ := bsome h
        have gJ := PT_idx zE iD
        refine L_load (x := .tmp 141) Tryz.isAgg3 Tryz.sizeOf3 gJ fun uM iJ aH => ?_
        obtain rfl := RV_int.1 iJ
        refine E_drawB (a0 := ((⟨((((1 : UInt8) + i7)).toNat : Int), 0, 0, 0⟩ : PayEntry) : PayEntry)) (a1 := ((⟨((((1 : UInt8) + i7)).toNat : Int), 0, m7, 0⟩ : PayEntry) : PayEntry)) b821 (n := 9) [(7, (fun _ g w => OB 2015 g w 100 ((⟨((((1 : UInt8) + i7)).toNat : Int), 0, m7, 0⟩ : PayEntry) : PayEntry) g8))] [0, 1, 2, 3, 4, 5, 6, 7, 8] rfl mixed (by kernel_rfl) (⟨fun _ => up_box, trivial⟩) ?_
        refine L_p (.int .i64 (m7)) rfl rfl (P_move rfl) ?_
        refine L_p (fPtr p6 2) rfl rfl (P_fieldAddr at_58_2 a9 (OB.ptr o0)) ?_
        refine L_ld (c := yE) rfl rfl .plain (fun _ _ h => ⟨h.1.ch, fun b hb ho => h.1.block b hb (by rw [ho]; decide)⟩) zG rfl ?_
        refine L_p (.int .i64 (m7)) rfl rfl (P_move rfl) ?_
        refine L_p (ePtr yE m7 1) rfl rfl (P_indexAddr (α := Int) Tryz.underlying23 Tryz.sizeOf3 rfl zE rfl iD) ?_
        refine L_ld (c := .int .i64 (xH)) rfl rfl .plain (fun _ _ h => h.1.ch) aH rfl ?_
        refine L_p (fPtr g8 2) rfl rfl (P_fieldAddr at_100_2 rfl (OB.ptr b821)) ?_
        refine L_do (φ := fun _ g w => OB 2015 g w 100 ((⟨((((1 : UInt8) + i7)).toNat : Int), 0, m7, 0⟩ : PayEntry) : PayEntry) g8) rfl rfl .plain (fun g w hd => D_storeR (g := g) (by rfl) (by exact rfl) part_PayEntry_2 Tryz.sizeOf3 rfl hd.1.2 rfl (RV_int.2 rfl)) (fun vM hv => ?_)
        clear hv
        refine L_p (fPtr g8 3) rfl rfl (P_fieldAddr at_100_3 rfl (OB.ptr b821)) ?_
        refine L_nil fun jJ xM hall => ?_
        have hs := hall.1.1
        have hfr := hfr.stp hs
        have o0 := o0.stp hs rfl
        have b701 := b701.stp hs rfl
        have b1478 := (word_all (A := fun g w => OB 2015 g w 100 ((⟨((((1 : UInt8) + i7)).toNat : Int), 0, m7, 0⟩ : PayEntry) : PayEntry) g8) 7 rfl hall)
        clear hs hall
        refine EL_do .plain rfl (D_storeFc (g := jJ) part_PayEntry_3 Tryz.sizeOf3 rfl b1478 rfl (RV_int.2 rfl) fun kJ bN hs b1496 rst hos => ?_)
        clear rst hos
        have hfr := hfr.stp hs
        have o0 := o0.stp hs rfl
        have b701 := b701.stp hs rfl
        refine EL_nil (thn_n (L_loadH (x := .tmp 145) (Cxt.fld (Cxt.root ow_PayTable bk701) fl_PayTable_2 (u3) (sk161)) rfl rfl (((ok161.2).2).1) Tryz.isAgg23 b701 fun cH => ?_))
        refine L_loadO (x := .tmp 148) part_PayTable_2.1 Tryz.isAgg23 Tryz.sizeOf23 o0 fun cF dF dH => ?_
        obtain ⟨tD, jD, h⟩ := bsome h
        have lJ := PT_idx dF jD
        refine L_load (x := .tmp 151) Tryz.isAgg3 Tryz.sizeOf3 lJ fun cN mJ gH => ?_
        obtain rfl := RV_int.1 mJ
        obtain ⟨aB, iH, h⟩ := bsome h
        obtain ⟨rL, y9, h⟩ := bsome h
        obtain ⟨bb1508, cc1508, ss1508, hq1508, jH⟩ := (OV.slice b701 (Cxt.fld (Cxt.root ow_PayTable bk701) fl_PayTable_2 (u3) (sk161)) rfl rfl (((ok161.2).2).1)).2 y9
        refine E_drawL (g := kJ) (n := 12) [(10, (fun v g w => v = .int .i64 (aB)))] [0, 1, 2, 3, 4, 5, 6, 7, 8, 9, 10, 11] rfl mixed (by kernel_rfl) (⟨fun _ => up_eq _, trivial⟩) ?_
        refine L_p ((.pointer (some ⟨bk701, (0 + 2), none⟩))) rfl rfl (P_fieldAddrH at_58_2 rfl) ?_
        refine L_ld (c := (hdrV (Prod.fst (Prod.snd (Prod.snd sk161))) ((u3).Down).length)) rfl rfl .plain (fun _ _ h => ⟨h.ch, fun b hb _ => h.below.block b hb⟩) cH rfl ?_
        refine L_p (.int .i64 (m7)) rfl rfl (P_move rfl) ?_
        refine L_p (fPtr p6 2) rfl rfl (P_fieldAddr at_58_2 a9 (OB.ptr o0)) ?_
        refine L_ld (c := cF) rfl rfl .plain (fun _ _ h => ⟨h.ch, fun b hb _ => h.below.block b hb⟩) dH rfl ?_
        refine L_p (.int .i64 (m7)) rfl rfl (P_move rfl) ?_
        refine L_p (ePtr cF m7 1) rfl rfl (P_indexAddr (α := Int) Tryz.underlying23 Tryz.sizeOf3 rfl dF rfl jD) ?_
        refine L_ld (c := .int .i64 (tD)) rfl rfl .plain (fun _ _ h => h.ch) gH rfl ?_
        refine L_p (.int .u16 (UInt16.toNat (x2))) rfl rfl (P_move mC) ?_
        refine L_p (.int .i64 (((x2).toNat : Int))) rfl rfl (P_u16int Tryz.underlying81 Tryz.underlying3 rfl) ?_
        refine L_do (φ := fun v g w => v = .int .i64 (aB)) rfl rfl .plain (fun g w hd => D_call (g := g) (vs := [.int .i64 (tD), .int .i64 (((x2).toNat : Int)), .int .i64 (1000000000)]) en43 (.cons rfl (.cons rfl (.cons rfl .nil))) (wk43  iH) fun g' w' v hs hr => ⟨g', hs, hr⟩) (fun dN hv => ?_)
        obtain ⟨_, _, _, rfl⟩ := hv
        refine L_p ((.pointer (some ⟨bb1508, ((Int.toNat m7) * 1), none⟩))) rfl rfl (P_indexH Tryz.underlying23 Tryz.sizeOf3 (rfl.trans (hdr_at hq1508 _)) rfl (idx_nat y9)) ?_
        refine L_nl fun nJ eN hs => ?_
        have hfr := hfr.ext hs
        have b1496 := b1496.ext hs
        have b701 := b701.ext hs
        clear hs
        refine EL_do .plain rfl (D_storeOV (g := nJ) (u' := (aB : Int)) (Cxt.idx (Cxt.fld (Cxt.root ow_PayTable bk701) fl_PayTable_2 (u3) (sk161)) ((u3).Down) (Int.toNat m7) bb1508 cc1508 ss1508 (idx_nat y9).2 jH) ((congrArg (fun q => ({ u3 with Down := q } : PayTable)) (set_idx y9)).trans rfl) (((congrArg (fun q => ((Prod.fst sk161), ((Prod.fst (Prod.snd sk161)), ((Sl.at bb1508 cc1508 q), (Prod.snd (Prod.snd (Prod.snd sk161))))))) set_unit).trans (congrArg (fun q => ((Prod.fst sk161), ((Prod.fst (Prod.snd sk161)), (q, (Prod.snd (Prod.snd (Prod.snd sk161))))))) (hq1508).symm)).trans rfl) Tryz.sizeOf3 rfl b701 rfl (RV_int.2 rfl) fun eF oJ hs b1568 => ?_)
        have hfr := hfr.stp hs
        have b1496 := b1496.stp hs rfl
        replace b1568 : OV ow_PayTable 2014 eF oJ 58 (({ u3 with Down := (List.set ((u3).Down) (Int.toNat m7) aB) } : PayTable) : PayTable) bk701 sk161 := b1568
        refine EL_nil (blk_n ?_)
        obtain ⟨rfl, rfl⟩ := pairs2 h
        exact hQ _ _ ⟨eF, hfr, rfl, ⟨_, b1568, ok161⟩, rfl, b1496⟩
       ·refine E_cf vB rfl ?_
        refine E_seq (E_region (EL_p (fPtr p6 3) (P_fieldAddr at_58_3 a9 (OB.ptr o0)) rfl ?_))
        refine EL_do .plain rfl (D_loadF (g := nB) part_PayTable_3.1 Tryz.isAgg3 Tryz.sizeOf3 rfl o0 fun gN pJ => ?_)
        obtain rfl := RV_int.1 pJ
        refine EL_p (fPtr g8 3) (P_fieldAddr at_100_3 rfl (OB.ptr b821)) rfl ?_
        refine EL_do .plain rfl (D_storeFc (g := nB) part_PayEntry_3 Tryz.sizeOf3 rfl b821 rfl (RV_int.2 rfl) fun rF iN hs b1572 rst hos => ?_)
        clear rst hos
        have hfr := hfr.stp hs
        have o0 := o0.stp hs rfl
        have b701 := b701.stp hs rfl
        refine EL_nil (thn_n (E_region (EL_p (fPtr p6 3) (P_fieldAddr at_58_3 a9 (OB.ptr o0)) rfl ?_)))
        refine EL_do .plain rfl (D_loadF (g := rF) part_PayTable_3.1 Tryz.isAgg3 Tryz.sizeOf3 rfl o0 fun jN qJ => ?_)
        obtain rfl := RV_int.1 qJ
        refine EL_mv mC rfl ?_
        refine EL_p (.int .i64 (((x2).toNat : Int))) (P_u16int Tryz.underlying81 Tryz.underlying3 rfl) rfl ?_
        obtain ⟨uD, kH, h⟩ := bsome h
        refine EL_do .plain rfl (D_call (g := rF) (vs := [.int .i64 ((y5).Total), .int .i64 (((x2).toNat : Int)), .int .i64 (1000000000)]) en43 (.cons rfl (.cons rfl (.cons rfl .nil))) (wk43  kH) fun rJ lL kN hs hr => ?_)
        have hfr := hfr.ext hs
        have b1572 := b1572.ext hs
        have b701 := b701.ext hs
        subst hr
        refine EL_p ((.pointer (some ⟨bk701, (0 + 3), none⟩))) (P_fieldAddrH at_58_3 rfl) rfl ?_
        refine EL_do .plain rfl (D_storeOV (g := rJ) (u' := (uD : Int)) (Cxt.fld (Cxt.root ow_PayTable bk701) fl_PayTable_3 (u3) (sk161)) rfl rfl Tryz.sizeOf3 rfl b701 rfl (RV_int.2 rfl) fun sF sJ hs b1579 => ?_)
        have hfr := hfr.stp hs
        have b1572 := b1572.stp hs rfl
        replace b1579 : OV ow_PayTable 2014 sF sJ 58 (({ u3 with Total := uD } : PayTable) : PayTable) bk701 sk161 := b1579
        refine EL_nil (blk_n ?_)
        obtain ⟨rfl, rfl⟩ := pairs2 h
        exact hQ _ _ ⟨sF, hfr, rfl, ⟨_, b1579, ok161⟩, rfl, b1572⟩
    ·clear hx
     obtain ⟨lB, hfr, yB, ⟨pK, i6, iA⟩, xD, l5⟩ := hR
     refine E_seq (E_region (EL_do .plain rfl (D_loadAL (g := lB) Tryz.isAgg58 Tryz.sizeOf58 yB i6 fun vJ al1582 => ?_)))
     obtain ⟨dL, lH, h⟩ := bsome h
     refine EL_do .plain rfl (D_callGF (g := lB) (vs := [vJ]) en35 (.cons rfl .nil) (W35 (iO := 4159) (AL.lent al1582 i6 iA rfl) lH) fun gl1583 mH xJ hxl hr => ?_)
     have hm1583 := OWx.unlend fw_ow_PayTable hxl hr
     obtain ⟨yJ, hge1583⟩ : ∃ g, g = { m := fun b => if b < yD.heap.size then lB.m b else gl1583.m b, o := gl1583.o : Gh } := ⟨_, rfl⟩
     rw [← hge1583] at hm1583
     have hs : Ext lB yD yJ mH := hge1583 ▸ unlend hxl
     clear hxl hr hge1583
     have hfr := hfr.ext hs
     have i6 := i6.ext hs
     have l5 := l5.ext hs
     obtain ⟨sk1583, ow1583, ok1583⟩ := hm1583
     obtain ⟨gp1585, hs, rp1585⟩ := OW.pub ow1583 ok1583
     have hfr := hfr.stp hs
     have i6 := i6.stp hs rfl
     have l5 := l5.stp hs rfl
     obtain ⟨t5, nH, h⟩ := bsome h
     refine EL_do .plain rfl (D_call (g := gp1585) (vs := [xJ]) en41 (.cons rfl .nil) (wk41 rp1585 nH) fun mB lD lN hs hr => ?_)
     have hfr := hfr.ext hs
     have i6 := i6.ext hs
     have l5 := l5.ext hs
     obtain ⟨xK, yK, rfl, rfl, rfl⟩ := hr
     refine EL_mw (.tuple #[.bool (t5.1), .int .i64 (t5.2)]) rfl rfl ?_
     refine EL_p (.bool (t5.1)) (P_extract rfl rfl) rfl ?_
     refine EL_p (.int .i64 (t5.2)) (P_extract rfl rfl) rfl ?_
     refine EL_at (.bool (t5.1)) rfl rfl ?_
     refine EL_at (.int .i64 (t5.2)) rfl rfl ?_
     refine EL_nil (thn_n (E_seq (E_region (EL_do .plain rfl (D_loadAL (g := mB) Tryz.isAgg58 Tryz.sizeOf58 yB i6 fun zJ al1589 => ?_)))))
     obtain ⟨eL, oH, h⟩ := bsome h
     refine EL_do .plain rfl (D_callGF (g := mB) (vs := [zJ]) en35 (.cons rfl .nil) (W35 (iO := 4165) (AL.lent al1589 i6 iA rfl) oH) fun gl1590 pH aK hxl hr => ?_)
     have hm1590 := OWx.unlend fw_ow_PayTable hxl hr
     obtain ⟨bK, hge1590⟩ : ∃ g, g = { m := fun b => if b < lD.heap.size then mB.m b else gl1590.m b, o := gl1590.o : Gh } := ⟨_, rfl⟩
     rw [← hge1590] at hm1590
     have hs : Ext mB lD bK pH := hge1590 ▸ unlend hxl
     clear hxl hr hge1590
     have hfr := hfr.ext hs
     have l5 := l5.ext hs
     obtain ⟨sk1590, ow1590, ok1590⟩ := hm1590
     obtain ⟨gp1592, hs, rp1592⟩ := OW.pub ow1590 ok1590
     have hfr := hfr.stp hs
     have l5 := l5.stp hs rfl
     obtain ⟨y6, qH, h⟩ := bsome h
     refine EL_do .plain rfl (D_call (g := gp1592) (vs := [aK]) en42 (.cons rfl .nil) (wk42 rp1592 qH) fun cK mL mN hs hr => ?_)
     have hfr := hfr.ext hs
     have l5 := l5.ext hs
     obtain ⟨z9, zK, rfl, bA, rfl⟩ := hr
     refine EL_mw (.tuple #[z9, .int .i64 (y6.2)]) rfl rfl ?_
     refine EL_p z9 (P_extract rfl rfl) rfl ?_
     refine EL_p (.int .i64 (y6.2)) (P_extract rfl rfl) rfl ?_
     refine EL_do .plain rfl (D_allocOc (g := cK) 2016 (⟨0, 0, 0, 0⟩ : PayEntry) Tryz.zeroValue100 (fun m w => ⟨_, (rep_two rep_int (rep_two rep_int (rep_two rep_int rep_int))), rfl⟩) fun dK nN oN hs b1595 cb => ?_)
     have hfr := hfr.stp hs
     have l5 := l5.stp hs rfl
     have bA := bA.stp hs
     clear cb
     refine EL_do .plain rfl (D_storeOc (g := dK) (v := z9) Tryz.sizeOf100 rfl b1595 rfl bA fun k9 pN hs b1596 cb => ?_)
     clear cb
     have hfr := hfr.stp hs
     have l5 := l5.stp hs rfl
     refine EL_at (.int .i64 (y6.2)) rfl rfl ?_
     refine EL_nil (thn_n ?_)
     obtain ⟨zB, hx, h⟩ := bsome h
     refine E_join (fun e w => ∃ (g : Gh) , Fr gI wI g w ∧ e 6 = .bool (zB)) (fun Q' hQ => ?_) (fun nL qN hR => ?_)
     ·replace h := hx
      clear hx
      refine E_region (EL_mw (.int .i64 (t5.2)) rfl rfl ?_)
      refine EL_in (.bool ((t5.2 == (0 : Int)))) rfl rfl rfl rfl ?_
      refine EL_mw (.bool ((t5.2 == (0 : Int)))) rfl rfl ?_
      rcases csome h with ⟨n8, h⟩ | ⟨n8, h⟩
      ·refine EL_y (.bool (t5.1)) (P_move rfl) rfl rfl n8 rfl ?_
       refine EL_y (.bool (!t5.1)) (P_not rfl) rfl rfl n8 rfl ?_
       refine EL_p (.bool (!t5.1)) (P_pick (b := (t5.2 == (0 : Int))) rfl (pick_t n8 rfl)) rfl ?_
       refine EL_mw (.bool (!t5.1)) rfl rfl ?_
       rcases csome h with ⟨x8, h⟩ | ⟨x8, h⟩
       ·refine EL_y (.int .i64 (y6.2)) (P_move rfl) rfl rfl x8 rfl ?_
        refine EL_y (.bool ((y6.2 == (0 : Int)))) (P_int rfl rfl rfl) rfl rfl x8 rfl ?_
        refine EL_p (.bool ((y6.2 == (0 : Int)))) (P_pick (b := (!t5.1)) rfl (pick_t x8 rfl)) rfl ?_
        refine EL_mw (.bool ((y6.2 == (0 : Int)))) rfl rfl ?_
        rcases csome h with ⟨k8, h⟩ | ⟨k8, h⟩
        ·refine EL_do (.yes2 rfl rfl k8) rfl (D_loadO (g := k9) Tryz.isAgg100 Tryz.sizeOf100 rfl b1596 fun rN lK => ?_)
         refine EL_do (.yes2 rfl rfl k8) rfl (D_loadO (g := k9) Tryz.isAgg100 Tryz.sizeOf100 xD l5 fun sN mK => ?_)
         refine EL_y (.bool ((decide (y6.1 = l8)))) (P_seq seq_100 rfl eg_100 rfl rfl lK mK) rfl rfl k8 rfl ?_
         refine EL_p (.bool ((decide (y6.1 = l8)))) (P_pick (b := (y6.2 == (0 : Int))) rfl (pick_t k8 rfl)) rfl ?_
         refine EL_mw (.bool ((decide (y6.1 = l8)))) rfl rfl ?_
         rcases csome h with ⟨l9, h⟩ | ⟨l9, h⟩
         ·obtain ⟨vD, sH, h⟩ := bsome h
          refine EL_do (.yes2 rfl rfl l9) rfl (D_call (g := k9) (vs := []) en12 .nil (wk12  sH) fun nK oL tN hs hr => ?_)
          have hfr := hfr.ext hs
          subst hr
          refine EL_p (.bool (vD)) (P_pick (b := (decide (y6.1 = l8))) rfl (pick_t l9 rfl)) rfl ?_
          refine EL_at (.bool (vD)) rfl rfl ?_
          refine EL_nil ?_
          obtain rfl := sinj h
          exact hQ _ _ ⟨nK, hfr, rfl⟩
         ·refine EL_s rfl rfl l9 rfl rfl ?_
          refine EL_p (.bool false) (P_pick (b := (decide (y6.1 = l8))) rfl (pick_f l9 rfl)) rfl ?_
          refine EL_at (.bool false) rfl rfl ?_
          refine EL_nil ?_
          obtain rfl := sinj h
          exact hQ _ _ ⟨k9, hfr, rfl⟩
        ·refine EL_s rfl rfl k8 rfl rfl ?_
         refine EL_s rfl rfl k8 rfl rfl ?_
         refine EL_s rfl rfl k8 rfl rfl ?_
         refine EL_p (.bool false) (P_pick (b := (y6.2 == (0 : Int))) rfl (pick_f k8 rfl)) rfl ?_
         refine EL_dead 3 rfl ?_
         refine EL_at (.bool false) rfl rfl ?_
         refine EL_nil ?_
         obtain rfl := sinj h
         exact hQ _ _ ⟨k9, hfr, rfl⟩
       ·refine EL_s rfl rfl x8 rfl rfl ?_
        refine EL_s rfl rfl x8 rfl rfl ?_
        refine EL_p (.bool false) (P_pick (b := (!t5.1)) rfl (pick_f x8 rfl)) rfl ?_
        refine EL_dead 8 rfl ?_
        refine EL_at (.bool false) rfl rfl ?_
        refine EL_nil ?_
        obtain rfl := sinj h
        exact hQ _ _ ⟨k9, hfr, rfl⟩
      ·refine EL_s rfl rfl n8 rfl rfl ?_
       refine EL_s rfl rfl n8 rfl rfl ?_
       refine EL_p (.bool false) (P_pick (b := (t5.2 == (0 : Int))) rfl (pick_f n8 rfl)) rfl ?_
       refine EL_dead 12 rfl ?_
       refine EL_at (.bool false) rfl rfl ?_
       refine EL_nil ?_
       obtain rfl := sinj h
       exact hQ _ _ ⟨k9, hfr, rfl⟩
     ·clear hx
      obtain ⟨uN, hfr, tF⟩ := hR
      refine E_ret ?_
      obtain rfl := sinj h
      exact end1 rfl rfl (show _ = .bool (zB) from tF) ⟨_, hfr, rfl⟩
  ·refine CT_do [2007] rfl rfl rfl .plain (D_allocOc (g := jO) 2014 (⟨[], [], [], 0⟩ : PayTable) Tryz.zeroValue58 (fun m w => ⟨_, (rep_two rep_nil (rep_two rep_nil (rep_two rep_nil rep_int))), rfl⟩) fun nD uF vF hs b581 cb => ?_)
   have hfr := hfr.stp hs
   have hlt := hlt.stp hs
   have o0 := o0.stp hs rfl
   have yH := yH.stp hs
   have d9 := d9.stp hs
   have yL : OSF 2014 61400 0 nD uF 23 58 ([] : List (List Int)) vF := cb.osf (by rfl)
   have zL : OSF 2014 61401 1 nD uF 3 58 ([] : List Int) vF := cb.osf (by rfl)
   have aM : OSF 2014 61402 2 nD uF 3 58 ([] : List Int) vF := cb.osf (by rfl)
   clear cb
   refine ⟨hlt.toW, ?_⟩
   refine CT_alt ?_ (CT_alt ?_ CT_stop)
   ·refine CT_do [2007] rfl rfl rfl .plain (D_callG (g := nD) (vs := [vN]) en35 (.cons rfl .nil) (W35 (iO := 4062) yH xL) fun uK cO dO hs hm161 => ?_)
    have hfr := hfr.ext hs
    have hlt := hlt.ext hs
    have o0 := o0.ext hs
    have d9 := d9.ext hs
    have b581 := b581.ext hs
    obtain ⟨sk161, ow161, ok161⟩ := hm161
    refine ⟨hlt.toW, ?_⟩
    refine CT_do [2007] rfl rfl rfl .plain (D_allocOc (g := uK) 2015 (⟨0, 0, 0, 0⟩ : PayEntry) Tryz.zeroValue100 (fun m w => ⟨_, (rep_two rep_int (rep_two rep_int (rep_two rep_int rep_int))), rfl⟩) fun vK eO g8 hs b641 cb => ?_)
    have hfr := hfr.stp hs
    have hlt := hlt.stp hs
    have o0 := o0.stp hs rfl
    have d9 := d9.stp hs
    have b581 := b581.stp hs rfl
    have ow161 := ow161.stp hs rfl
    clear cb
    refine ⟨hlt.toW, ?_⟩
    refine CT_do [2007] rfl rfl rfl .plain (D_storeOW (g := vK) Tryz.sizeOf58 rfl b581 rfl ow161 rfl fun gj701 qK xN bk701 hsa hsb hpp b701 => ?_)
    have hfr := hfr.stp hsa
    have hlt := hlt.stp hsa
    have o0 := o0.stp hsa rfl
    have d9 := d9.stp hsa
    have b641 := b641.stp hsa rfl
    have hfr := hfr.stp hsb
    have hlt := hlt.stp hsb
    have o0 := o0.stp hsb rfl
    have d9 := d9.stp hsb
    have b641 := b641.stp hsb rfl
    clear hsa hsb
    subst hpp
    refine ⟨hlt.toW, ?_⟩
    refine CT_nil ?_
    clear hlt
    refine EL_do .plain rfl (D_storeOc (g := qK) (v := vL) Tryz.sizeOf100 rfl b641 rfl d9 fun nB sK hs b821 cb => ?_)
    clear cb
    have hfr := hfr.stp hs
    have o0 := o0.stp hs rfl
    have b701 := b701.stp hs rfl
    refine EL_nil (thn_n ?_)
    obtain ⟨⟨qC, l8⟩, hx, h⟩ := bsome h
    refine E_join (fun e w => ∃ (g : Gh) , Fr gI wI g w ∧ e 14 = (Value.pointer (some ⟨bk701, 0, none⟩)) ∧ OVb ow_PayTable 2014 g w 58 (qC : PayTable) bk701 ∧ e 15 = g8 ∧ OB 2015 g w 100 (l8 : PayEntry) g8) (fun Q' hQ => ?_) (fun jL yD hR => ?_)
    ·replace h := hx
     clear hx
     refine E_seq (E_region (EL_p (fPtr g8 0) (P_fieldAddr at_100_0 rfl (OB.ptr b821)) rfl ?_))
     refine EL_do .plain rfl (D_loadF (g := nB) part_PayEntry_0.1 Tryz.isAgg98 Tryz.sizeOf98 rfl b821 fun bM aI => ?_)
     obtain rfl := RV_int.1 aI
     refine EL_nil (thn_n (E_block ?_))
     refine E_seq (E_region (EL_p (.bool ((((((1 : UInt8) + i7)).toNat : Int) == (1 : Int)))) (P_int rfl rfl rfl) rfl ?_))
     refine EL_p (.bool ((((((1 : UInt8) + i7)).toNat : Int) == (1 : Int)))) (P_assign rfl) rfl ?_
     refine EL_nil (thn_n ?_)
     rcases csome h with ⟨oB, h⟩ | ⟨oB, h⟩
     ·refine E_ct oB rfl ?_
      refine E_seq (L_loadO (x := .tmp 84) part_PayTable_0.1 Tryz.isAgg56 Tryz.sizeOf56 o0 fun zD dB xF => ?_)
      obtain ⟨aL, vC, h⟩ := bsome h
      have rC := PT_idx dB vC
      refine L_load (x := .tmp 87) Tryz.isAgg23 Tryz.sizeOf23 rC fun aE iB yF => ?_
      obtain ⟨tH, aD, h⟩ := bsome h
      have uC := PT_idx iB aD
      refine L_load (x := .tmp 90) Tryz.isAgg3 Tryz.sizeOf3 uC fun cM bI zF => ?_
      obtain rfl := RV_int.1 bI
      refine E_drawC (g := nB) (w := sK) (n := 14) [0, 1, 2, 3, 4, 5, 6, 7, 8, 9, 10, 12] [2007] [0, 1, 2, 3, 4, 5, 6, 7, 8, 9, 10, 11, 12, 13] rfl mixed (by kernel_rfl) fun w_c1210 hs hlt => ?_
      have hfr := hfr.ext hs
      have o0 := o0.ext hs
      have b701 := b701.ext hs
      have b821 := b821.ext hs
      clear hs
      refine CH_pur (c := .int .i64 (x5)) rfl rfl .plain (P_move rfl) ?_
      refine CH_pur (c := .int .i64 (m7)) rfl rfl .plain (P_move rfl) ?_
      refine CH_pur (c := fPtr p6 0) rfl rfl .plain (P_fieldAddr at_58_0 a9 (OB.ptr o0)) ?_
      refine CH_ldO (n := 2007) (c := zD) rfl rfl .plain xF rfl rfl ?_
      have dB := dB.ch hlt.1
      refine CH_pur (c := .int .i64 (x5)) rfl rfl .plain (P_move rfl) ?_
      refine CH_pur (c := ePtr zD x5 1) rfl rfl .plain (P_indexAddr (α := List Int) Tryz.underlying56 Tryz.sizeOf23 rfl dB rfl vC) ?_
      have rC := rC.ch hlt.1
      refine CH_ldP (c := aE) rfl rfl .plain yF rfl ?_
      have iB := iB.ch hlt.1
      refine CH_pur (c := .int .i64 (m7)) rfl rfl .plain (P_move rfl) ?_
      refine CH_pur (c := ePtr aE m7 1) rfl rfl .plain (P_indexAddr (α := Int) Tryz.underlying23 Tryz.sizeOf3 rfl iB rfl aD) ?_
      have uC := uC.ch hlt.1
      refine CH_ldP (c := .int .i64 (tH)) rfl rfl .plain zF rfl ?_
      refine CH_pur (c := fPtr g8 1) rfl rfl .plain (P_fieldAddr at_100_1 rfl (OB.ptr b821)) ?_
      refine CH_do rfl rfl .plain (D_storeFc (g := nB) part_PayEntry_1 Tryz.sizeOf3 rfl b821 rfl (RV_int.2 rfl) fun dI dM hs b1220 rst hos => ?_)
      clear rst hos
      have hfr := hfr.stp hs
      have hlt := hlt.stp hs
      have o0 := o0.stp hs rfl
      have b701 := b701.stp hs rfl
      refine ⟨hlt.toW, ?_⟩
      refine CH_pur (c := fPtr g8 2) rfl rfl .plain (P_fieldAddr at_100_2 rfl (OB.ptr b1220)) ?_
      refine CH_do rfl rfl .plain (D_storeFc (g := dI) part_PayEntry_2 Tryz.sizeOf3 rfl b1220 rfl (RV_int.2 rfl) fun iI eM hs b1222 rst hos => ?_)
      clear rst hos
      have hfr := hfr.stp hs
      have hlt := hlt.stp hs
      have o0 := o0.stp hs rfl
      have b701 := b701.stp hs rfl
      refine ⟨hlt.toW, ?_⟩
      refine CH_nil ?_
      clear hlt
      refine EL_p (fPtr g8 3) (P_fieldAddr at_100_3 rfl (OB.ptr b1222)) rfl ?_
      refine EL_do .plain rfl (D_storeFc (g := iI) part_PayEntry_3 Tryz.sizeOf3 rfl b1222 rfl (RV_int.2 rfl) fun jI iM hs b1224 rst hos => ?_)
      clear rst hos
      have hfr := hfr.stp hs
      have o0 := o0.stp hs rfl
      have b701 := b701.stp hs rfl
      refine EL_nil (thn_n (L_loadH (x := .tmp 95) (Cxt.fld (Cxt.root ow_PayTable bk701) fl_PayTable_0 (u3) (sk161)) rfl rfl (ok161.1) Tryz.isAgg56 b701 fun aG => ?_))
      obtain ⟨cC, x6, h⟩ := bsome h
      obtain ⟨bb1229, cc1229, ss1229, hq1229, m8⟩ := (OV.slice b701 (Cxt.fld (Cxt.root ow_PayTable bk701) fl_PayTable_0 (u3) (sk161)) rfl rfl (ok161.1)).2 x6
      refine L_loadH (x := .tmp 98) (Cxt.idx (Cxt.fld (Cxt.root ow_PayTable bk701) fl_PayTable_0 (u3) (sk161)) ((u3).Rows) (Int.toNat x5) bb1229 cc1229 ss1229 (idx_nat x6).2 m8) ((congrArg (fun q => ({ u3 with Rows := q } : PayTable)) (set_idx x6)).trans rfl) (((congrArg (fun q => ((Sl.at bb1229 cc1229 q), (Prod.snd sk161))) (set_getD (by rw [m8]; exact (idx_nat x6).2))).trans (congrArg (fun q => (q, (Prod.snd sk161))) (hq1229).symm)).trans rfl) (ok_at (ok161.1) hq1229 (by rw [m8]; exact (idx_nat x6).2)) Tryz.isAgg23 b701 fun bG => ?_
      refine L_loadO (x := .tmp 101) part_PayTable_0.1 Tryz.isAgg56 Tryz.sizeOf56 o0 fun bE iE cG => ?_
      obtain ⟨bL, bD, h⟩ := bsome h
      have kI := PT_idx iE bD
      refine L_load (x := .tmp 104) Tryz.isAgg23 Tryz.sizeOf23 kI fun lE mE eG => ?_
      obtain ⟨oD, cD, h⟩ := bsome h
      have lI := PT_idx mE cD
      refine L_load (x := .tmp 107) Tryz.isAgg3 Tryz.sizeOf3 lI fun jM mI gG => ?_
      obtain rfl := RV_int.1 mI
      obtain ⟨rA, hG, h⟩ := bsome h
      obtain ⟨pL, n9, h⟩ := bsome h
      obtain ⟨bb1243, cc1243, ss1243, hq1243, iG⟩ := (OV.slice b701 (Cxt.idx (Cxt.fld (Cxt.root ow_PayTable bk701) fl_PayTable_0 (u3) (sk161)) ((u3).Rows) (Int.toNat x5) bb1229 cc1229 ss1229 (idx_nat x6).2 m8) ((congrArg (fun q => ({ u3 with Rows := q } : PayTable)) (set_idx x6)).trans rfl) (((congrArg (fun q => ((Sl.at bb1229 cc1229 q), (Prod.snd sk161))) (set_getD (by rw [m8]; exact (idx_nat x6).2))).trans (congrArg (fun q => (q, (Prod.snd sk161))) (hq1229).symm)).trans rfl) (ok_at (ok161.1) hq1229 (by rw [m8]; exact (idx_nat x6).2))).2 n9
      refine E_drawL (g := jI) (n := 18) [(16, (fun v g w => v = .int .i64 (rA)))] [0, 1, 2, 3, 4, 5, 6, 7, 8, 9, 10, 11, 12, 13, 14, 15, 16, 17] rfl mixed (by kernel_rfl) (⟨fun _ => up_eq _, trivial⟩) ?_
      refine L_p ((.pointer (some ⟨bk701, (0 + 0), none⟩))) rfl rfl (P_fieldAddrH at_58_0 rfl) ?_
      refine L_ld (c := (hdrV (Prod.fst sk161) ((u3).Rows).length)) rfl rfl .plain (fun _ _ h => ⟨h.ch, fun b hb _ => h.below.block b hb⟩) aG rfl ?_
      refine L_p (.int .i64 (x5)) rfl rfl (P_move rfl) ?_
      refine L_p ((.pointer (some ⟨bb1229, ((Int.toNat x5) * 1), none⟩))) rfl rfl (P_indexH Tryz.underlying56 Tryz.sizeOf23 (rfl.trans (hdr_at hq1229 _)) rfl (idx_nat x6)) ?_
      refine L_ld (c := (hdrV (List.getD ss1229 (Int.toNat x5) ((Ow.list 3 (Ow.sh Int))).df) (cC).length)) rfl rfl .plain (fun _ _ h => ⟨h.ch, fun b hb _ => h.below.block b hb⟩) bG rfl ?_
      refine L_p (.int .i64 (m7)) rfl rfl (P_move rfl) ?_
      refine L_p (fPtr p6 0) rfl rfl (P_fieldAddr at_58_0 a9 (OB.ptr o0)) ?_
      refine L_ld (c := bE) rfl rfl .plain (fun _ _ h => ⟨h.ch, fun b hb _ => h.below.block b hb⟩) cG rfl ?_
      refine L_p (.int .i64 (x5)) rfl rfl (P_move rfl) ?_
      refine L_p (ePtr bE x5 1) rfl rfl (P_indexAddr (α := List Int) Tryz.underlying56 Tryz.sizeOf23 rfl iE rfl bD) ?_
      refine L_ld (c := lE) rfl rfl .plain (fun _ _ h => h.ch) eG rfl ?_
      refine L_p (.int .i64 (m7)) rfl rfl (P_move rfl) ?_
      refine L_p (ePtr lE m7 1) rfl rfl (P_indexAddr (α := Int) Tryz.underlying23 Tryz.sizeOf3 rfl mE rfl cD) ?_
      refine L_ld (c := .int .i64 (oD)) rfl rfl .plain (fun _ _ h => h.ch) gG rfl ?_
      refine L_p (.int .u16 (UInt16.toNat (x2))) rfl rfl (P_move mC) ?_
      refine L_p (.int .i64 (((x2).toNat : Int))) rfl rfl (P_u16int Tryz.underlying81 Tryz.underlying3 rfl) ?_
      refine L_do (φ := fun v g w => v = .int .i64 (rA)) rfl rfl .plain (fun g w hd => D_call (g := g) (vs := [.int .i64 (oD), .int .i64 (((x2).toNat : Int)), .int .i64 (1000000)]) en43 (.cons rfl (.cons rfl (.cons rfl .nil))) (wk43  hG) fun g' w' v hs hr => ⟨g', hs, hr⟩) (fun kM hv => ?_)
      obtain ⟨_, _, _, rfl⟩ := hv
      refine L_p ((.pointer (some ⟨bb1243, ((Int.toNat m7) * 1), none⟩))) rfl rfl (P_indexH Tryz.underlying23 Tryz.sizeOf3 (rfl.trans (hdr_at hq1243 _)) rfl (idx_nat n9)) ?_
      refine L_nl fun nI mM hs => ?_
      have hfr := hfr.ext hs
      have b701 := b701.ext hs
      have b1224 := b1224.ext hs
      clear hs
      refine EL_do .plain rfl (D_storeOV (g := nI) (u' := (rA : Int)) (Cxt.idx (Cxt.idx (Cxt.fld (Cxt.root ow_PayTable bk701) fl_PayTable_0 (u3) (sk161)) ((u3).Rows) (Int.toNat x5) bb1229 cc1229 ss1229 (idx_nat x6).2 m8) (cC) (Int.toNat m7) bb1243 cc1243 ss1243 (idx_nat n9).2 iG) ((congrArg (fun q => ({ u3 with Rows := (List.set ((u3).Rows) (Int.toNat x5) q) } : PayTable)) (set_idx n9)).trans ((congrArg (fun q => ({ u3 with Rows := q } : PayTable)) (set_idx x6)).trans rfl)) (((congrArg (fun q => ((Sl.at bb1229 cc1229 (List.set ss1229 (Int.toNat x5) (Sl.at bb1243 cc1243 q))), (Prod.snd sk161))) set_unit).trans (congrArg (fun q => ((Sl.at bb1229 cc1229 (List.set ss1229 (Int.toNat x5) q)), (Prod.snd sk161))) (hq1243).symm)).trans (((congrArg (fun q => ((Sl.at bb1229 cc1229 q), (Prod.snd sk161))) (set_getD (by rw [m8]; exact (idx_nat x6).2))).trans (congrArg (fun q => (q, (Prod.snd sk161))) (hq1229).symm)).trans rfl)) Tryz.sizeOf3 rfl b701 rfl (RV_int.2 rfl) fun nE pI hs b1310 => ?_)
      have hfr := hfr.stp hs
      have b1224 := b1224.stp hs rfl
      replace b1310 : OV ow_PayTable 2014 nE pI 58 (({ u3 with Rows := (List.set ((u3).Rows) (Int.toNat x5) (List.set cC (Int.toNat m7) rA)) } : PayTable) : PayTable) bk701 sk161 := b1310
      refine EL_nil (blk_n ?_)
      obtain ⟨rfl, rfl⟩ := pairs2 h
      exact hQ _ _ ⟨nE, hfr, rfl, ⟨_, b1310, ok161⟩, rfl, b1224⟩
     ·refine E_cf oB rfl ?_
      refine E_seq (E_region (EL_p (.bool ((((((1 : UInt8) + i7)).toNat : Int) == (2 : Int)))) (P_int rfl rfl rfl) rfl ?_))
      refine EL_p (.bool ((((((1 : UInt8) + i7)).toNat : Int) == (2 : Int)))) (P_assign rfl) rfl ?_
      refine EL_nil (thn_n ?_)
      rcases csome h with ⟨tB, h⟩ | ⟨tB, h⟩
      ·refine E_ct tB rfl ?_
       refine E_seq (L_loadO (x := .tmp 116) part_PayTable_1.1 Tryz.isAgg23 Tryz.sizeOf23 o0 fun oE rE jG => ?_)
       obtain ⟨uH, eD, h⟩ := bsome h
       have qI := PT_idx rE eD
       refine L_load (x := .tmp 119) Tryz.isAgg3 Tryz.sizeOf3 qI fun nM sI kG => ?_
       obtain rfl := RV_int.1 sI
       refine E_drawB (a0 := ((⟨((((1 : UInt8) + i7)).toNat : Int), 0, 0, 0⟩ : PayEntry) : PayEntry)) (a1 := ((⟨((((1 : UInt8) + i7)).toNat : Int), x5, 0, 0⟩ : PayEntry) : PayEntry)) b821 (n := 9) [(7, (fun _ g w => OB 2015 g w 100 ((⟨((((1 : UInt8) + i7)).toNat : Int), x5, 0, 0⟩ : PayEntry) : PayEntry) g8))] [0, 1, 2, 3, 4, 5, 6, 7, 8] rfl mixed (by kernel_rfl) (⟨fun _ => up_box, trivial⟩) ?_
       refine L_p (.int .i64 (x5)) rfl rfl (P_move rfl) ?_
       refine L_p (fPtr p6 1) rfl rfl (P_fieldAddr at_58_1 a9 (OB.ptr o0)) ?_
       refine L_ld (c := oE) rfl rfl .plain (fun _ _ h => ⟨h.1.ch, fun b hb ho => h.1.block b hb (by rw [ho]; decide)⟩) jG rfl ?_
       refine L_p (.int .i64 (x5)) rfl rfl (P_move rfl) ?_
       refine L_p (ePtr oE x5 1) rfl rfl (P_indexAddr (α := Int) Tryz.underlying23 Tryz.sizeOf3 rfl rE rfl eD) ?_
       refine L_ld (c := .int .i64 (uH)) rfl rfl .plain (fun _ _ h => h.1.ch) kG rfl ?_
       refine L_p (fPtr g8 1) rfl rfl (P_fieldAddr at_100_1 rfl (OB.ptr b821)) ?_
       refine L_do (φ := fun _ g w => OB 2015 g w 100 ((⟨((((1 : UInt8) + i7)).toNat : Int), x5, 0, 0⟩ : PayEntry) : PayEntry) g8) rfl rfl .plain (fun g w hd => D_storeR (g := g) (by rfl) (by exact rfl) part_PayEntry_1 Tryz.sizeOf3 rfl hd.1.2 rfl (RV_int.2 rfl)) (fun oM hv => ?_)
       clear hv
       refine L_p (fPtr g8 3) rfl rfl (P_fieldAddr at_100_3 rfl (OB.ptr b821)) ?_
       refine L_nil fun tI pM hall => ?_
       have hs := hall.1.1
       have hfr := hfr.stp hs
       have o0 := o0.stp hs rfl
       have b701 := b701.stp hs rfl
       have b1352 := (word_all (A := fun g w => OB 2015 g w 100 ((⟨((((1 : UInt8) + i7)).toNat : Int), x5, 0, 0⟩ : PayEntry) : PayEntry) g8) 7 rfl hall)
       clear hs hall
       refine EL_do .plain rfl (D_storeFc (g := tI) part_PayEntry_3 Tryz.sizeOf3 rfl b1352 rfl (RV_int.2 rfl) fun uI qM hs b1367 rst hos => ?_)
       clear rst hos
       have hfr := hfr.stp hs
       have o0 := o0.stp hs rfl
       have b701 := b701.stp hs rfl
       refine EL_nil (thn_n (L_loadH (x := .tmp 123) (Cxt.fld (Cxt.root ow_PayTable bk701) fl_PayTable_1 (u3) (sk161)) rfl rfl ((ok161.2).1) Tryz.isAgg23 b701 fun lG => ?_))
       refine L_loadO (x := .tmp 126) part_PayTable_1.1 Tryz.isAgg23 Tryz.sizeOf23 o0 fun uE vE mG => ?_
       obtain ⟨sD, gD, h⟩ := bsome h
       have vI := PT_idx vE gD
       refine L_load (x := .tmp 129) Tryz.isAgg3 Tryz.sizeOf3 vI fun rM yI sG => ?_
       obtain rfl := RV_int.1 yI
       obtain ⟨yA, xG, h⟩ := bsome h
       obtain ⟨qL, u9, h⟩ := bsome h
       obtain ⟨bb1379, cc1379, ss1379, hq1379, yG⟩ := (OV.slice b701 (Cxt.fld (Cxt.root ow_PayTable bk701) fl_PayTable_1 (u3) (sk161)) rfl rfl ((ok161.2).1)).2 u9
       refine E_drawL (g := uI) (n := 12) [(10, (fun v g w => v = .int .i64 (yA)))] [0, 1, 2, 3, 4, 5, 6, 7, 8, 9, 10, 11] rfl mixed (by kernel_rfl) (⟨fun _ => up_eq _, trivial⟩) ?_
       refine L_p ((.pointer (some ⟨bk701, (0 + 1), none⟩))) rfl rfl (P_fieldAddrH at_58_1 rfl) ?_
       refine L_ld (c := (hdrV (Prod.fst (Prod.snd sk161)) ((u3).Across).length)) rfl rfl .plain (fun _ _ h => ⟨h.ch, fun b hb _ => h.below.block b hb⟩) lG rfl ?_
       refine L_p (.int .i64 (x5)) rfl rfl (P_move rfl) ?_
       refine L_p (fPtr p6 1) rfl rfl (P_fieldAddr at_58_1 a9 (OB.ptr o0)) ?_
       refine L_ld (c := uE) rfl rfl .plain (fun _ _ h => ⟨h.ch, fun b hb _ => h.below.block b hb⟩) mG rfl ?_
       refine L_p (.int .i64 (x5)) rfl rfl (P_move rfl) ?_
       refine L_p (ePtr uE x5 1) rfl rfl (P_indexAddr (α := Int) Tryz.underlying23 Tryz.sizeOf3 rfl vE rfl gD) ?_
       refine L_ld (c := .int .i64 (sD)) rfl rfl .plain (fun _ _ h => h.ch) sG rfl ?_
       refine L_p (.int .u16 (UInt16.toNat (x2))) rfl rfl (P_move mC) ?_
       refine L_p (.int .i64 (((x2).toNat : Int))) rfl rfl (P_u16int Tryz.underlying81 Tryz.underlying3 rfl) ?_
       refine L_do (φ := fun v g w => v = .int .i64 (yA)) rfl rfl .plain (fun g w hd => D_call (g := g) (vs := [.int .i64 (sD), .int .i64 (((x2).toNat : Int)), .int .i64 (1000000000)]) en43 (.cons rfl (.cons rfl (.cons rfl .nil))) (wk43  xG) fun g' w' v hs hr => ⟨g', hs, hr⟩) (fun sM hv => ?_)
       obtain ⟨_, _, _, rfl⟩ := hv
       refine L_p ((.pointer (some ⟨bb1379, ((Int.toNat x5) * 1), none⟩))) rfl rfl (P_indexH Tryz.underlying23 Tryz.sizeOf3 (rfl.trans (hdr_at hq1379 _)) rfl (idx_nat u9)) ?_
       refine L_nl fun zI tM hs => ?_
       have hfr := hfr.ext hs
       have b701 := b701.ext hs
       have b1367 := b1367.ext hs
       clear hs
       refine EL_do .plain rfl (D_storeOV (g := zI) (u' := (yA : Int)) (Cxt.idx (Cxt.fld (Cxt.root ow_PayTable bk701) fl_PayTable_1 (u3) (sk161)) ((u3).Across) (Int.toNat x5) bb1379 cc1379 ss1379 (idx_nat u9).2 yG) ((congrArg (fun q => ({ u3 with Across := q } : PayTable)) (set_idx u9)).trans rfl) (((congrArg (fun q => ((Prod.fst sk161), ((Sl.at bb1379 cc1379 q), (Prod.snd (Prod.snd sk161))))) set_unit).trans (congrArg (fun q => ((Prod.fst sk161), (q, (Prod.snd (Prod.snd sk161))))) (hq1379).symm)).trans rfl) Tryz.sizeOf3 rfl b701 rfl (RV_int.2 rfl) fun xE eJ hs b1437 => ?_)
       have hfr := hfr.stp hs
       have b1367 := b1367.stp hs rfl
       replace b1437 : OV ow_PayTable 2014 xE eJ 58 (({ u3 with Across := (List.set ((u3).Across) (Int.toNat x5) yA) } : PayTable) : PayTable) bk701 sk161 := b1437
       refine EL_nil (blk_n ?_)
       obtain ⟨rfl, rfl⟩ := pairs2 h
       exact hQ _ _ ⟨xE, hfr, rfl, ⟨_, b1437, ok161⟩, rfl, b1367⟩
      ·refine E_cf tB rfl ?_
       refine E_seq (E_region (EL_p (.bool ((((((1 : UInt8) + i7)).toNat : Int) == (3 : Int)))) (P_int rfl rfl rfl) rfl ?_))
       refine EL_p (.bool ((((((1 : UInt8) + i7)).toNat : Int) == (3 : Int)))) (P_assign rfl) rfl ?_
       refine EL_nil (thn_n ?_)
       rcases csome h with ⟨vB, h⟩ | ⟨vB, h⟩
       ·refine E_ct vB rfl ?_
        refine E_seq (L_loadO (x := .tmp 138) part_PayTable_2.1 Tryz.isAgg23 Tryz.sizeOf23 o0 fun yE zE zG => ?_)
        obtain ⟨xH, iD, h⟩ := bsome h
        have gJ := PT_idx zE iD
        refine L_load (x := .tmp 141) Tryz.isAgg3 Tryz.sizeOf3 gJ fun uM iJ aH => ?_
        obtain rfl := RV_int.1 iJ
        refine E_drawB (a0 := ((⟨((((1 : UInt8) + i7)).toNat : Int), 0, 0, 0⟩ : PayEntry) : PayEntry)) (a1 := ((⟨((((1 : UInt8) + i7)).toNat : Int), 0, m7, 0⟩ : PayEntry) : PayEntry)) b821 (n := 9) [(7, (fun _ g w => OB 2015 g w 100 ((⟨((((1 : UInt8) + i7)).toNat : Int), 0, m7, 0⟩ : PayEntry) : PayEntry) g8))] [0, 1, 2, 3, 4, 5, 6, 7, 8] rfl mixed (by kernel_rfl) (⟨fun _ => up_box, trivial⟩) ?_
        refine L_p (.int .i64 (m7)) rfl rfl (P_move rfl) ?_
        refine L_p (fPtr p6 2) rfl rfl (P_fieldAddr at_58_2 a9 (OB.ptr o0)) ?_
        refine L_ld (c := yE) rfl rfl .plain (fun _ _ h => ⟨h.1.ch, fun b hb ho => h.1.block b hb (by rw [ho]; decide)⟩) zG rfl ?_
        refine L_p (.int .i64 (m7)) rfl rfl (P_move rfl) ?_
        refine L_p (ePtr yE m7 1) rfl rfl (P_indexAddr (α := Int) Tryz.underlying23 Tryz.sizeOf3 rfl zE rfl iD) ?_
        refine L_ld (c := .int .i64 (xH)) rfl rfl .plain (fun _ _ h => h.1.ch) aH rfl ?_
        refine L_p (fPtr g8 2) rfl rfl (P_fieldAddr at_100_2 rfl (OB.ptr b821)) ?_
        refine L_do (φ := fun _ g w => OB 2015 g w 100 ((⟨((((1 : UInt8) + i7)).toNat : Int), 0, m7, 0⟩ : PayEntry) : PayEntry) g8) rfl rfl .plain (fun g w hd => D_storeR (g := g) (by rfl) (by exact rfl) part_PayEntry_2 Tryz.sizeOf3 rfl hd.1.2 rfl (RV_int.2 rfl)) (fun vM hv => ?_)
        clear hv
        refine L_p (fPtr g8 3) rfl rfl (P_fieldAddr at_100_3 rfl (OB.ptr b821)) ?_
        refine L_nil fun jJ xM hall => ?_
        have hs := hall.1.1
        have hfr := hfr.stp hs
        have o0 := o0.stp hs rfl
        have b701 := b701.stp hs rfl
        have b1479 := (word_all (A := fun g w => OB 2015 g w 100 ((⟨((((1 : UInt8) + i7)).toNat : Int), 0, m7, 0⟩ : PayEntry) : PayEntry) g8) 7 rfl hall)
        clear hs hall
        refine EL_do .plain rfl (D_storeFc (g := jJ) part_PayEntry_3 Tryz.sizeOf3 rfl b1479 rfl (RV_int.2 rfl) fun kJ bN hs b1496 rst hos => ?_)
        clear rst hos
        have hfr := hfr.stp hs
        have o0 := o0.stp hs rfl
        have b701 := b701.stp hs rfl
        refine EL_nil (thn_n (L_loadH (x := .tmp 145) (Cxt.fld (Cxt.root ow_PayTable bk701) fl_PayTable_2 (u3) (sk161)) rfl rfl (((ok161.2).2).1) Tryz.isAgg23 b701 fun cH => ?_))
        refine L_loadO (x := .tmp 148) part_PayTable_2.1 Tryz.isAgg23 Tryz.sizeOf23 o0 fun cF dF dH => ?_
        obtain ⟨tD, jD, h⟩ := bsome h
        have lJ := PT_idx dF jD
        refine L_load (x := .tmp 151) Tryz.isAgg3 Tryz.sizeOf3 lJ fun cN mJ gH => ?_
        obtain rfl := RV_int.1 mJ
        obtain ⟨aB, iH, h⟩ := bsome h
        obtain ⟨rL, y9, h⟩ := bsome h
        obtain ⟨bb1508, cc1508, ss1508, hq1508, jH⟩ := (OV.slice b701 (Cxt.fld (Cxt.root ow_PayTable bk701) fl_PayTable_2 (u3) (sk161)) rfl rfl (((ok161.2).2).1)).2 y9
        refine E_drawL (g := kJ) (n := 12) [(10, (fun v g w => v = .int .i64 (aB)))] [0, 1, 2, 3, 4, 5, 6, 7, 8, 9, 10, 11] rfl mixed (by kernel_rfl) (⟨fun _ => up_eq _, trivial⟩) ?_
        refine L_p ((.pointer (some ⟨bk701, (0 + 2), none⟩))) rfl rfl (P_fieldAddrH at_58_2 rfl) ?_
        refine L_ld (c := (hdrV (Prod.fst (Prod.snd (Prod.snd sk161))) ((u3).Down).length)) rfl rfl .plain (fun _ _ h => ⟨h.ch, fun b hb _ => h.below.block b hb⟩) cH rfl ?_
        refine L_p (.int .i64 (m7)) rfl rfl (P_move rfl) ?_
        refine L_p (fPtr p6 2) rfl rfl (P_fieldAddr at_58_2 a9 (OB.ptr o0)) ?_
        refine L_ld (c := cF) rfl rfl .plain (fun _ _ h => ⟨h.ch, fun b hb _ => h.below.block b hb⟩) dH rfl ?_
        refine L_p (.int .i64 (m7)) rfl rfl (P_move rfl) ?_
        refine L_p (ePtr cF m7 1) rfl rfl (P_indexAddr (α := Int) Tryz.underlying23 Tryz.sizeOf3 rfl dF rfl jD) ?_
        refine L_ld (c := .int .i64 (tD)) rfl rfl .plain (fun _ _ h => h.ch) gH rfl ?_
        refine L_p (.int .u16 (UInt16.toNat (x2))) rfl rfl (P_move mC) ?_
        refine L_p (.int .i64 (((x2).toNat : Int))) rfl rfl (P_u16int Tryz.underlying81 Tryz.underlying3 rfl) ?_
        refine L_do (φ := fun v g w => v = .int .i64 (aB)) rfl rfl .plain (fun g w hd => D_call (g := g) (vs := [.int .i64 (tD), .int .i64 (((x2).toNat : Int)), .int .i64 (1000000000)]) en43 (.cons rfl (.cons rfl (.cons rfl .nil))) (wk43  iH) fun g' w' v hs hr => ⟨g', hs, hr⟩) (fun dN hv => ?_)
        obtain ⟨_, _, _, rfl⟩ := hv
        refine L_p ((.pointer (some ⟨bb1508, ((Int.toNat m7) * 1), none⟩))) rfl rfl (P_indexH Tryz.underlying23 Tryz.sizeOf3 (rfl.trans (hdr_at hq1508 _)) rfl (idx_nat y9)) ?_
        refine L_nl fun nJ eN hs => ?_
        have hfr := hfr.ext hs
        have b701 := b701.ext hs
        have b1496 := b1496.ext hs
        clear hs
        refine EL_do .plain rfl (D_storeOV (g := nJ) (u' := (aB : Int)) (Cxt.idx (Cxt.fld (Cxt.root ow_PayTable bk701) fl_PayTable_2 (u3) (sk161)) ((u3).Down) (Int.toNat m7) bb1508 cc1508 ss1508 (idx_nat y9).2 jH) ((congrArg (fun q => ({ u3 with Down := q } : PayTable)) (set_idx y9)).trans rfl) (((congrArg (fun q => ((Prod.fst sk161), ((Prod.fst (Prod.snd sk161)), ((Sl.at bb1508 cc1508 q), (Prod.snd (Prod.snd (Prod.snd sk161))))))) set_unit).trans (congrArg (fun q => ((Prod.fst sk161), ((Prod.fst (Prod.snd sk161)), (q, (Prod.snd (Prod.snd (Prod.snd sk161))))))) (hq1508).symm)).trans rfl) Tryz.sizeOf3 rfl b701 rfl (RV_int.2 rfl) fun eF oJ hs b1568 => ?_)
        have hfr := hfr.stp hs
        have b1496 := b1496.stp hs rfl
        replace b1568 : OV ow_PayTable 2014 eF oJ 58 (({ u3 with Down := (List.set ((u3).Down) (Int.toNat m7) aB) } : PayTable) : PayTable) bk701 sk161 := b1568
        refine EL_nil (blk_n ?_)
        obtain ⟨rfl, rfl⟩ := pairs2 h
        exact hQ _ _ ⟨eF, hfr, rfl, ⟨_, b1568, ok161⟩, rfl, b1496⟩
       ·refine E_cf vB rfl ?_
        refine E_seq (E_region (EL_p (fPtr p6 3) (P_fieldAddr at_58_3 a9 (OB.ptr o0)) rfl ?_))
        refine EL_do .plain rfl (D_loadF (g := nB) part_PayTable_3.1 Tryz.isAgg3 Tryz.sizeOf3 rfl o0 fun gN pJ => ?_)
        obtain rfl := RV_int.1 pJ
        refine EL_p (fPtr g8 3) (P_fieldAddr at_100_3 rfl (OB.ptr b821)) rfl ?_
        refine EL_do .plain rfl (D_storeFc (g := nB) part_PayEntry_3 Tryz.sizeOf3 rfl b821 rfl (RV_int.2 rfl) fun rF iN hs b1572 rst hos => ?_)
        clear rst hos
        have hfr := hfr.stp hs
        have o0 := o0.stp hs rfl
        have b701 := b701.stp hs rfl
        refine EL_nil (thn_n (E_region (EL_p (fPtr p6 3) (P_fieldAddr at_58_3 a9 (OB.ptr o0)) rfl ?_)))
        refine EL_do .plain rfl (D_loadF (g := rF) part_PayTable_3.1 Tryz.isAgg3 Tryz.sizeOf3 rfl o0 fun jN qJ => ?_)
        obtain rfl := RV_int.1 qJ
        refine EL_mv mC rfl ?_
        refine EL_p (.int .i64 (((x2).toNat : Int))) (P_u16int Tryz.underlying81 Tryz.underlying3 rfl) rfl ?_
        obtain ⟨uD, kH, h⟩ := bsome h
        refine EL_do .plain rfl (D_call (g := rF) (vs := [.int .i64 ((y5).Total), .int .i64 (((x2).toNat : Int)), .int .i64 (1000000000)]) en43 (.cons rfl (.cons rfl (.cons rfl .nil))) (wk43  kH) fun rJ lL kN hs hr => ?_)
        have hfr := hfr.ext hs
        have b701 := b701.ext hs
        have b1572 := b1572.ext hs
        subst hr
        refine EL_p ((.pointer (some ⟨bk701, (0 + 3), none⟩))) (P_fieldAddrH at_58_3 rfl) rfl ?_
        refine EL_do .plain rfl (D_storeOV (g := rJ) (u' := (uD : Int)) (Cxt.fld (Cxt.root ow_PayTable bk701) fl_PayTable_3 (u3) (sk161)) rfl rfl Tryz.sizeOf3 rfl b701 rfl (RV_int.2 rfl) fun sF sJ hs b1579 => ?_)
        have hfr := hfr.stp hs
        have b1572 := b1572.stp hs rfl
        replace b1579 : OV ow_PayTable 2014 sF sJ 58 (({ u3 with Total := uD } : PayTable) : PayTable) bk701 sk161 := b1579
        refine EL_nil (blk_n ?_)
        obtain ⟨rfl, rfl⟩ := pairs2 h
        exact hQ _ _ ⟨sF, hfr, rfl, ⟨_, b1579, ok161⟩, rfl, b1572⟩
    ·clear hx
     obtain ⟨lB, hfr, yB, ⟨pK, i6, iA⟩, xD, l5⟩ := hR
     refine E_seq (E_region (EL_do .plain rfl (D_loadAL (g := lB) Tryz.isAgg58 Tryz.sizeOf58 yB i6 fun vJ al1582 => ?_)))
     obtain ⟨dL, lH, h⟩ := bsome h
     refine EL_do .plain rfl (D_callGF (g := lB) (vs := [vJ]) en35 (.cons rfl .nil) (W35 (iO := 4159) (AL.lent al1582 i6 iA rfl) lH) fun gl1583 mH xJ hxl hr => ?_)
     have hm1583 := OWx.unlend fw_ow_PayTable hxl hr
     obtain ⟨yJ, hge1583⟩ : ∃ g, g = { m := fun b => if b < yD.heap.size then lB.m b else gl1583.m b, o := gl1583.o : Gh } := ⟨_, rfl⟩
     rw [← hge1583] at hm1583
     have hs : Ext lB yD yJ mH := hge1583 ▸ unlend hxl
     clear hxl hr hge1583
     have hfr := hfr.ext hs
     have i6 := i6.ext hs
     have l5 := l5.ext hs
     obtain ⟨sk1583, ow1583, ok1583⟩ := hm1583
     obtain ⟨gp1585, hs, rp1585⟩ := OW.pub ow1583 ok1583
     have hfr := hfr.stp hs
     have i6 := i6.stp hs rfl
     have l5 := l5.stp hs rfl
     obtain ⟨t5, nH, h⟩ := bsome h
     refine EL_do .plain rfl (D_call (g := gp1585) (vs := [xJ]) en41 (.cons rfl .nil) (wk41 rp1585 nH) fun mB lD lN hs hr => ?_)
     have hfr := hfr.ext hs
     have i6 := i6.ext hs
     have l5 := l5.ext hs
     obtain ⟨xK, yK, rfl, rfl, rfl⟩ := hr
     refine EL_mw (.tuple #[.bool (t5.1), .int .i64 (t5.2)]) rfl rfl ?_
     refine EL_p (.bool (t5.1)) (P_extract rfl rfl) rfl ?_
     refine EL_p (.int .i64 (t5.2)) (P_extract rfl rfl) rfl ?_
     refine EL_at (.bool (t5.1)) rfl rfl ?_
     refine EL_at (.int .i64 (t5.2)) rfl rfl ?_
     refine EL_nil (thn_n (E_seq (E_region (EL_do .plain rfl (D_loadAL (g := mB) Tryz.isAgg58 Tryz.sizeOf58 yB i6 fun zJ al1589 => ?_)))))
     obtain ⟨eL, oH, h⟩ := bsome h
     refine EL_do .plain rfl (D_callGF (g := mB) (vs := [zJ]) en35 (.cons rfl .nil) (W35 (iO := 4165) (AL.lent al1589 i6 iA rfl) oH) fun gl1590 pH aK hxl hr => ?_)
     have hm1590 := OWx.unlend fw_ow_PayTable hxl hr
     obtain ⟨bK, hge1590⟩ : ∃ g, g = { m := fun b => if b < lD.heap.size then mB.m b else gl1590.m b, o := gl1590.o : Gh } := ⟨_, rfl⟩
     rw [← hge1590] at hm1590
     have hs : Ext mB lD bK pH := hge1590 ▸ unlend hxl
     clear hxl hr hge1590
     have hfr := hfr.ext hs
     have l5 := l5.ext hs
     obtain ⟨sk1590, ow1590, ok1590⟩ := hm1590
     obtain ⟨gp1592, hs, rp1592⟩ := OW.pub ow1590 ok1590
     have hfr := hfr.stp hs
     have l5 := l5.stp hs rfl
     obtain ⟨y6, qH, h⟩ := bsome h
     refine EL_do .plain rfl (D_call (g := gp1592) (vs := [aK]) en42 (.cons rfl .nil) (wk42 rp1592 qH) fun cK mL mN hs hr => ?_)
     have hfr := hfr.ext hs
     have l5 := l5.ext hs
     obtain ⟨z9, zK, rfl, bA, rfl⟩ := hr
     refine EL_mw (.tuple #[z9, .int .i64 (y6.2)]) rfl rfl ?_
     refine EL_p z9 (P_extract rfl rfl) rfl ?_
     refine EL_p (.int .i64 (y6.2)) (P_extract rfl rfl) rfl ?_
     refine EL_do .plain rfl (D_allocOc (g := cK) 2016 (⟨0, 0, 0, 0⟩ : PayEntry) Tryz.zeroValue100 (fun m w => ⟨_, (rep_two rep_int (rep_two rep_int (rep_two rep_int rep_int))), rfl⟩) fun dK nN oN hs b1595 cb => ?_)
     have hfr := hfr.stp hs
     have l5 := l5.stp hs rfl
     have bA := bA.stp hs
     clear cb
     refine EL_do .plain rfl (D_storeOc (g := dK) (v := z9) Tryz.sizeOf100 rfl b1595 rfl bA fun k9 pN hs b1596 cb => ?_)
     clear cb
     have hfr := hfr.stp hs
     have l5 := l5.stp hs rfl
     refine EL_at (.int .i64 (y6.2)) rfl rfl ?_
     refine EL_nil (thn_n ?_)
     obtain ⟨zB, hx, h⟩ := bsome h
     refine E_join (fun e w => ∃ (g : Gh) , Fr gI wI g w ∧ e 6 = .bool (zB)) (fun Q' hQ => ?_) (fun nL qN hR => ?_)
     ·replace h := hx
      clear hx
      refine E_region (EL_mw (.int .i64 (t5.2)) rfl rfl ?_)
      refine EL_in (.bool ((t5.2 == (0 : Int)))) rfl rfl rfl rfl ?_
      refine EL_mw (.bool ((t5.2 == (0 : Int)))) rfl rfl ?_
      rcases csome h with ⟨n8, h⟩ | ⟨n8, h⟩
      ·refine EL_y (.bool (t5.1)) (P_move rfl) rfl rfl n8 rfl ?_
       refine EL_y (.bool (!t5.1)) (P_not rfl) rfl rfl n8 rfl ?_
       refine EL_p (.bool (!t5.1)) (P_pick (b := (t5.2 == (0 : Int))) rfl (pick_t n8 rfl)) rfl ?_
       refine EL_mw (.bool (!t5.1)) rfl rfl ?_
       rcases csome h with ⟨x8, h⟩ | ⟨x8, h⟩
       ·refine EL_y (.int .i64 (y6.2)) (P_move rfl) rfl rfl x8 rfl ?_
        refine EL_y (.bool ((y6.2 == (0 : Int)))) (P_int rfl rfl rfl) rfl rfl x8 rfl ?_
        refine EL_p (.bool ((y6.2 == (0 : Int)))) (P_pick (b := (!t5.1)) rfl (pick_t x8 rfl)) rfl ?_
        refine EL_mw (.bool ((y6.2 == (0 : Int)))) rfl rfl ?_
        rcases csome h with ⟨k8, h⟩ | ⟨k8, h⟩
        ·refine EL_do (.yes2 rfl rfl k8) rfl (D_loadO (g := k9) Tryz.isAgg100 Tryz.sizeOf100 rfl b1596 fun rN lK => ?_)
         refine EL_do (.yes2 rfl rfl k8) rfl (D_loadO (g := k9) Tryz.isAgg100 Tryz.sizeOf100 xD l5 fun sN mK => ?_)
         refine EL_y (.bool ((decide (y6.1 = l8)))) (P_seq seq_100 rfl eg_100 rfl rfl lK mK) rfl rfl k8 rfl ?_
         refine EL_p (.bool ((decide (y6.1 = l8)))) (P_pick (b := (y6.2 == (0 : Int))) rfl (pick_t k8 rfl)) rfl ?_
         refine EL_mw (.bool ((decide (y6.1 = l8)))) rfl rfl ?_
         rcases csome h with ⟨l9, h⟩ | ⟨l9, h⟩
         ·obtain ⟨vD, sH, h⟩ := bsome h
          refine EL_do (.yes2 rfl rfl l9) rfl (D_call (g := k9) (vs := []) en12 .nil (wk12  sH) fun nK oL tN hs hr => ?_)
          have hfr := hfr.ext hs
          subst hr
          refine EL_p (.bool (vD)) (P_pick (b := (decide (y6.1 = l8))) rfl (pick_t l9 rfl)) rfl ?_
          refine EL_at (.bool (vD)) rfl rfl ?_
          refine EL_nil ?_
          obtain rfl := sinj h
          exact hQ _ _ ⟨nK, hfr, rfl⟩
         ·refine EL_s rfl rfl l9 rfl rfl ?_
          refine EL_p (.bool false) (P_pick (b := (decide (y6.1 = l8))) rfl (pick_f l9 rfl)) rfl ?_
          refine EL_at (.bool false) rfl rfl ?_
          refine EL_nil ?_
          obtain rfl := sinj h
          exact hQ _ _ ⟨k9, hfr, rfl⟩
        ·refine EL_s rfl rfl k8 rfl rfl ?_
         refine EL_s rfl rfl k8 rfl rfl ?_
         refine EL_s rfl rfl k8 rfl rfl ?_
         refine EL_p (.bool false) (P_pick (b := (y6.2 == (0 : Int))) rfl (pick_f k8 rfl)) rfl ?_
         refine EL_dead 3 rfl ?_
         refine EL_at (.bool false) rfl rfl ?_
         refine EL_nil ?_
         obtain rfl := sinj h
         exact hQ _ _ ⟨k9, hfr, rfl⟩
       ·refine EL_s rfl rfl x8 rfl rfl ?_
        refine EL_s rfl rfl x8 rfl rfl ?_
        refine EL_p (.bool false) (P_pick (b := (!t5.1)) rfl (pick_f x8 rfl)) rfl ?_
        refine EL_dead 8 rfl ?_
        refine EL_at (.bool false) rfl rfl ?_
        refine EL_nil ?_
        obtain rfl := sinj h
        exact hQ _ _ ⟨k9, hfr, rfl⟩
      ·refine EL_s rfl rfl n8 rfl rfl ?_
       refine EL_s rfl rfl n8 rfl rfl ?_
       refine EL_p (.bool false) (P_pick (b := (t5.2 == (0 : Int))) rfl (pick_f n8 rfl)) rfl ?_
       refine EL_dead 12 rfl ?_
       refine EL_at (.bool false) rfl rfl ?_
       refine EL_nil ?_
       obtain rfl := sinj h
       exact hQ _ _ ⟨k9, hfr, rfl⟩
     ·clear hx
      obtain ⟨uN, hfr, tF⟩ := hR
      refine E_ret ?_
      obtain rfl := sinj h
      exact end1 rfl rfl (show _ = .bool (zB) from tF) ⟨_, hfr, rfl⟩
   ·refine CT_do [2007] rfl rfl rfl .plain (D_allocOc (g := nD) 2015 (⟨0, 0, 0, 0⟩ : PayEntry) Tryz.zeroValue100 (fun m w => ⟨_, (rep_two rep_int (rep_two rep_int (rep_two rep_int rep_int))), rfl⟩) fun vK eO g8 hs b641 cb => ?_)
    have hfr := hfr.stp hs
    have hlt := hlt.stp hs
    have o0 := o0.stp hs rfl
    have yH := yH.stp hs
    have d9 := d9.stp hs
    have b581 := b581.stp hs rfl
    clear cb
    refine ⟨hlt.toW, ?_⟩
    refine CT_do [2007] rfl rfl rfl .plain (D_callG (g := vK) (vs := [vN]) en35 (.cons rfl .nil) (W35 (iO := 4062) yH xL) fun uK cO dO hs hm161 => ?_)
    have hfr := hfr.ext hs
    have hlt := hlt.ext hs
    have o0 := o0.ext hs
    have d9 := d9.ext hs
    have b581 := b581.ext hs
    have b641 := b641.ext hs
    obtain ⟨sk161, ow161, ok161⟩ := hm161
    refine ⟨hlt.toW, ?_⟩
    refine CT_do [2007] rfl rfl rfl .plain (D_storeOW (g := uK) Tryz.sizeOf58 rfl b581 rfl ow161 rfl fun gj701 qK xN bk701 hsa hsb hpp b701 => ?_)
    have hfr := hfr.stp hsa
    have hlt := hlt.stp hsa
    have o0 := o0.stp hsa rfl
    have d9 := d9.stp hsa
    have b641 := b641.stp hsa rfl
    have hfr := hfr.stp hsb
    have hlt := hlt.stp hsb
    have o0 := o0.stp hsb rfl
    have d9 := d9.stp hsb
    have b641 := b641.stp hsb rfl
    clear hsa hsb
    subst hpp
    refine ⟨hlt.toW, ?_⟩
    refine CT_nil ?_
    clear hlt
    refine EL_do .plain rfl (D_storeOc (g := qK) (v := vL) Tryz.sizeOf100 rfl b641 rfl d9 fun nB sK hs b821 cb => ?_)
    clear cb
    have hfr := hfr.stp hs
    have o0 := o0.stp hs rfl
    have b701 := b701.stp hs rfl
    refine EL_nil (thn_n ?_)
    obtain ⟨⟨qC, l8⟩, hx, h⟩ := bsome h
    refine E_join (fun e w => ∃ (g : Gh) , Fr gI wI g w ∧ e 14 = (Value.pointer (some ⟨bk701, 0, none⟩)) ∧ OVb ow_PayTable 2014 g w 58 (qC : PayTable) bk701 ∧ e 15 = g8 ∧ OB 2015 g w 100 (l8 : PayEntry) g8) (fun Q' hQ => ?_) (fun jL yD hR => ?_)
    ·replace h := hx
     clear hx
     refine E_seq (E_region (EL_p (fPtr g8 0) (P_fieldAddr at_100_0 rfl (OB.ptr b821)) rfl ?_))
     refine EL_do .plain rfl (D_loadF (g := nB) part_PayEntry_0.1 Tryz.isAgg98 Tryz.sizeOf98 rfl b821 fun bM aI => ?_)
     obtain rfl := RV_int.1 aI
     refine EL_nil (thn_n (E_block ?_))
     refine E_seq (E_region (EL_p (.bool ((((((1 : UInt8) + i7)).toNat : Int) == (1 : Int)))) (P_int rfl rfl rfl) rfl ?_))
     refine EL_p (.bool ((((((1 : UInt8) + i7)).toNat : Int) == (1 : Int)))) (P_assign rfl) rfl ?_
     refine EL_nil (thn_n ?_)
     rcases csome h with ⟨oB, h⟩ | ⟨oB, h⟩
     ·refine E_ct oB rfl ?_
      refine E_seq (L_loadO (x := .tmp 84) part_PayTable_0.1 Tryz.isAgg56 Tryz.sizeOf56 o0 fun zD dB xF => ?_)
      obtain ⟨aL, vC, h⟩ := bsome h
      have rC := PT_idx dB vC
      refine L_load (x := .tmp 87) Tryz.isAgg23 Tryz.sizeOf23 rC fun aE iB yF => ?_
      obtain ⟨tH, aD, h⟩ := bsome h
      have uC := PT_idx iB aD
      refine L_load (x := .tmp 90) Tryz.isAgg3 Tryz.sizeOf3 uC fun cM bI zF => ?_
      obtain rfl := RV_int.1 bI
      refine E_drawC (g := nB) (w := sK) (n := 14) [0, 1, 2, 3, 4, 5, 6, 7, 8, 9, 10, 12] [2007] [0, 1, 2, 3, 4, 5, 6, 7, 8, 9, 10, 11, 12, 13] rfl mixed (by kernel_rfl) fun w_c1210 hs hlt => ?_
      have hfr := hfr.ext hs
      have o0 := o0.ext hs
      have b701 := b701.ext hs
      have b821 := b821.ext hs
      clear hs
      refine CH_pur (c := .int .i64 (x5)) rfl rfl .plain (P_move rfl) ?_
      refine CH_pur (c := .int .i64 (m7)) rfl rfl .plain (P_move rfl) ?_
      refine CH_pur (c := fPtr p6 0) rfl rfl .plain (P_fieldAddr at_58_0 a9 (OB.ptr o0)) ?_
      refine CH_ldO (n := 2007) (c := zD) rfl rfl .plain xF rfl rfl ?_
      have dB := dB.ch hlt.1
      refine CH_pur (c := .int .i64 (x5)) rfl rfl .plain (P_move rfl) ?_
      refine CH_pur (c := ePtr zD x5 1) rfl rfl .plain (P_indexAddr (α := List Int) Tryz.underlying56 Tryz.sizeOf23 rfl dB rfl vC) ?_
      have rC := rC.ch hlt.1
      refine CH_ldP (c := aE) rfl rfl .plain yF rfl ?_
      have iB := iB.ch hlt.1
      refine CH_pur (c := .int .i64 (m7)) rfl rfl .plain (P_move rfl) ?_
      refine CH_pur (c := ePtr aE m7 1) rfl rfl .plain (P_indexAddr (α := Int) Tryz.underlying23 Tryz.sizeOf3 rfl iB rfl aD) ?_
      have uC := uC.ch hlt.1
      refine CH_ldP (c := .int .i64 (tH)) rfl rfl .plain zF rfl ?_
      refine CH_pur (c := fPtr g8 1) rfl rfl .plain (P_fieldAddr at_100_1 rfl (OB.ptr b821)) ?_
      refine CH_do rfl rfl .plain (D_storeFc (g := nB) part_PayEntry_1 Tryz.sizeOf3 rfl b821 rfl (RV_int.2 rfl) fun dI dM hs b1220 rst hos => ?_)
      clear rst hos
      have hfr := hfr.stp hs
      have hlt := hlt.stp hs
      have o0 := o0.stp hs rfl
      have b701 := b701.stp hs rfl
      refine ⟨hlt.toW, ?_⟩
      refine CH_pur (c := fPtr g8 2) rfl rfl .plain (P_fieldAddr at_100_2 rfl (OB.ptr b1220)) ?_
      refine CH_do rfl rfl .plain (D_storeFc (g := dI) part_PayEntry_2 Tryz.sizeOf3 rfl b1220 rfl (RV_int.2 rfl) fun iI eM hs b1222 rst hos => ?_)
      clear rst hos
      have hfr := hfr.stp hs
      have hlt := hlt.stp hs
      have o0 := o0.stp hs rfl
      have b701 := b701.stp hs rfl
      refine ⟨hlt.toW, ?_⟩
      refine CH_nil ?_
      clear hlt
      refine EL_p (fPtr g8 3) (P_fieldAddr at_100_3 rfl (OB.ptr b1222)) rfl ?_
      refine EL_do .plain rfl (D_storeFc (g := iI) part_PayEntry_3 Tryz.sizeOf3 rfl b1222 rfl (RV_int.2 rfl) fun jI iM hs b1224 rst hos => ?_)
      clear rst hos
      have hfr := hfr.stp hs
      have o0 := o0.stp hs rfl
      have b701 := b701.stp hs rfl
      refine EL_nil (thn_n (L_loadH (x := .tmp 95) (Cxt.fld (Cxt.root ow_PayTable bk701) fl_PayTable_0 (u3) (sk161)) rfl rfl (ok161.1) Tryz.isAgg56 b701 fun aG => ?_))
      obtain ⟨cC, x6, h⟩ := bsome h
      obtain ⟨bb1229, cc1229, ss1229, hq1229, m8⟩ := (OV.slice b701 (Cxt.fld (Cxt.root ow_PayTable bk701) fl_PayTable_0 (u3) (sk161)) rfl rfl (ok161.1)).2 x6
      refine L_loadH (x := .tmp 98) (Cxt.idx (Cxt.fld (Cxt.root ow_PayTable bk701) fl_PayTable_0 (u3) (sk161)) ((u3).Rows) (Int.toNat x5) bb1229 cc1229 ss1229 (idx_nat x6).2 m8) ((congrArg (fun q => ({ u3 with Rows := q } : PayTable)) (set_idx x6)).trans rfl) (((congrArg (fun q => ((Sl.at bb1229 cc1229 q), (Prod.snd sk161))) (set_getD (by rw [m8]; exact (idx_nat x6).2))).trans (congrArg (fun q => (q, (Prod.snd sk161))) (hq1229).symm)).trans rfl) (ok_at (ok161.1) hq1229 (by rw [m8]; exact (idx_nat x6).2)) Tryz.isAgg23 b701 fun bG => ?_
      refine L_loadO (x := .tmp 101) part_PayTable_0.1 Tryz.isAgg56 Tryz.sizeOf56 o0 fun bE iE cG => ?_
      obtain ⟨bL, bD, h⟩ := bsome h
      have kI := PT_idx iE bD
      refine L_load (x := .tmp 104) Tryz.isAgg23 Tryz.sizeOf23 kI fun lE mE eG => ?_
      obtain ⟨oD, cD, h⟩ := bsome h
      have lI := PT_idx mE cD
      refine L_load (x := .tmp 107) Tryz.isAgg3 Tryz.sizeOf3 lI fun jM mI gG => ?_
      obtain rfl := RV_int.1 mI
      obtain ⟨rA, hG, h⟩ := bsome h
      obtain ⟨pL, n9, h⟩ := bsome h
      obtain ⟨bb1243, cc1243, ss1243, hq1243, iG⟩ := (OV.slice b701 (Cxt.idx (Cxt.fld (Cxt.root ow_PayTable bk701) fl_PayTable_0 (u3) (sk161)) ((u3).Rows) (Int.toNat x5) bb1229 cc1229 ss1229 (idx_nat x6).2 m8) ((congrArg (fun q => ({ u3 with Rows := q } : PayTable)) (set_idx x6)).trans rfl) (((congrArg (fun q => ((Sl.at bb1229 cc1229 q), (Prod.snd sk161))) (set_getD (by rw [m8]; exact (idx_nat x6).2))).trans (congrArg (fun q => (q, (Prod.snd sk161))) (hq1229).symm)).trans rfl) (ok_at (ok161.1) hq1229 (by rw [m8]; exact (idx_nat x6).2))).2 n9
      refine E_drawL (g := jI) (n := 18) [(16, (fun v g w => v = .int .i64 (rA)))] [0, 1, 2, 3, 4, 5, 6, 7, 8, 9, 10, 11, 12, 13, 14, 15, 16, 17] rfl mixed (by kernel_rfl) (⟨fun _ => up_eq _, trivial⟩) ?_
      refine L_p ((.pointer (some ⟨bk701, (0 + 0), none⟩))) rfl rfl (P_fieldAddrH at_58_0 rfl) ?_
      refine L_ld (c := (hdrV (Prod.fst sk161) ((u3).Rows).length)) rfl rfl .plain (fun _ _ h => ⟨h.ch, fun b hb _ => h.below.block b hb⟩) aG rfl ?_
      refine L_p (.int .i64 (x5)) rfl rfl (P_move rfl) ?_
      refine L_p ((.pointer (some ⟨bb1229, ((Int.toNat x5) * 1), none⟩))) rfl rfl (P_indexH Tryz.underlying56 Tryz.sizeOf23 (rfl.trans (hdr_at hq1229 _)) rfl (idx_nat x6)) ?_
      refine L_ld (c := (hdrV (List.getD ss1229 (Int.toNat x5) ((Ow.list 3 (Ow.sh Int))).df) (cC).length)) rfl rfl .plain (fun _ _ h => ⟨h.ch, fun b hb _ => h.below.block b hb⟩) bG rfl ?_
      refine L_p (.int .i64 (m7)) rfl rfl (P_move rfl) ?_
      refine L_p (fPtr p6 0) rfl rfl (P_fieldAddr at_58_0 a9 (OB.ptr o0)) ?_
      refine L_ld (c := bE) rfl rfl .plain (fun _ _ h => ⟨h.ch, fun b hb _ => h.below.block b hb⟩) cG rfl ?_
      refine L_p (.int .i64 (x5)) rfl rfl (P_move rfl) ?_
      refine L_p (ePtr bE x5 1) rfl rfl (P_indexAddr (α := List Int) Tryz.underlying56 Tryz.sizeOf23 rfl iE rfl bD) ?_
      refine L_ld (c := lE) rfl rfl .plain (fun _ _ h => h.ch) eG rfl ?_
      refine L_p (.int .i64 (m7)) rfl rfl (P_move rfl) ?_
      refine L_p (ePtr lE m7 1) rfl rfl (P_indexAddr (α := Int) Tryz.underlying23 Tryz.sizeOf3 rfl mE rfl cD) ?_
      refine L_ld (c := .int .i64 (oD)) rfl rfl .plain (fun _ _ h => h.ch) gG rfl ?_
      refine L_p (.int .u16 (UInt16.toNat (x2))) rfl rfl (P_move mC) ?_
      refine L_p (.int .i64 (((x2).toNat : Int))) rfl rfl (P_u16int Tryz.underlying81 Tryz.underlying3 rfl) ?_
      refine L_do (φ := fun v g w => v = .int .i64 (rA)) rfl rfl .plain (fun g w hd => D_call (g := g) (vs := [.int .i64 (oD), .int .i64 (((x2).toNat : Int)), .int .i64 (1000000)]) en43 (.cons rfl (.cons rfl (.cons rfl .nil))) (wk43  hG) fun g' w' v hs hr => ⟨g', hs, hr⟩) (fun kM hv => ?_)
      obtain ⟨_, _, _, rfl⟩ := hv
      refine L_p ((.pointer (some ⟨bb1243, ((Int.toNat m7) * 1), none⟩))) rfl rfl (P_indexH Tryz.underlying23 Tryz.sizeOf3 (rfl.trans (hdr_at hq1243 _)) rfl (idx_nat n9)) ?_
      refine L_nl fun nI mM hs => ?_
      have hfr := hfr.ext hs
      have b701 := b701.ext hs
      have b1224 := b1224.ext hs
      clear hs
      refine EL_do .plain rfl (D_storeOV (g := nI) (u' := (rA : Int)) (Cxt.idx (Cxt.idx (Cxt.fld (Cxt.root ow_PayTable bk701) fl_PayTable_0 (u3) (sk161)) ((u3).Rows) (Int.toNat x5) bb1229 cc1229 ss1229 (idx_nat x6).2 m8) (cC) (Int.toNat m7) bb1243 cc1243 ss1243 (idx_nat n9).2 iG) ((congrArg (fun q => ({ u3 with Rows := (List.set ((u3).Rows) (Int.toNat x5) q) } : PayTable)) (set_idx n9)).trans ((congrArg (fun q => ({ u3 with Rows := q } : PayTable)) (set_idx x6)).trans rfl)) (((congrArg (fun q => ((Sl.at bb1229 cc1229 (List.set ss1229 (Int.toNat x5) (Sl.at bb1243 cc1243 q))), (Prod.snd sk161))) set_unit).trans (congrArg (fun q => ((Sl.at bb1229 cc1229 (List.set ss1229 (Int.toNat x5) q)), (Prod.snd sk161))) (hq1243).symm)).trans (((congrArg (fun q => ((Sl.at bb1229 cc1229 q), (Prod.snd sk161))) (set_getD (by rw [m8]; exact (idx_nat x6).2))).trans (congrArg (fun q => (q, (Prod.snd sk161))) (hq1229).symm)).trans rfl)) Tryz.sizeOf3 rfl b701 rfl (RV_int.2 rfl) fun nE pI hs b1310 => ?_)
      have hfr := hfr.stp hs
      have b1224 := b1224.stp hs rfl
      replace b1310 : OV ow_PayTable 2014 nE pI 58 (({ u3 with Rows := (List.set ((u3).Rows) (Int.toNat x5) (List.set cC (Int.toNat m7) rA)) } : PayTable) : PayTable) bk701 sk161 := b1310
      refine EL_nil (blk_n ?_)
      obtain ⟨rfl, rfl⟩ := pairs2 h
      exact hQ _ _ ⟨nE, hfr, rfl, ⟨_, b1310, ok161⟩, rfl, b1224⟩
     ·refine E_cf oB rfl ?_
      refine E_seq (E_region (EL_p (.bool ((((((1 : UInt8) + i7)).toNat : Int) == (2 : Int)))) (P_int rfl rfl rfl) rfl ?_))
      refine EL_p (.bool ((((((1 : UInt8) + i7)).toNat : Int) == (2 : Int)))) (P_assign rfl) rfl ?_
      refine EL_nil (thn_n ?_)
      rcases csome h with ⟨tB, h⟩ | ⟨tB, h⟩
      ·refine E_ct tB rfl ?_
       refine E_seq (L_loadO (x := .tmp 116) part_PayTable_1.1 Tryz.isAgg23 Tryz.sizeOf23 o0 fun oE rE jG => ?_)
       obtain ⟨uH, eD, h⟩ := bsome h
       have qI := PT_idx rE eD
       refine L_load (x := .tmp 119) Tryz.isAgg3 Tryz.sizeOf3 qI fun nM sI kG => ?_
       obtain rfl := RV_int.1 sI
       refine E_drawB (a0 := ((⟨((((1 : UInt8) + i7)).toNat : Int), 0, 0, 0⟩ : PayEntry) : PayEntry)) (a1 := ((⟨((((1 : UInt8) + i7)).toNat : Int), x5, 0, 0⟩ : PayEntry) : PayEntry)) b821 (n := 9) [(7, (fun _ g w => OB 2015 g w 100 ((⟨((((1 : UInt8) + i7)).toNat : Int), x5, 0, 0⟩ : PayEntry) : PayEntry) g8))] [0, 1, 2, 3, 4, 5, 6, 7, 8] rfl mixed (by kernel_rfl) (⟨fun _ => up_box, trivial⟩) ?_
       refine L_p (.int .i64 (x5)) rfl rfl (P_move rfl) ?_
       refine L_p (fPtr p6 1) rfl rfl (P_fieldAddr at_58_1 a9 (OB.ptr o0)) ?_
       refine L_ld (c := oE) rfl rfl .plain (fun _ _ h => ⟨h.1.ch, fun b hb ho => h.1.block b hb (by rw [ho]; decide)⟩) jG rfl ?_
       refine L_p (.int .i64 (x5)) rfl rfl (P_move rfl) ?_
       refine L_p (ePtr oE x5 1) rfl rfl (P_indexAddr (α := Int) Tryz.underlying23 Tryz.sizeOf3 rfl rE rfl eD) ?_
       refine L_ld (c := .int .i64 (uH)) rfl rfl .plain (fun _ _ h => h.1.ch) kG rfl ?_
       refine L_p (fPtr g8 1) rfl rfl (P_fieldAddr at_100_1 rfl (OB.ptr b821)) ?_
       refine L_do (φ := fun _ g w => OB 2015 g w 100 ((⟨((((1 : UInt8) + i7)).toNat : Int), x5, 0, 0⟩ : PayEntry) : PayEntry) g8) rfl rfl .plain (fun g w hd => D_storeR (g := g) (by rfl) (by exact rfl) part_PayEntry_1 Tryz.sizeOf3 rfl hd.1.2 rfl (RV_int.2 rfl)) (fun oM hv => ?_)
       clear hv
       refine L_p (fPtr g8 3) rfl rfl (P_fieldAddr at_100_3 rfl (OB.ptr b821)) ?_
       refine L_nil fun tI pM hall => ?_
       have hs := hall.1.1
       have hfr := hfr.stp hs
       have o0 := o0.stp hs rfl
       have b701 := b701.stp hs rfl
       have b1351 := (word_all (A := fun g w => OB 2015 g w 100 ((⟨((((1 : UInt8) + i7)).toNat : Int), x5, 0, 0⟩ : PayEntry) : PayEntry) g8) 7 rfl hall)
       clear hs hall
       refine EL_do .plain rfl (D_storeFc (g := tI) part_PayEntry_3 Tryz.sizeOf3 rfl b1351 rfl (RV_int.2 rfl) fun uI qM hs b1367 rst hos => ?_)
       clear rst hos
       have hfr := hfr.stp hs
       have o0 := o0.stp hs rfl
       have b701 := b701.stp hs rfl
       refine EL_nil (thn_n (L_loadH (x := .tmp 123) (Cxt.fld (Cxt.root ow_PayTable bk701) fl_PayTable_1 (u3) (sk161)) rfl rfl ((ok161.2).1) Tryz.isAgg23 b701 fun lG => ?_))
       refine L_loadO (x := .tmp 126) part_PayTable_1.1 Tryz.isAgg23 Tryz.sizeOf23 o0 fun uE vE mG => ?_
       obtain ⟨sD, gD, h⟩ := bsome h
       have vI := PT_idx vE gD
       refine L_load (x := .tmp 129) Tryz.isAgg3 Tryz.sizeOf3 vI fun rM yI sG => ?_
       obtain rfl := RV_int.1 yI
       obtain ⟨yA, xG, h⟩ := bsome h
       obtain ⟨qL, u9, h⟩ := bsome h
       obtain ⟨bb1379, cc1379, ss1379, hq1379, yG⟩ := (OV.slice b701 (Cxt.fld (Cxt.root ow_PayTable bk701) fl_PayTable_1 (u3) (sk161)) rfl rfl ((ok161.2).1)).2 u9
       refine E_drawL (g := uI) (n := 12) [(10, (fun v g w => v = .int .i64 (yA)))] [0, 1, 2, 3, 4, 5, 6, 7, 8, 9, 10, 11] rfl mixed (by kernel_rfl) (⟨fun _ => up_eq _, trivial⟩) ?_
       refine L_p ((.pointer (some ⟨bk701, (0 + 1), none⟩))) rfl rfl (P_fieldAddrH at_58_1 rfl) ?_
       refine L_ld (c := (hdrV (Prod.fst (Prod.snd sk161)) ((u3).Across).length)) rfl rfl .plain (fun _ _ h => ⟨h.ch, fun b hb _ => h.below.block b hb⟩) lG rfl ?_
       refine L_p (.int .i64 (x5)) rfl rfl (P_move rfl) ?_
       refine L_p (fPtr p6 1) rfl rfl (P_fieldAddr at_58_1 a9 (OB.ptr o0)) ?_
       refine L_ld (c := uE) rfl rfl .plain (fun _ _ h => ⟨h.ch, fun b hb _ => h.below.block b hb⟩) mG rfl ?_
       refine L_p (.int .i64 (x5)) rfl rfl (P_move rfl) ?_
       refine L_p (ePtr uE x5 1) rfl rfl (P_indexAddr (α := Int) Tryz.underlying23 Tryz.sizeOf3 rfl vE rfl gD) ?_
       refine L_ld (c := .int .i64 (sD)) rfl rfl .plain (fun _ _ h => h.ch) sG rfl ?_
       refine L_p (.int .u16 (UInt16.toNat (x2))) rfl rfl (P_move mC) ?_
       refine L_p (.int .i64 (((x2).toNat : Int))) rfl rfl (P_u16int Tryz.underlying81 Tryz.underlying3 rfl) ?_
       refine L_do (φ := fun v g w => v = .int .i64 (yA)) rfl rfl .plain (fun g w hd => D_call (g := g) (vs := [.int .i64 (sD), .int .i64 (((x2).toNat : Int)), .int .i64 (1000000000)]) en43 (.cons rfl (.cons rfl (.cons rfl .nil))) (wk43  xG) fun g' w' v hs hr => ⟨g', hs, hr⟩) (fun sM hv => ?_)
       obtain ⟨_, _, _, rfl⟩ := hv
       refine L_p ((.pointer (some ⟨bb1379, ((Int.toNat x5) * 1), none⟩))) rfl rfl (P_indexH Tryz.underlying23 Tryz.sizeOf3 (rfl.trans (hdr_at hq1379 _)) rfl (idx_nat u9)) ?_
       refine L_nl fun zI tM hs => ?_
       have hfr := hfr.ext hs
       have b701 := b701.ext hs
       have b1367 := b1367.ext hs
       clear hs
       refine EL_do .plain rfl (D_storeOV (g := zI) (u' := (yA : Int)) (Cxt.idx (Cxt.fld (Cxt.root ow_PayTable bk701) fl_PayTable_1 (u3) (sk161)) ((u3).Across) (Int.toNat x5) bb1379 cc1379 ss1379 (idx_nat u9).2 yG) ((congrArg (fun q => ({ u3 with Across := q } : PayTable)) (set_idx u9)).trans rfl) (((congrArg (fun q => ((Prod.fst sk161), ((Sl.at bb1379 cc1379 q), (Prod.snd (Prod.snd sk161))))) set_unit).trans (congrArg (fun q => ((Prod.fst sk161), (q, (Prod.snd (Prod.snd sk161))))) (hq1379).symm)).trans rfl) Tryz.sizeOf3 rfl b701 rfl (RV_int.2 rfl) fun xE eJ hs b1437 => ?_)
       have hfr := hfr.stp hs
       have b1367 := b1367.stp hs rfl
       replace b1437 : OV ow_PayTable 2014 xE eJ 58 (({ u3 with Across := (List.set ((u3).Across) (Int.toNat x5) yA) } : PayTable) : PayTable) bk701 sk161 := b1437
       refine EL_nil (blk_n ?_)
       obtain ⟨rfl, rfl⟩ := pairs2 h
       exact hQ _ _ ⟨xE, hfr, rfl, ⟨_, b1437, ok161⟩, rfl, b1367⟩
      ·refine E_cf tB rfl ?_
       refine E_seq (E_region (EL_p (.bool ((((((1 : UInt8) + i7)).toNat : Int) == (3 : Int)))) (P_int rfl rfl rfl) rfl ?_))
       refine EL_p (.bool ((((((1 : UInt8) + i7)).toNat : Int) == (3 : Int)))) (P_assign rfl) rfl ?_
       refine EL_nil (thn_n ?_)
       rcases csome h with ⟨vB, h⟩ | ⟨vB, h⟩
       ·refine E_ct vB rfl ?_
        refine E_seq (L_loadO (x := .tmp 138) part_PayTable_2.1 Tryz.isAgg23 Tryz.sizeOf23 o0 fun yE zE zG => ?_)
        obtain ⟨xH, iD, h⟩ := bsome h
        have gJ := PT_idx zE iD
        refine L_load (x := .tmp 141) Tryz.isAgg3 Tryz.sizeOf3 gJ fun uM iJ aH => ?_
        obtain rfl := RV_int.1 iJ
        refine E_drawB (a0 := ((⟨((((1 : UInt8) + i7)).toNat : Int), 0, 0, 0⟩ : PayEntry) : PayEntry)) (a1 := ((⟨((((1 : UInt8) + i7)).toNat : Int), 0, m7, 0⟩ : PayEntry) : PayEntry)) b821 (n := 9) [(7, (fun _ g w => OB 2015 g w 100 ((⟨((((1 : UInt8) + i7)).toNat : Int), 0, m7, 0⟩ : PayEntry) : PayEntry) g8))] [0, 1, 2, 3, 4, 5, 6, 7, 8] rfl mixed (by kernel_rfl) (⟨fun _ => up_box, trivial⟩) ?_
        refine L_p (.int .i64 (m7)) rfl rfl (P_move rfl) ?_
        refine L_p (fPtr p6 2) rfl rfl (P_fieldAddr at_58_2 a9 (OB.ptr o0)) ?_
        refine L_ld (c := yE) rfl rfl .plain (fun _ _ h => ⟨h.1.ch, fun b hb ho => h.1.block b hb (by rw [ho]; decide)⟩) zG rfl ?_
        refine L_p (.int .i64 (m7)) rfl rfl (P_move rfl) ?_
        refine L_p (ePtr yE m7 1) rfl rfl (P_indexAddr (α := Int) Tryz.underlying23 Tryz.sizeOf3 rfl zE rfl iD) ?_
        refine L_ld (c := .int .i64 (xH)) rfl rfl .plain (fun _ _ h => h.1.ch) aH rfl ?_
        refine L_p (fPtr g8 2) rfl rfl (P_fieldAddr at_100_2 rfl (OB.ptr b821)) ?_
        refine L_do (φ := fun _ g w => OB 2015 g w 100 ((⟨((((1 : UInt8) + i7)).toNat : Int), 0, m7, 0⟩ : PayEntry) : PayEntry) g8) rfl rfl .plain (fun g w hd => D_storeR (g := g) (by rfl) (by exact rfl) part_PayEntry_2 Tryz.sizeOf3 rfl hd.1.2 rfl (RV_int.2 rfl)) (fun vM hv => ?_)
        clear hv
        refine L_p (fPtr g8 3) rfl rfl (P_fieldAddr at_100_3 rfl (OB.ptr b821)) ?_
        refine L_nil fun jJ xM hall => ?_
        have hs := hall.1.1
        have hfr := hfr.stp hs
        have o0 := o0.stp hs rfl
        have b701 := b701.stp hs rfl
        have b1478 := (word_all (A := fun g w => OB 2015 g w 100 ((⟨((((1 : UInt8) + i7)).toNat : Int), 0, m7, 0⟩ : PayEntry) : PayEntry) g8) 7 rfl hall)
        clear hs hall
        refine EL_do .plain rfl (D_storeFc (g := jJ) part_PayEntry_3 Tryz.sizeOf3 rfl b1478 rfl (RV_int.2 rfl) fun kJ bN hs b1496 rst hos => ?_)
        clear rst hos
        have hfr := hfr.stp hs
        have o0 := o0.stp hs rfl
        have b701 := b701.stp hs rfl
        refine EL_nil (thn_n (L_loadH (x := .tmp 145) (Cxt.fld (Cxt.root ow_PayTable bk701) fl_PayTable_2 (u3) (sk161)) rfl rfl (((ok161.2).2).1) Tryz.isAgg23 b701 fun cH => ?_))
        refine L_loadO (x := .tmp 148) part_PayTable_2.1 Tryz.isAgg23 Tryz.sizeOf23 o0 fun cF dF dH => ?_
        obtain ⟨tD, jD, h⟩ := bsome h
        have lJ := PT_idx dF jD
        refine L_load (x := .tmp 151) Tryz.isAgg3 Tryz.sizeOf3 lJ fun cN mJ gH => ?_
        obtain rfl := RV_int.1 mJ
        obtain ⟨aB, iH, h⟩ := bsome h
        obtain ⟨rL, y9, h⟩ := bsome h
        obtain ⟨bb1508, cc1508, ss1508, hq1508, jH⟩ := (OV.slice b701 (Cxt.fld (Cxt.root ow_PayTable bk701) fl_PayTable_2 (u3) (sk161)) rfl rfl (((ok161.2).2).1)).2 y9
        refine E_drawL (g := kJ) (n := 12) [(10, (fun v g w => v = .int .i64 (aB)))] [0, 1, 2, 3, 4, 5, 6, 7, 8, 9, 10, 11] rfl mixed (by kernel_rfl) (⟨fun _ => up_eq _, trivial⟩) ?_
        refine L_p ((.pointer (some ⟨bk701, (0 + 2), none⟩))) rfl rfl (P_fieldAddrH at_58_2 rfl) ?_
        refine L_ld (c := (hdrV (Prod.fst (Prod.snd (Prod.snd sk161))) ((u3).Down).length)) rfl rfl .plain (fun _ _ h => ⟨h.ch, fun b hb _ => h.below.block b hb⟩) cH rfl ?_
        refine L_p (.int .i64 (m7)) rfl rfl (P_move rfl) ?_
        refine L_p (fPtr p6 2) rfl rfl (P_fieldAddr at_58_2 a9 (OB.ptr o0)) ?_
        refine L_ld (c := cF) rfl rfl .plain (fun _ _ h => ⟨h.ch, fun b hb _ => h.below.block b hb⟩) dH rfl ?_
        refine L_p (.int .i64 (m7)) rfl rfl (P_move rfl) ?_
        refine L_p (ePtr cF m7 1) rfl rfl (P_indexAddr (α := Int) Tryz.underlying23 Tryz.sizeOf3 rfl dF rfl jD) ?_
        refine L_ld (c := .int .i64 (tD)) rfl rfl .plain (fun _ _ h => h.ch) gH rfl ?_
        refine L_p (.int .u16 (UInt16.toNat (x2))) rfl rfl (P_move mC) ?_
        refine L_p (.int .i64 (((x2).toNat : Int))) rfl rfl (P_u16int Tryz.underlying81 Tryz.underlying3 rfl) ?_
        refine L_do (φ := fun v g w => v = .int .i64 (aB)) rfl rfl .plain (fun g w hd => D_call (g := g) (vs := [.int .i64 (tD), .int .i64 (((x2).toNat : Int)), .int .i64 (1000000000)]) en43 (.cons rfl (.cons rfl (.cons rfl .nil))) (wk43  iH) fun g' w' v hs hr => ⟨g', hs, hr⟩) (fun dN hv => ?_)
        obtain ⟨_, _, _, rfl⟩ := hv
        refine L_p ((.pointer (some ⟨bb1508, ((Int.toNat m7) * 1), none⟩))) rfl rfl (P_indexH Tryz.underlying23 Tryz.sizeOf3 (rfl.trans (hdr_at hq1508 _)) rfl (idx_nat y9)) ?_
        refine L_nl fun nJ eN hs => ?_
        have hfr := hfr.ext hs
        have b701 := b701.ext hs
        have b1496 := b1496.ext hs
        clear hs
        refine EL_do .plain rfl (D_storeOV (g := nJ) (u' := (aB : Int)) (Cxt.idx (Cxt.fld (Cxt.root ow_PayTable bk701) fl_PayTable_2 (u3) (sk161)) ((u3).Down) (Int.toNat m7) bb1508 cc1508 ss1508 (idx_nat y9).2 jH) ((congrArg (fun q => ({ u3 with Down := q } : PayTable)) (set_idx y9)).trans rfl) (((congrArg (fun q => ((Prod.fst sk161), ((Prod.fst (Prod.snd sk161)), ((Sl.at bb1508 cc1508 q), (Prod.snd (Prod.snd (Prod.snd sk161))))))) set_unit).trans (congrArg (fun q => ((Prod.fst sk161), ((Prod.fst (Prod.snd sk161)), (q, (Prod.snd (Prod.snd (Prod.snd sk161))))))) (hq1508).symm)).trans rfl) Tryz.sizeOf3 rfl b701 rfl (RV_int.2 rfl) fun eF oJ hs b1568 => ?_)
        have hfr := hfr.stp hs
        have b1496 := b1496.stp hs rfl
        replace b1568 : OV ow_PayTable 2014 eF oJ 58 (({ u3 with Down := (List.set ((u3).Down) (Int.toNat m7) aB) } : PayTable) : PayTable) bk701 sk161 := b1568
        refine EL_nil (blk_n ?_)
        obtain ⟨rfl, rfl⟩ := pairs2 h
        exact hQ _ _ ⟨eF, hfr, rfl, ⟨_, b1568, ok161⟩, rfl, b1496⟩
       ·refine E_cf vB rfl ?_
        refine E_seq (E_region (EL_p (fPtr p6 3) (P_fieldAddr at_58_3 a9 (OB.ptr o0)) rfl ?_))
        refine EL_do .plain rfl (D_loadF (g := nB) part_PayTable_3.1 Tryz.isAgg3 Tryz.sizeOf3 rfl o0 fun gN pJ => ?_)
        obtain rfl := RV_int.1 pJ
        refine EL_p (fPtr g8 3) (P_fieldAddr at_100_3 rfl (OB.ptr b821)) rfl ?_
        refine EL_do .plain rfl (D_storeFc (g := nB) part_PayEntry_3 Tryz.sizeOf3 rfl b821 rfl (RV_int.2 rfl) fun rF iN hs b1572 rst hos => ?_)
        clear rst hos
        have hfr := hfr.stp hs
        have o0 := o0.stp hs rfl
        have b701 := b701.stp hs rfl
        refine EL_nil (thn_n (E_region (EL_p (fPtr p6 3) (P_fieldAddr at_58_3 a9 (OB.ptr o0)) rfl ?_)))
        refine EL_do .plain rfl (D_loadF (g := rF) part_PayTable_3.1 Tryz.isAgg3 Tryz.sizeOf3 rfl o0 fun jN qJ => ?_)
        obtain rfl := RV_int.1 qJ
        refine EL_mv mC rfl ?_
        refine EL_p (.int .i64 (((x2).toNat : Int))) (P_u16int Tryz.underlying81 Tryz.underlying3 rfl) rfl ?_
        obtain ⟨uD, kH, h⟩ := bsome h
        refine EL_do .plain rfl (D_call (g := rF) (vs := [.int .i64 ((y5).Total), .int .i64 (((x2).toNat : Int)), .int .i64 (1000000000)]) en43 (.cons rfl (.cons rfl (.cons rfl .nil))) (wk43  kH) fun rJ lL kN hs hr => ?_)
        have hfr := hfr.ext hs
        have b701 := b701.ext hs
        have b1572 := b1572.ext hs
        subst hr
        refine EL_p ((.pointer (some ⟨bk701, (0 + 3), none⟩))) (P_fieldAddrH at_58_3 rfl) rfl ?_
        refine EL_do .plain rfl (D_storeOV (g := rJ) (u' := (uD : Int)) (Cxt.fld (Cxt.root ow_PayTable bk701) fl_PayTable_3 (u3) (sk161)) rfl rfl Tryz.sizeOf3 rfl b701 rfl (RV_int.2 rfl) fun sF sJ hs b1579 => ?_)
        have hfr := hfr.stp hs
        have b1572 := b1572.stp hs rfl
        replace b1579 : OV ow_PayTable 2014 sF sJ 58 (({ u3 with Total := uD } : PayTable) : PayTable) bk701 sk161 := b1579
        refine EL_nil (blk_n ?_)
        obtain ⟨rfl, rfl⟩ := pairs2 h
        exact hQ _ _ ⟨sF, hfr, rfl, ⟨_, b1579, ok161⟩, rfl, b1572⟩
    ·clear hx
     obtain ⟨lB, hfr, yB, ⟨pK, i6, iA⟩, xD, l5⟩ := hR
     refine E_seq (E_region (EL_do .plain rfl (D_loadAL (g := lB) Tryz.isAgg58 Tryz.sizeOf58 yB i6 fun vJ al1582 => ?_)))
     obtain ⟨dL, lH, h⟩ := bsome h
     refine EL_do .plain rfl (D_callGF (g := lB) (vs := [vJ]) en35 (.cons rfl .nil) (W35 (iO := 4159) (AL.lent al1582 i6 iA rfl) lH) fun gl1583 mH xJ hxl hr => ?_)
     have hm1583 := OWx.unlend fw_ow_PayTable hxl hr
     obtain ⟨yJ, hge1583⟩ : ∃ g, g = { m := fun b => if b < yD.heap.size then lB.m b else gl1583.m b, o := gl1583.o : Gh } := ⟨_, rfl⟩
     rw [← hge1583] at hm1583
     have hs : Ext lB yD yJ mH := hge1583 ▸ unlend hxl
     clear hxl hr hge1583
     have hfr := hfr.ext hs
     have i6 := i6.ext hs
     have l5 := l5.ext hs
     obtain ⟨sk1583, ow1583, ok1583⟩ := hm1583
     obtain ⟨gp1585, hs, rp1585⟩ := OW.pub ow1583 ok1583
     have hfr := hfr.stp hs
     have i6 := i6.stp hs rfl
     have l5 := l5.stp hs rfl
     obtain ⟨t5, nH, h⟩ := bsome h
     refine EL_do .plain rfl (D_call (g := gp1585) (vs := [xJ]) en41 (.cons rfl .nil) (wk41 rp1585 nH) fun mB lD lN hs hr => ?_)
     have hfr := hfr.ext hs
     have i6 := i6.ext hs
     have l5 := l5.ext hs
     obtain ⟨xK, yK, rfl, rfl, rfl⟩ := hr
     refine EL_mw (.tuple #[.bool (t5.1), .int .i64 (t5.2)]) rfl rfl ?_
     refine EL_p (.bool (t5.1)) (P_extract rfl rfl) rfl ?_
     refine EL_p (.int .i64 (t5.2)) (P_extract rfl rfl) rfl ?_
     refine EL_at (.bool (t5.1)) rfl rfl ?_
     refine EL_at (.int .i64 (t5.2)) rfl rfl ?_
     refine EL_nil (thn_n (E_seq (E_region (EL_do .plain rfl (D_loadAL (g := mB) Tryz.isAgg58 Tryz.sizeOf58 yB i6 fun zJ al1589 => ?_)))))
     obtain ⟨eL, oH, h⟩ := bsome h
     refine EL_do .plain rfl (D_callGF (g := mB) (vs := [zJ]) en35 (.cons rfl .nil) (W35 (iO := 4165) (AL.lent al1589 i6 iA rfl) oH) fun gl1590 pH aK hxl hr => ?_)
     have hm1590 := OWx.unlend fw_ow_PayTable hxl hr
     obtain ⟨bK, hge1590⟩ : ∃ g, g = { m := fun b => if b < lD.heap.size then mB.m b else gl1590.m b, o := gl1590.o : Gh } := ⟨_, rfl⟩
     rw [← hge1590] at hm1590
     have hs : Ext mB lD bK pH := hge1590 ▸ unlend hxl
     clear hxl hr hge1590
     have hfr := hfr.ext hs
     have l5 := l5.ext hs
     obtain ⟨sk1590, ow1590, ok1590⟩ := hm1590
     obtain ⟨gp1592, hs, rp1592⟩ := OW.pub ow1590 ok1590
     have hfr := hfr.stp hs
     have l5 := l5.stp hs rfl
     obtain ⟨y6, qH, h⟩ := bsome h
     refine EL_do .plain rfl (D_call (g := gp1592) (vs := [aK]) en42 (.cons rfl .nil) (wk42 rp1592 qH) fun cK mL mN hs hr => ?_)
     have hfr := hfr.ext hs
     have l5 := l5.ext hs
     obtain ⟨z9, zK, rfl, bA, rfl⟩ := hr
     refine EL_mw (.tuple #[z9, .int .i64 (y6.2)]) rfl rfl ?_
     refine EL_p z9 (P_extract rfl rfl) rfl ?_
     refine EL_p (.int .i64 (y6.2)) (P_extract rfl rfl) rfl ?_
     refine EL_do .plain rfl (D_allocOc (g := cK) 2016 (⟨0, 0, 0, 0⟩ : PayEntry) Tryz.zeroValue100 (fun m w => ⟨_, (rep_two rep_int (rep_two rep_int (rep_two rep_int rep_int))), rfl⟩) fun dK nN oN hs b1595 cb => ?_)
     have hfr := hfr.stp hs
     have l5 := l5.stp hs rfl
     have bA := bA.stp hs
     clear cb
     refine EL_do .plain rfl (D_storeOc (g := dK) (v := z9) Tryz.sizeOf100 rfl b1595 rfl bA fun k9 pN hs b1596 cb => ?_)
     clear cb
     have hfr := hfr.stp hs
     have l5 := l5.stp hs rfl
     refine EL_at (.int .i64 (y6.2)) rfl rfl ?_
     refine EL_nil (thn_n ?_)
     obtain ⟨zB, hx, h⟩ := bsome h
     refine E_join (fun e w => ∃ (g : Gh) , Fr gI wI g w ∧ e 6 = .bool (zB)) (fun Q' hQ => ?_) (fun nL qN hR => ?_)
     ·replace h := hx
      clear hx
      refine E_region (EL_mw (.int .i64 (t5.2)) rfl rfl ?_)
      refine EL_in (.bool ((t5.2 == (0 : Int)))) rfl rfl rfl rfl ?_
      refine EL_mw (.bool ((t5.2 == (0 : Int)))) rfl rfl ?_
      rcases csome h with ⟨n8, h⟩ | ⟨n8, h⟩
      ·refine EL_y (.bool (t5.1)) (P_move rfl) rfl rfl n8 rfl ?_
       refine EL_y (.bool (!t5.1)) (P_not rfl) rfl rfl n8 rfl ?_
       refine EL_p (.bool (!t5.1)) (P_pick (b := (t5.2 == (0 : Int))) rfl (pick_t n8 rfl)) rfl ?_
       refine EL_mw (.bool (!t5.1)) rfl rfl ?_
       rcases csome h with ⟨x8, h⟩ | ⟨x8, h⟩
       ·refine EL_y (.int .i64 (y6.2)) (P_move rfl) rfl rfl x8 rfl ?_
        refine EL_y (.bool ((y6.2 == (0 : Int)))) (P_int rfl rfl rfl) rfl rfl x8 rfl ?_
        refine EL_p (.bool ((y6.2 == (0 : Int)))) (P_pick (b := (!t5.1)) rfl (pick_t x8 rfl)) rfl ?_
        refine EL_mw (.bool ((y6.2 == (0 : Int)))) rfl rfl ?_
        rcases csome h with ⟨k8, h⟩ | ⟨k8, h⟩
        ·refine EL_do (.yes2 rfl rfl k8) rfl (D_loadO (g := k9) Tryz.isAgg100 Tryz.sizeOf100 rfl b1596 fun rN lK => ?_)
         refine EL_do (.yes2 rfl rfl k8) rfl (D_loadO (g := k9) Tryz.isAgg100 Tryz.sizeOf100 xD l5 fun sN mK => ?_)
         refine EL_y (.bool ((decide (y6.1 = l8)))) (P_seq seq_100 rfl eg_100 rfl rfl lK mK) rfl rfl k8 rfl ?_
         refine EL_p (.bool ((decide (y6.1 = l8)))) (P_pick (b := (y6.2 == (0 : Int))) rfl (pick_t k8 rfl)) rfl ?_
         refine EL_mw (.bool ((decide (y6.1 = l8)))) rfl rfl ?_
         rcases csome h with ⟨l9, h⟩ | ⟨l9, h⟩
         ·obtain ⟨vD, sH, h⟩ := bsome h
          refine EL_do (.yes2 rfl rfl l9) rfl (D_call (g := k9) (vs := []) en12 .nil (wk12  sH) fun nK oL tN hs hr => ?_)
          have hfr := hfr.ext hs
          subst hr
          refine EL_p (.bool (vD)) (P_pick (b := (decide (y6.1 = l8))) rfl (pick_t l9 rfl)) rfl ?_
          refine EL_at (.bool (vD)) rfl rfl ?_
          refine EL_nil ?_
          obtain rfl := sinj h
          exact hQ _ _ ⟨nK, hfr, rfl⟩
         ·refine EL_s rfl rfl l9 rfl rfl ?_
          refine EL_p (.bool false) (P_pick (b := (decide (y6.1 = l8))) rfl (pick_f l9 rfl)) rfl ?_
          refine EL_at (.bool false) rfl rfl ?_
          refine EL_nil ?_
          obtain rfl := sinj h
          exact hQ _ _ ⟨k9, hfr, rfl⟩
        ·refine EL_s rfl rfl k8 rfl rfl ?_
         refine EL_s rfl rfl k8 rfl rfl ?_
         refine EL_s rfl rfl k8 rfl rfl ?_
         refine EL_p (.bool false) (P_pick (b := (y6.2 == (0 : Int))) rfl (pick_f k8 rfl)) rfl ?_
         refine EL_dead 3 rfl ?_
         refine EL_at (.bool false) rfl rfl ?_
         refine EL_nil ?_
         obtain rfl := sinj h
         exact hQ _ _ ⟨k9, hfr, rfl⟩
       ·refine EL_s rfl rfl x8 rfl rfl ?_
        refine EL_s rfl rfl x8 rfl rfl ?_
        refine EL_p (.bool false) (P_pick (b := (!t5.1)) rfl (pick_f x8 rfl)) rfl ?_
        refine EL_dead 8 rfl ?_
        refine EL_at (.bool false) rfl rfl ?_
        refine EL_nil ?_
        obtain rfl := sinj h
        exact hQ _ _ ⟨k9, hfr, rfl⟩
      ·refine EL_s rfl rfl n8 rfl rfl ?_
       refine EL_s rfl rfl n8 rfl rfl ?_
       refine EL_p (.bool false) (P_pick (b := (t5.2 == (0 : Int))) rfl (pick_f n8 rfl)) rfl ?_
       refine EL_dead 12 rfl ?_
       refine EL_at (.bool false) rfl rfl ?_
       refine EL_nil ?_
       obtain rfl := sinj h
       exact hQ _ _ ⟨k9, hfr, rfl⟩
     ·clear hx
      obtain ⟨uN, hfr, tF⟩ := hR
      refine E_ret ?_
      obtain rfl := sinj h
      exact end1 rfl rfl (show _ = .bool (zB) from tF) ⟨_, hfr, rfl⟩
  ·refine CT_do [2007] rfl rfl rfl .plain (D_allocOc (g := jO) 2015 (⟨0, 0, 0, 0⟩ : PayEntry) Tryz.zeroValue100 (fun m w => ⟨_, (rep_two rep_int (rep_two rep_int (rep_two rep_int rep_int))), rfl⟩) fun vK eO g8 hs b641 cb => ?_)
   have hfr := hfr.stp hs
   have hlt := hlt.stp hs
   have o0 := o0.stp hs rfl
   have yH := yH.stp hs
   have d9 := d9.stp hs
   clear cb
   refine ⟨hlt.toW, ?_⟩
   refine CT_alt ?_ (CT_alt ?_ CT_stop)
   ·refine CT_do [2007] rfl rfl rfl .plain (D_callG (g := vK) (vs := [vN]) en35 (.cons rfl .nil) (W35 (iO := 4062) yH xL) fun uK cO dO hs hm161 => ?_)
    have hfr := hfr.ext hs
    have hlt := hlt.ext hs
    have o0 := o0.ext hs
    have d9 := d9.ext hs
    have b641 := b641.ext hs
    obtain ⟨sk161, ow161, ok161⟩ := hm161
    refine ⟨hlt.toW, ?_⟩
    refine CT_do [2007] rfl rfl rfl .plain (D_allocOc (g := uK) 2014 (⟨[], [], [], 0⟩ : PayTable) Tryz.zeroValue58 (fun m w => ⟨_, (rep_two rep_nil (rep_two rep_nil (rep_two rep_nil rep_int))), rfl⟩) fun nD uF vF hs b581 cb => ?_)
    have hfr := hfr.stp hs
    have hlt := hlt.stp hs
    have o0 := o0.stp hs rfl
    have d9 := d9.stp hs
    have b641 := b641.stp hs rfl
    have ow161 := ow161.stp hs rfl
    have yL : OSF 2014 61400 0 nD uF 23 58 ([] : List (List Int)) vF := cb.osf (by rfl)
    have zL : OSF 2014 61401 1 nD uF 3 58 ([] : List Int) vF := cb.osf (by rfl)
    have aM : OSF 2014 61402 2 nD uF 3 58 ([] : List Int) vF := cb.osf (by rfl)
    clear cb
    refine ⟨hlt.toW, ?_⟩
    refine CT_do [2007] rfl rfl rfl .plain (D_storeOW (g := nD) Tryz.sizeOf58 rfl b581 rfl ow161 rfl fun gj701 qK xN bk701 hsa hsb hpp b701 => ?_)
    have hfr := hfr.stp hsa
    have hlt := hlt.stp hsa
    have o0 := o0.stp hsa rfl
    have d9 := d9.stp hsa
    have b641 := b641.stp hsa rfl
    have hfr := hfr.stp hsb
    have hlt := hlt.stp hsb
    have o0 := o0.stp hsb rfl
    have d9 := d9.stp hsb
    have b641 := b641.stp hsb rfl
    clear hsa hsb
    subst hpp
    refine ⟨hlt.toW, ?_⟩
    refine CT_nil ?_
    clear hlt
    refine EL_do .plain rfl (D_storeOc (g := qK) (v := vL) Tryz.sizeOf100 rfl b641 rfl d9 fun nB sK hs b821 cb => ?_)
    clear cb
    have hfr := hfr.stp hs
    have o0 := o0.stp hs rfl
    have b701 := b701.stp hs rfl
    refine EL_nil (thn_n ?_)
    obtain ⟨⟨qC, l8⟩, hx, h⟩ := bsome h
    refine E_join (fun e w => ∃ (g : Gh) , Fr gI wI g w ∧ e 14 = (Value.pointer (some ⟨bk701, 0, none⟩)) ∧ OVb ow_PayTable 2014 g w 58 (qC : PayTable) bk701 ∧ e 15 = g8 ∧ OB 2015 g w 100 (l8 : PayEntry) g8) (fun Q' hQ => ?_) (fun jL yD hR => ?_)
    ·replace h := hx
     clear hx
     refine E_seq (E_region (EL_p (fPtr g8 0) (P_fieldAddr at_100_0 rfl (OB.ptr b821)) rfl ?_))
     refine EL_do .plain rfl (D_loadF (g := nB) part_PayEntry_0.1 Tryz.isAgg98 Tryz.sizeOf98 rfl b821 fun bM aI => ?_)
     obtain rfl := RV_int.1 aI
     refine EL_nil (thn_n (E_block ?_))
     refine E_seq (E_region (EL_p (.bool ((((((1 : UInt8) + i7)).toNat : Int) == (1 : Int)))) (P_int rfl rfl rfl) rfl ?_))
     refine EL_p (.bool ((((((1 : UInt8) + i7)).toNat : Int) == (1 : Int)))) (P_assign rfl) rfl ?_
     refine EL_nil (thn_n ?_)
     rcases csome h with ⟨oB, h⟩ | ⟨oB, h⟩
     ·refine E_ct oB rfl ?_
      refine E_seq (L_loadO (x := .tmp 84) part_PayTable_0.1 Tryz.isAgg56 Tryz.sizeOf56 o0 fun zD dB xF => ?_)
      obtain ⟨aL, vC, h⟩ := bsome h
      have rC := PT_idx dB vC
      refine L_load (x := .tmp 87) Tryz.isAgg23 Tryz.sizeOf23 rC fun aE iB yF => ?_
      obtain ⟨tH, aD, h⟩ := bsome h
      have uC := PT_idx iB aD
      refine L_load (x := .tmp 90) Tryz.isAgg3 Tryz.sizeOf3 uC fun cM bI zF => ?_
      obtain rfl := RV_int.1 bI
      refine E_drawC (g := nB) (w := sK) (n := 14) [0, 1, 2, 3, 4, 5, 6, 7, 8, 9, 10, 12] [2007] [0, 1, 2, 3, 4, 5, 6, 7, 8, 9, 10, 11, 12, 13] rfl mixed (by kernel_rfl) fun w_c1210 hs hlt => ?_
      have hfr := hfr.ext hs
      have o0 := o0.ext hs
      have b821 := b821.ext hs
      have b701 := b701.ext hs
      clear hs
      refine CH_pur (c := .int .i64 (x5)) rfl rfl .plain (P_move rfl) ?_
      refine CH_pur (c := .int .i64 (m7)) rfl rfl .plain (P_move rfl) ?_
      refine CH_pur (c := fPtr p6 0) rfl rfl .plain (P_fieldAddr at_58_0 a9 (OB.ptr o0)) ?_
      refine CH_ldO (n := 2007) (c := zD) rfl rfl .plain xF rfl rfl ?_
      have dB := dB.ch hlt.1
      refine CH_pur (c := .int .i64 (x5)) rfl rfl .plain (P_move rfl) ?_
      refine CH_pur (c := ePtr zD x5 1) rfl rfl .plain (P_indexAddr (α := List Int) Tryz.underlying56 Tryz.sizeOf23 rfl dB rfl vC) ?_
      have rC := rC.ch hlt.1
      refine CH_ldP (c := aE) rfl rfl .plain yF rfl ?_
      have iB := iB.ch hlt.1
      refine CH_pur (c := .int .i64 (m7)) rfl rfl .plain (P_move rfl) ?_
      refine CH_pur (c := ePtr aE m7 1) rfl rfl .plain (P_indexAddr (α := Int) Tryz.underlying23 Tryz.sizeOf3 rfl iB rfl aD) ?_
      have uC := uC.ch hlt.1
      refine CH_ldP (c := .int .i64 (tH)) rfl rfl .plain zF rfl ?_
      refine CH_pur (c := fPtr g8 1) rfl rfl .plain (P_fieldAddr at_100_1 rfl (OB.ptr b821)) ?_
      refine CH_do rfl rfl .plain (D_storeFc (g := nB) part_PayEntry_1 Tryz.sizeOf3 rfl b821 rfl (RV_int.2 rfl) fun dI dM hs b1220 rst hos => ?_)
      clear rst hos
      have hfr := hfr.stp hs
      have hlt := hlt.stp hs
      have o0 := o0.stp hs rfl
      have b701 := b701.stp hs rfl
      refine ⟨hlt.toW, ?_⟩
      refine CH_pur (c := fPtr g8 2) rfl rfl .plain (P_fieldAddr at_100_2 rfl (OB.ptr b1220)) ?_
      refine CH_do rfl rfl .plain (D_storeFc (g := dI) part_PayEntry_2 Tryz.sizeOf3 rfl b1220 rfl (RV_int.2 rfl) fun iI eM hs b1222 rst hos => ?_)
      clear rst hos
      have hfr := hfr.stp hs
      have hlt := hlt.stp hs
      have o0 := o0.stp hs rfl
      have b701 := b701.stp hs rfl
      refine ⟨hlt.toW, ?_⟩
      refine CH_nil ?_
      clear hlt
      refine EL_p (fPtr g8 3) (P_fieldAddr at_100_3 rfl (OB.ptr b1222)) rfl ?_
      refine EL_do .plain rfl (D_storeFc (g := iI) part_PayEntry_3 Tryz.sizeOf3 rfl b1222 rfl (RV_int.2 rfl) fun jI iM hs b1224 rst hos => ?_)
      clear rst hos
      have hfr := hfr.stp hs
      have o0 := o0.stp hs rfl
      have b701 := b701.stp hs rfl
      refine EL_nil (thn_n (L_loadH (x := .tmp 95) (Cxt.fld (Cxt.root ow_PayTable bk701) fl_PayTable_0 (u3) (sk161)) rfl rfl (ok161.1) Tryz.isAgg56 b701 fun aG => ?_))
      obtain ⟨cC, x6, h⟩ := bsome h
      obtain ⟨bb1229, cc1229, ss1229, hq1229, m8⟩ := (OV.slice b701 (Cxt.fld (Cxt.root ow_PayTable bk701) fl_PayTable_0 (u3) (sk161)) rfl rfl (ok161.1)).2 x6
      refine L_loadH (x := .tmp 98) (Cxt.idx (Cxt.fld (Cxt.root ow_PayTable bk701) fl_PayTable_0 (u3) (sk161)) ((u3).Rows) (Int.toNat x5) bb1229 cc1229 ss1229 (idx_nat x6).2 m8) ((congrArg (fun q => ({ u3 with Rows := q } : PayTable)) (set_idx x6)).trans rfl) (((congrArg (fun q => ((Sl.at bb1229 cc1229 q), (Prod.snd sk161))) (set_getD (by rw [m8]; exact (idx_nat x6).2))).trans (congrArg (fun q => (q, (Prod.snd sk161))) (hq1229).symm)).trans rfl) (ok_at (ok161.1) hq1229 (by rw [m8]; exact (idx_nat x6).2)) Tryz.isAgg23 b701 fun bG => ?_
      refine L_loadO (x := .tmp 101) part_PayTable_0.1 Tryz.isAgg56 Tryz.sizeOf56 o0 fun bE iE cG => ?_
      obtain ⟨bL, bD, h⟩ := bsome h
      have kI := PT_idx iE bD
      refine L_load (x := .tmp 104) Tryz.isAgg23 Tryz.sizeOf23 kI fun lE mE eG => ?_
      obtain ⟨oD, cD, h⟩ := bsome h
      have lI := PT_idx mE cD
      refine L_load (x := .tmp 107) Tryz.isAgg3 Tryz.sizeOf3 lI fun jM mI gG => ?_
      obtain rfl := RV_int.1 mI
      obtain ⟨rA, hG, h⟩ := bsome h
      obtain ⟨pL, n9, h⟩ := bsome h
      obtain ⟨bb1243, cc1243, ss1243, hq1243, iG⟩ := (OV.slice b701 (Cxt.idx (Cxt.fld (Cxt.root ow_PayTable bk701) fl_PayTable_0 (u3) (sk161)) ((u3).Rows) (Int.toNat x5) bb1229 cc1229 ss1229 (idx_nat x6).2 m8) ((congrArg (fun q => ({ u3 with Rows := q } : PayTable)) (set_idx x6)).trans rfl) (((congrArg (fun q => ((Sl.at bb1229 cc1229 q), (Prod.snd sk161))) (set_getD (by rw [m8]; exact (idx_nat x6).2))).trans (congrArg (fun q => (q, (Prod.snd sk161))) (hq1229).symm)).trans rfl) (ok_at (ok161.1) hq1229 (by rw [m8]; exact (idx_nat x6).2))).2 n9
      refine E_drawL (g := jI) (n := 18) [(16, (fun v g w => v = .int .i64 (rA)))] [0, 1, 2, 3, 4, 5, 6, 7, 8, 9, 10, 11, 12, 13, 14, 15, 16, 17] rfl mixed (by kernel_rfl) (⟨fun _ => up_eq _, trivial⟩) ?_
      refine L_p ((.pointer (some ⟨bk701, (0 + 0), none⟩))) rfl rfl (P_fieldAddrH at_58_0 rfl) ?_
      refine L_ld (c := (hdrV (Prod.fst sk161) ((u3).Rows).length)) rfl rfl .plain (fun _ _ h => ⟨h.ch, fun b hb _ => h.below.block b hb⟩) aG rfl ?_
      refine L_p (.int .i64 (x5)) rfl rfl (P_move rfl) ?_
      refine L_p ((.pointer (some ⟨bb1229, ((Int.toNat x5) * 1), none⟩))) rfl rfl (P_indexH Tryz.underlying56 Tryz.sizeOf23 (rfl.trans (hdr_at hq1229 _)) rfl (idx_nat x6)) ?_
      refine L_ld (c := (hdrV (List.getD ss1229 (Int.toNat x5) ((Ow.list 3 (Ow.sh Int))).df) (cC).length)) rfl rfl .plain (fun _ _ h => ⟨h.ch, fun b hb _ => h.below.block b hb⟩) bG rfl ?_
      refine L_p (.int .i64 (m7)) rfl rfl (P_move rfl) ?_
      refine L_p (fPtr p6 0) rfl rfl (P_fieldAddr at_58_0 a9 (OB.ptr o0)) ?_
      refine L_ld (c := bE) rfl rfl .plain (fun _ _ h => ⟨h.ch, fun b hb _ => h.below.block b hb⟩) cG rfl ?_
      refine L_p (.int .i64 (x5)) rfl rfl (P_move rfl) ?_
      refine L_p (ePtr bE x5 1) rfl rfl (P_indexAddr (α := List Int) Tryz.underlying56 Tryz.sizeOf23 rfl iE rfl bD) ?_
      refine L_ld (c := lE) rfl rfl .plain (fun _ _ h => h.ch) eG rfl ?_
      refine L_p (.int .i64 (m7)) rfl rfl (P_move rfl) ?_
      refine L_p (ePtr lE m7 1) rfl rfl (P_indexAddr (α := Int) Tryz.underlying23 Tryz.sizeOf3 rfl mE rfl cD) ?_
      refine L_ld (c := .int .i64 (oD)) rfl rfl .plain (fun _ _ h => h.ch) gG rfl ?_
      refine L_p (.int .u16 (UInt16.toNat (x2))) rfl rfl (P_move mC) ?_
      refine L_p (.int .i64 (((x2).toNat : Int))) rfl rfl (P_u16int Tryz.underlying81 Tryz.underlying3 rfl) ?_
      refine L_do (φ := fun v g w => v = .int .i64 (rA)) rfl rfl .plain (fun g w hd => D_call (g := g) (vs := [.int .i64 (oD), .int .i64 (((x2).toNat : Int)), .int .i64 (1000000)]) en43 (.cons rfl (.cons rfl (.cons rfl .nil))) (wk43  hG) fun g' w' v hs hr => ⟨g', hs, hr⟩) (fun kM hv => ?_)
      obtain ⟨_, _, _, rfl⟩ := hv
      refine L_p ((.pointer (some ⟨bb1243, ((Int.toNat m7) * 1), none⟩))) rfl rfl (P_indexH Tryz.underlying23 Tryz.sizeOf3 (rfl.trans (hdr_at hq1243 _)) rfl (idx_nat n9)) ?_
      refine L_nl fun nI mM hs => ?_
      have hfr := hfr.ext hs
      have b1224 := b1224.ext hs
      have b701 := b701.ext hs
      clear hs
      refine EL_do .plain rfl (D_storeOV (g := nI) (u' := (rA : Int)) (Cxt.idx (Cxt.idx (Cxt.fld (Cxt.root ow_PayTable bk701) fl_PayTable_0 (u3) (sk161)) ((u3).Rows) (Int.toNat x5) bb1229 cc1229 ss1229 (idx_nat x6).2 m8) (cC) (Int.toNat m7) bb1243 cc1243 ss1243 (idx_nat n9).2 iG) ((congrArg (fun q => ({ u3 with Rows := (List.set ((u3).Rows) (Int.toNat x5) q) } : PayTable)) (set_idx n9)).trans ((congrArg (fun q => ({ u3 with Rows := q } : PayTable)) (set_idx x6)).trans rfl)) (((congrArg (fun q => ((Sl.at bb1229 cc1229 (List.set ss1229 (Int.toNat x5) (Sl.at bb1243 cc1243 q))), (Prod.snd sk161))) set_unit).trans (congrArg (fun q => ((Sl.at bb1229 cc1229 (List.set ss1229 (Int.toNat x5) q)), (Prod.snd sk161))) (hq1243).symm)).trans (((congrArg (fun q => ((Sl.at bb1229 cc1229 q), (Prod.snd sk161))) (set_getD (by rw [m8]; exact (idx_nat x6).2))).trans (congrArg (fun q => (q, (Prod.snd sk161))) (hq1229).symm)).trans rfl)) Tryz.sizeOf3 rfl b701 rfl (RV_int.2 rfl) fun nE pI hs b1310 => ?_)
      have hfr := hfr.stp hs
      have b1224 := b1224.stp hs rfl
      replace b1310 : OV ow_PayTable 2014 nE pI 58 (({ u3 with Rows := (List.set ((u3).Rows) (Int.toNat x5) (List.set cC (Int.toNat m7) rA)) } : PayTable) : PayTable) bk701 sk161 := b1310
      refine EL_nil (blk_n ?_)
      obtain ⟨rfl, rfl⟩ := pairs2 h
      exact hQ _ _ ⟨nE, hfr, rfl, ⟨_, b1310, ok161⟩, rfl, b1224⟩
     ·refine E_cf oB rfl ?_
      refine E_seq (E_region (EL_p (.bool ((((((1 : UInt8) + i7)).toNat : Int) == (2 : Int)))) (P_int rfl rfl rfl) rfl ?_))
      refine EL_p (.bool ((((((1 : UInt8) + i7)).toNat : Int) == (2 : Int)))) (P_assign rfl) rfl ?_
      refine EL_nil (thn_n ?_)
      rcases csome h with ⟨tB, h⟩ | ⟨tB, h⟩
      ·refine E_ct tB rfl ?_
       refine E_seq (L_loadO (x := .tmp 116) part_PayTable_1.1 Tryz.isAgg23 Tryz.sizeOf23 o0 fun oE rE jG => ?_)
       obtain ⟨uH, eD, h⟩ := bsome h
       have qI := PT_idx rE eD
       refine L_load (x := .tmp 119) Tryz.isAgg3 Tryz.sizeOf3 qI fun nM sI kG => ?_
       obtain rfl := RV_int.1 sI
       refine E_drawB (a0 := ((⟨((((1 : UInt8) + i7)).toNat : Int), 0, 0, 0⟩ : PayEntry) : PayEntry)) (a1 := ((⟨((((1 : UInt8) + i7)).toNat : Int), x5, 0, 0⟩ : PayEntry) : PayEntry)) b821 (n := 9) [(7, (fun _ g w => OB 2015 g w 100 ((⟨((((1 : UInt8) + i7)).toNat : Int), x5, 0, 0⟩ : PayEntry) : PayEntry) g8))] [0, 1, 2, 3, 4, 5, 6, 7, 8] rfl mixed (by kernel_rfl) (⟨fun _ => up_box, trivial⟩) ?_
       refine L_p (.int .i64 (x5)) rfl rfl (P_move rfl) ?_
       refine L_p (fPtr p6 1) rfl rfl (P_fieldAddr at_58_1 a9 (OB.ptr o0)) ?_
       refine L_ld (c := oE) rfl rfl .plain (fun _ _ h => ⟨h.1.ch, fun b hb ho => h.1.block b hb (by rw [ho]; decide)⟩) jG rfl ?_
       refine L_p (.int .i64 (x5)) rfl rfl (P_move rfl) ?_
       refine L_p (ePtr oE x5 1) rfl rfl (P_indexAddr (α := Int) Tryz.underlying23 Tryz.sizeOf3 rfl rE rfl eD) ?_
       refine L_ld (c := .int .i64 (uH)) rfl rfl .plain (fun _ _ h => h.1.ch) kG rfl ?_
       refine L_p (fPtr g8 1) rfl rfl (P_fieldAddr at_100_1 rfl (OB.ptr b821)) ?_
       refine L_do (φ := fun _ g w => OB 2015 g w 100 ((⟨((((1 : UInt8) + i7)).toNat : Int), x5, 0, 0⟩ : PayEntry) : PayEntry) g8) rfl rfl .plain (fun g w hd => D_storeR (g := g) (by rfl) (by exact rfl) part_PayEntry_1 Tryz.sizeOf3 rfl hd.1.2 rfl (RV_int.2 rfl)) (fun oM hv => ?_)
       clear hv
       refine L_p (fPtr g8 3) rfl rfl (P_fieldAddr at_100_3 rfl (OB.ptr b821)) ?_
       refine L_nil fun tI pM hall => ?_
       have hs := hall.1.1
       have hfr := hfr.stp hs
       have o0 := o0.stp hs rfl
       have b701 := b701.stp hs rfl
       have b1350 := (word_all (A := fun g w => OB 2015 g w 100 ((⟨((((1 : UInt8) + i7)).toNat : Int), x5, 0, 0⟩ : PayEntry) : PayEntry) g8) 7 rfl hall)
       clear hs hall
       refine EL_do .plain rfl (D_storeFc (g := tI) part_PayEntry_3 Tryz.sizeOf3 rfl b1350 rfl (RV_int.2 rfl) fun uI qM hs b1367 rst hos => ?_)
       clear rst hos
       have hfr := hfr.stp hs
       have o0 := o0.stp hs rfl
       have b701 := b701.stp hs rfl
       refine EL_nil (thn_n (L_loadH (x := .tmp 123) (Cxt.fld (Cxt.root ow_PayTable bk701) fl_PayTable_1 (u3) (sk161)) rfl rfl ((ok161.2).1) Tryz.isAgg23 b701 fun lG => ?_))
       refine L_loadO (x := .tmp 126) part_PayTable_1.1 Tryz.isAgg23 Tryz.sizeOf23 o0 fun uE vE mG => ?_
       obtain ⟨sD, gD, h⟩ := bsome h
       have vI := PT_idx vE gD
       refine L_load (x := .tmp 129) Tryz.isAgg3 Tryz.sizeOf3 vI fun rM yI sG => ?_
       obtain rfl := RV_int.1 yI
       obtain ⟨yA, xG, h⟩ := bsome h
       obtain ⟨qL, u9, h⟩ := bsome h
       obtain ⟨bb1379, cc1379, ss1379, hq1379, yG⟩ := (OV.slice b701 (Cxt.fld (Cxt.root ow_PayTable bk701) fl_PayTable_1 (u3) (sk161)) rfl rfl ((ok161.2).1)).2 u9
       refine E_drawL (g := uI) (n := 12) [(10, (fun v g w => v = .int .i64 (yA)))] [0, 1, 2, 3, 4, 5, 6, 7, 8, 9, 10, 11] rfl mixed (by kernel_rfl) (⟨fun _ => up_eq _, trivial⟩) ?_
       refine L_p ((.pointer (some ⟨bk701, (0 + 1), none⟩))) rfl rfl (P_fieldAddrH at_58_1 rfl) ?_
       refine L_ld (c := (hdrV (Prod.fst (Prod.snd sk161)) ((u3).Across).length)) rfl rfl .plain (fun _ _ h => ⟨h.ch, fun b hb _ => h.below.block b hb⟩) lG rfl ?_
       refine L_p (.int .i64 (x5)) rfl rfl (P_move rfl) ?_
       refine L_p (fPtr p6 1) rfl rfl (P_fieldAddr at_58_1 a9 (OB.ptr o0)) ?_
       refine L_ld (c := uE) rfl rfl .plain (fun _ _ h => ⟨h.ch, fun b hb _ => h.below.block b hb⟩) mG rfl ?_
       refine L_p (.int .i64 (x5)) rfl rfl (P_move rfl) ?_
       refine L_p (ePtr uE x5 1) rfl rfl (P_indexAddr (α := Int) Tryz.underlying23 Tryz.sizeOf3 rfl vE rfl gD) ?_
       refine L_ld (c := .int .i64 (sD)) rfl rfl .plain (fun _ _ h => h.ch) sG rfl ?_
       refine L_p (.int .u16 (UInt16.toNat (x2))) rfl rfl (P_move mC) ?_
       refine L_p (.int .i64 (((x2).toNat : Int))) rfl rfl (P_u16int Tryz.underlying81 Tryz.underlying3 rfl) ?_
       refine L_do (φ := fun v g w => v = .int .i64 (yA)) rfl rfl .plain (fun g w hd => D_call (g := g) (vs := [.int .i64 (sD), .int .i64 (((x2).toNat : Int)), .int .i64 (1000000000)]) en43 (.cons rfl (.cons rfl (.cons rfl .nil))) (wk43  xG) fun g' w' v hs hr => ⟨g', hs, hr⟩) (fun sM hv => ?_)
       obtain ⟨_, _, _, rfl⟩ := hv
       refine L_p ((.pointer (some ⟨bb1379, ((Int.toNat x5) * 1), none⟩))) rfl rfl (P_indexH Tryz.underlying23 Tryz.sizeOf3 (rfl.trans (hdr_at hq1379 _)) rfl (idx_nat u9)) ?_
       refine L_nl fun zI tM hs => ?_
       have hfr := hfr.ext hs
       have b1367 := b1367.ext hs
       have b701 := b701.ext hs
       clear hs
       refine EL_do .plain rfl (D_storeOV (g := zI) (u' := (yA : Int)) (Cxt.idx (Cxt.fld (Cxt.root ow_PayTable bk701) fl_PayTable_1 (u3) (sk161)) ((u3).Across) (Int.toNat x5) bb1379 cc1379 ss1379 (idx_nat u9).2 yG) ((congrArg (fun q => ({ u3 with Across := q } : PayTable)) (set_idx u9)).trans rfl) (((congrArg (fun q => ((Prod.fst sk161), ((Sl.at bb1379 cc1379 q), (Prod.snd (Prod.snd sk161))))) set_unit).trans (congrArg (fun q => ((Prod.fst sk161), (q, (Prod.snd (Prod.snd sk161))))) (hq1379).symm)).trans rfl) Tryz.sizeOf3 rfl b701 rfl (RV_int.2 rfl) fun xE eJ hs b1437 => ?_)
       have hfr := hfr.stp hs
       have b1367 := b1367.stp hs rfl
       replace b1437 : OV ow_PayTable 2014 xE eJ 58 (({ u3 with Across := (List.set ((u3).Across) (Int.toNat x5) yA) } : PayTable) : PayTable) bk701 sk161 := b1437
       refine EL_nil (blk_n ?_)
       obtain ⟨rfl, rfl⟩ := pairs2 h
       exact hQ _ _ ⟨xE, hfr, rfl, ⟨_, b1437, ok161⟩, rfl, b1367⟩
      ·refine E_cf tB rfl ?_
       refine E_seq (E_region (EL_p (.bool ((((((1 : UInt8) + i7)).toNat : Int) == (3 : Int)))) (P_int rfl rfl rfl) rfl ?_))
       refine EL_p (.bool ((((((1 : UInt8) + i7)).toNat : Int) == (3 : Int)))) (P_assign rfl) rfl ?_
       refine EL_nil (thn_n ?_)
       rcases csome h with ⟨vB, h⟩ | ⟨vB, h⟩
       ·refine E_ct vB rfl ?_
        refine E_seq (L_loadO (x := .tmp 138) part_PayTable_2.1 Tryz.isAgg23 Tryz.sizeOf23 o0 fun yE zE zG => ?_)
        obtain ⟨xH, iD, h⟩ := bsome h
        have gJ := PT_idx zE iD
        refine L_load (x := .tmp 141) Tryz.isAgg3 Tryz.sizeOf3 gJ fun uM iJ aH => ?_
        obtain rfl := RV_int.1 iJ
        refine E_drawB (a0 := ((⟨((((1 : UInt8) + i7)).toNat : Int), 0, 0, 0⟩ : PayEntry) : PayEntry)) (a1 := ((⟨((((1 : UInt8) + i7)).toNat : Int), 0, m7, 0⟩ : PayEntry) : PayEntry)) b821 (n := 9) [(7, (fun _ g w => OB 2015 g w 100 ((⟨((((1 : UInt8) + i7)).toNat : Int), 0, m7, 0⟩ : PayEntry) : PayEntry) g8))] [0, 1, 2, 3, 4, 5, 6, 7, 8] rfl mixed (by kernel_rfl) (⟨fun _ => up_box, trivial⟩) ?_
        refine L_p (.int .i64 (m7)) rfl rfl (P_move rfl) ?_
        refine L_p (fPtr p6 2) rfl rfl (P_fieldAddr at_58_2 a9 (OB.ptr o0)) ?_
        refine L_ld (c := yE) rfl rfl .plain (fun _ _ h => ⟨h.1.ch, fun b hb ho => h.1.block b hb (by rw [ho]; decide)⟩) zG rfl ?_
        refine L_p (.int .i64 (m7)) rfl rfl (P_move rfl) ?_
        refine L_p (ePtr yE m7 1) rfl rfl (P_indexAddr (α := Int) Tryz.underlying23 Tryz.sizeOf3 rfl zE rfl iD) ?_
        refine L_ld (c := .int .i64 (xH)) rfl rfl .plain (fun _ _ h => h.1.ch) aH rfl ?_
        refine L_p (fPtr g8 2) rfl rfl (P_fieldAddr at_100_2 rfl (OB.ptr b821)) ?_
        refine L_do (φ := fun _ g w => OB 2015 g w 100 ((⟨((((1 : UInt8) + i7)).toNat : Int), 0, m7, 0⟩ : PayEntry) : PayEntry) g8) rfl rfl .plain (fun g w hd => D_storeR (g := g) (by rfl) (by exact rfl) part_PayEntry_2 Tryz.sizeOf3 rfl hd.1.2 rfl (RV_int.2 rfl)) (fun vM hv => ?_)
        clear hv
        refine L_p (fPtr g8 3) rfl rfl (P_fieldAddr at_100_3 rfl (OB.ptr b821)) ?_
        refine L_nil fun jJ xM hall => ?_
        have hs := hall.1.1
        have hfr := hfr.stp hs
        have o0 := o0.stp hs rfl
        have b701 := b701.stp hs rfl
        have b1477 := (word_all (A := fun g w => OB 2015 g w 100 ((⟨((((1 : UInt8) + i7)).toNat : Int), 0, m7, 0⟩ : PayEntry) : PayEntry) g8) 7 rfl hall)
        clear hs hall
        refine EL_do .plain rfl (D_storeFc (g := jJ) part_PayEntry_3 Tryz.sizeOf3 rfl b1477 rfl (RV_int.2 rfl) fun kJ bN hs b1496 rst hos => ?_)
        clear rst hos
        have hfr := hfr.stp hs
        have o0 := o0.stp hs rfl
        have b701 := b701.stp hs rfl
        refine EL_nil (thn_n (L_loadH (x := .tmp 145) (Cxt.fld (Cxt.root ow_PayTable bk701) fl_PayTable_2 (u3) (sk161)) rfl rfl (((ok161.2).2).1) Tryz.isAgg23 b701 fun cH => ?_))
        refine L_loadO (x := .tmp 148) part_PayTable_2.1 Tryz.isAgg23 Tryz.sizeOf23 o0 fun cF dF dH => ?_
        obtain ⟨tD, jD, h⟩ := bsome h
        have lJ := PT_idx dF jD
        refine L_load (x := .tmp 151) Tryz.isAgg3 Tryz.sizeOf3 lJ fun cN mJ gH => ?_
        obtain rfl := RV_int.1 mJ
        obtain ⟨aB, iH, h⟩ := bsome h
        obtain ⟨rL, y9, h⟩ := bsome h
        obtain ⟨bb1508, cc1508, ss1508, hq1508, jH⟩ := (OV.slice b701 (Cxt.fld (Cxt.root ow_PayTable bk701) fl_PayTable_2 (u3) (sk161)) rfl rfl (((ok161.2).2).1)).2 y9
        refine E_drawL (g := kJ) (n := 12) [(10, (fun v g w => v = .int .i64 (aB)))] [0, 1, 2, 3, 4, 5, 6, 7, 8, 9, 10, 11] rfl mixed (by kernel_rfl) (⟨fun _ => up_eq _, trivial⟩) ?_
        refine L_p ((.pointer (some ⟨bk701, (0 + 2), none⟩))) rfl rfl (P_fieldAddrH at_58_2 rfl) ?_
        refine L_ld (c := (hdrV (Prod.fst (Prod.snd (Prod.snd sk161))) ((u3).Down).length)) rfl rfl .plain (fun _ _ h => ⟨h.ch, fun b hb _ => h.below.block b hb⟩) cH rfl ?_
        refine L_p (.int .i64 (m7)) rfl rfl (P_move rfl) ?_
        refine L_p (fPtr p6 2) rfl rfl (P_fieldAddr at_58_2 a9 (OB.ptr o0)) ?_
        refine L_ld (c := cF) rfl rfl .plain (fun _ _ h => ⟨h.ch, fun b hb _ => h.below.block b hb⟩) dH rfl ?_
        refine L_p (.int .i64 (m7)) rfl rfl (P_move rfl) ?_
        refine L_p (ePtr cF m7 1) rfl rfl (P_indexAddr (α := Int) Tryz.underlying23 Tryz.sizeOf3 rfl dF rfl jD) ?_
        refine L_ld (c := .int .i64 (tD)) rfl rfl .plain (fun _ _ h => h.ch) gH rfl ?_
        refine L_p (.int .u16 (UInt16.toNat (x2))) rfl rfl (P_move mC) ?_
        refine L_p (.int .i64 (((x2).toNat : Int))) rfl rfl (P_u16int Tryz.underlying81 Tryz.underlying3 rfl) ?_
        refine L_do (φ := fun v g w => v = .int .i64 (aB)) rfl rfl .plain (fun g w hd => D_call (g := g) (vs := [.int .i64 (tD), .int .i64 (((x2).toNat : Int)), .int .i64 (1000000000)]) en43 (.cons rfl (.cons rfl (.cons rfl .nil))) (wk43  iH) fun g' w' v hs hr => ⟨g', hs, hr⟩) (fun dN hv => ?_)
        obtain ⟨_, _, _, rfl⟩ := hv
        refine L_p ((.pointer (some ⟨bb1508, ((Int.toNat m7) * 1), none⟩))) rfl rfl (P_indexH Tryz.underlying23 Tryz.sizeOf3 (rfl.trans (hdr_at hq1508 _)) rfl (idx_nat y9)) ?_
        refine L_nl fun nJ eN hs => ?_
        have hfr := hfr.ext hs
        have b1496 := b1496.ext hs
        have b701 := b701.ext hs
        clear hs
        refine EL_do .plain rfl (D_storeOV (g := nJ) (u' := (aB : Int)) (Cxt.idx (Cxt.fld (Cxt.root ow_PayTable bk701) fl_PayTable_2 (u3) (sk161)) ((u3).Down) (Int.toNat m7) bb1508 cc1508 ss1508 (idx_nat y9).2 jH) ((congrArg (fun q => ({ u3 with Down := q } : PayTable)) (set_idx y9)).trans rfl) (((congrArg (fun q => ((Prod.fst sk161), ((Prod.fst (Prod.snd sk161)), ((Sl.at bb1508 cc1508 q), (Prod.snd (Prod.snd (Prod.snd sk161))))))) set_unit).trans (congrArg (fun q => ((Prod.fst sk161), ((Prod.fst (Prod.snd sk161)), (q, (Prod.snd (Prod.snd (Prod.snd sk161))))))) (hq1508).symm)).trans rfl) Tryz.sizeOf3 rfl b701 rfl (RV_int.2 rfl) fun eF oJ hs b1568 => ?_)
        have hfr := hfr.stp hs
        have b1496 := b1496.stp hs rfl
        replace b1568 : OV ow_PayTable 2014 eF oJ 58 (({ u3 with Down := (List.set ((u3).Down) (Int.toNat m7) aB) } : PayTable) : PayTable) bk701 sk161 := b1568
        refine EL_nil (blk_n ?_)
        obtain ⟨rfl, rfl⟩ := pairs2 h
        exact hQ _ _ ⟨eF, hfr, rfl, ⟨_, b1568, ok161⟩, rfl, b1496⟩
       ·refine E_cf vB rfl ?_
        refine E_seq (E_region (EL_p (fPtr p6 3) (P_fieldAddr at_58_3 a9 (OB.ptr o0)) rfl ?_))
        refine EL_do .plain rfl (D_loadF (g := nB) part_PayTable_3.1 Tryz.isAgg3 Tryz.sizeOf3 rfl o0 fun gN pJ => ?_)
        obtain rfl := RV_int.1 pJ
        refine EL_p (fPtr g8 3) (P_fieldAddr at_100_3 rfl (OB.ptr b821)) rfl ?_
        refine EL_do .plain rfl (D_storeFc (g := nB) part_PayEntry_3 Tryz.sizeOf3 rfl b821 rfl (RV_int.2 rfl) fun rF iN hs b1572 rst hos => ?_)
        clear rst hos
        have hfr := hfr.stp hs
        have o0 := o0.stp hs rfl
        have b701 := b701.stp hs rfl
        refine EL_nil (thn_n (E_region (EL_p (fPtr p6 3) (P_fieldAddr at_58_3 a9 (OB.ptr o0)) rfl ?_)))
        refine EL_do .plain rfl (D_loadF (g := rF) part_PayTable_3.1 Tryz.isAgg3 Tryz.sizeOf3 rfl o0 fun jN qJ => ?_)
        obtain rfl := RV_int.1 qJ
        refine EL_mv mC rfl ?_
        refine EL_p (.int .i64 (((x2).toNat : Int))) (P_u16int Tryz.underlying81 Tryz.underlying3 rfl) rfl ?_
        obtain ⟨uD, kH, h⟩ := bsome h
        refine EL_do .plain rfl (D_call (g := rF) (vs := [.int .i64 ((y5).Total), .int .i64 (((x2).toNat : Int)), .int .i64 (1000000000)]) en43 (.cons rfl (.cons rfl (.cons rfl .nil))) (wk43  kH) fun rJ lL kN hs hr => ?_)
        have hfr := hfr.ext hs
        have b1572 := b1572.ext hs
        have b701 := b701.ext hs
        subst hr
        refine EL_p ((.pointer (some ⟨bk701, (0 + 3), none⟩))) (P_fieldAddrH at_58_3 rfl) rfl ?_
        refine EL_do .plain rfl (D_storeOV (g := rJ) (u' := (uD : Int)) (Cxt.fld (Cxt.root ow_PayTable bk701) fl_PayTable_3 (u3) (sk161)) rfl rfl Tryz.sizeOf3 rfl b701 rfl (RV_int.2 rfl) fun sF sJ hs b1579 => ?_)
        have hfr := hfr.stp hs
        have b1572 := b1572.stp hs rfl
        replace b1579 : OV ow_PayTable 2014 sF sJ 58 (({ u3 with Total := uD } : PayTable) : PayTable) bk701 sk161 := b1579
        refine EL_nil (blk_n ?_)
        obtain ⟨rfl, rfl⟩ := pairs2 h
        exact hQ _ _ ⟨sF, hfr, rfl, ⟨_, b1579, ok161⟩, rfl, b1572⟩
    ·clear hx
     obtain ⟨lB, hfr, yB, ⟨pK, i6, iA⟩, xD, l5⟩ := hR
     refine E_seq (E_region (EL_do .plain rfl (D_loadAL (g := lB) Tryz.isAgg58 Tryz.sizeOf58 yB i6 fun vJ al1582 => ?_)))
     obtain ⟨dL, lH, h⟩ := bsome h
     refine EL_do .plain rfl (D_callGF (g := lB) (vs := [vJ]) en35 (.cons rfl .nil) (W35 (iO := 4159) (AL.lent al1582 i6 iA rfl) lH) fun gl1583 mH xJ hxl hr => ?_)
     have hm1583 := OWx.unlend fw_ow_PayTable hxl hr
     obtain ⟨yJ, hge1583⟩ : ∃ g, g = { m := fun b => if b < yD.heap.size then lB.m b else gl1583.m b, o := gl1583.o : Gh } := ⟨_, rfl⟩
     rw [← hge1583] at hm1583
     have hs : Ext lB yD yJ mH := hge1583 ▸ unlend hxl
     clear hxl hr hge1583
     have hfr := hfr.ext hs
     have i6 := i6.ext hs
     have l5 := l5.ext hs
     obtain ⟨sk1583, ow1583, ok1583⟩ := hm1583
     obtain ⟨gp1585, hs, rp1585⟩ := OW.pub ow1583 ok1583
     have hfr := hfr.stp hs
     have i6 := i6.stp hs rfl
     have l5 := l5.stp hs rfl
     obtain ⟨t5, nH, h⟩ := bsome h
     refine EL_do .plain rfl (D_call (g := gp1585) (vs := [xJ]) en41 (.cons rfl .nil) (wk41 rp1585 nH) fun mB lD lN hs hr => ?_)
     have hfr := hfr.ext hs
     have i6 := i6.ext hs
     have l5 := l5.ext hs
     obtain ⟨xK, yK, rfl, rfl, rfl⟩ := hr
     refine EL_mw (.tuple #[.bool (t5.1), .int .i64 (t5.2)]) rfl rfl ?_
     refine EL_p (.bool (t5.1)) (P_extract rfl rfl) rfl ?_
     refine EL_p (.int .i64 (t5.2)) (P_extract rfl rfl) rfl ?_
     refine EL_at (.bool (t5.1)) rfl rfl ?_
     refine EL_at (.int .i64 (t5.2)) rfl rfl ?_
     refine EL_nil (thn_n (E_seq (E_region (EL_do .plain rfl (D_loadAL (g := mB) Tryz.isAgg58 Tryz.sizeOf58 yB i6 fun zJ al1589 => ?_)))))
     obtain ⟨eL, oH, h⟩ := bsome h
     refine EL_do .plain rfl (D_callGF (g := mB) (vs := [zJ]) en35 (.cons rfl .nil) (W35 (iO := 4165) (AL.lent al1589 i6 iA rfl) oH) fun gl1590 pH aK hxl hr => ?_)
     have hm1590 := OWx.unlend fw_ow_PayTable hxl hr
     obtain ⟨bK, hge1590⟩ : ∃ g, g = { m := fun b => if b < lD.heap.size then mB.m b else gl1590.m b, o := gl1590.o : Gh } := ⟨_, rfl⟩
     rw [← hge1590] at hm1590
     have hs : Ext mB lD bK pH := hge1590 ▸ unlend hxl
     clear hxl hr hge1590
     have hfr := hfr.ext hs
     have l5 := l5.ext hs
     obtain ⟨sk1590, ow1590, ok1590⟩ := hm1590
     obtain ⟨gp1592, hs, rp1592⟩ := OW.pub ow1590 ok1590
     have hfr := hfr.stp hs
     have l5 := l5.stp hs rfl
     obtain ⟨y6, qH, h⟩ := bsome h
     refine EL_do .plain rfl (D_call (g := gp1592) (vs := [aK]) en42 (.cons rfl .nil) (wk42 rp1592 qH) fun cK mL mN hs hr => ?_)
     have hfr := hfr.ext hs
     have l5 := l5.ext hs
     obtain ⟨z9, zK, rfl, bA, rfl⟩ := hr
     refine EL_mw (.tuple #[z9, .int .i64 (y6.2)]) rfl rfl ?_
     refine EL_p z9 (P_extract rfl rfl) rfl ?_
     refine EL_p (.int .i64 (y6.2)) (P_extract rfl rfl) rfl ?_
     refine EL_do .plain rfl (D_allocOc (g := cK) 2016 (⟨0, 0, 0, 0⟩ : PayEntry) Tryz.zeroValue100 (fun m w => ⟨_, (rep_two rep_int (rep_two rep_int (rep_two rep_int rep_int))), rfl⟩) fun dK nN oN hs b1595 cb => ?_)
     have hfr := hfr.stp hs
     have l5 := l5.stp hs rfl
     have bA := bA.stp hs
     clear cb
     refine EL_do .plain rfl (D_storeOc (g := dK) (v := z9) Tryz.sizeOf100 rfl b1595 rfl bA fun k9 pN hs b1596 cb => ?_)
     clear cb
     have hfr := hfr.stp hs
     have l5 := l5.stp hs rfl
     refine EL_at (.int .i64 (y6.2)) rfl rfl ?_
     refine EL_nil (thn_n ?_)
     obtain ⟨zB, hx, h⟩ := bsome h
     refine E_join (fun e w => ∃ (g : Gh) , Fr gI wI g w ∧ e 6 = .bool (zB)) (fun Q' hQ => ?_) (fun nL qN hR => ?_)
     ·replace h := hx
      clear hx
      refine E_region (EL_mw (.int .i64 (t5.2)) rfl rfl ?_)
      refine EL_in (.bool ((t5.2 == (0 : Int)))) rfl rfl rfl rfl ?_
      refine EL_mw (.bool ((t5.2 == (0 : Int)))) rfl rfl ?_
      rcases csome h with ⟨n8, h⟩ | ⟨n8, h⟩
      ·refine EL_y (.bool (t5.1)) (P_move rfl) rfl rfl n8 rfl ?_
       refine EL_y (.bool (!t5.1)) (P_not rfl) rfl rfl n8 rfl ?_
       refine EL_p (.bool (!t5.1)) (P_pick (b := (t5.2 == (0 : Int))) rfl (pick_t n8 rfl)) rfl ?_
       refine EL_mw (.bool (!t5.1)) rfl rfl ?_
       rcases csome h with ⟨x8, h⟩ | ⟨x8, h⟩
       ·refine EL_y (.int .i64 (y6.2)) (P_move rfl) rfl rfl x8 rfl ?_
        refine EL_y (.bool ((y6.2 == (0 : Int)))) (P_int rfl rfl rfl) rfl rfl x8 rfl ?_
        refine EL_p (.bool ((y6.2 == (0 : Int)))) (P_pick (b := (!t5.1)) rfl (pick_t x8 rfl)) rfl ?_
        refine EL_mw (.bool ((y6.2 == (0 : Int)))) rfl rfl ?_
        rcases csome h with ⟨k8, h⟩ | ⟨k8, h⟩
        ·refine EL_do (.yes2 rfl rfl k8) rfl (D_loadO (g := k9) Tryz.isAgg100 Tryz.sizeOf100 rfl b1596 fun rN lK => ?_)
         refine EL_do (.yes2 rfl rfl k8) rfl (D_loadO (g := k9) Tryz.isAgg100 Tryz.sizeOf100 xD l5 fun sN mK => ?_)
         refine EL_y (.bool ((decide (y6.1 = l8)))) (P_seq seq_100 rfl eg_100 rfl rfl lK mK) rfl rfl k8 rfl ?_
         refine EL_p (.bool ((decide (y6.1 = l8)))) (P_pick (b := (y6.2 == (0 : Int))) rfl (pick_t k8 rfl)) rfl ?_
         refine EL_mw (.bool ((decide (y6.1 = l8)))) rfl rfl ?_
         rcases csome h with ⟨l9, h⟩ | ⟨l9, h⟩
         ·obtain ⟨vD, sH, h⟩ := bsome h
          refine EL_do (.yes2 rfl rfl l9) rfl (D_call (g := k9) (vs := []) en12 .nil (wk12  sH) fun nK oL tN hs hr => ?_)
          have hfr := hfr.ext hs
          subst hr
          refine EL_p (.bool (vD)) (P_pick (b := (decide (y6.1 = l8))) rfl (pick_t l9 rfl)) rfl ?_
          refine EL_at (.bool (vD)) rfl rfl ?_
          refine EL_nil ?_
          obtain rfl := sinj h
          exact hQ _ _ ⟨nK, hfr, rfl⟩
         ·refine EL_s rfl rfl l9 rfl rfl ?_
          refine EL_p (.bool false) (P_pick (b := (decide (y6.1 = l8))) rfl (pick_f l9 rfl)) rfl ?_
          refine EL_at (.bool false) rfl rfl ?_
          refine EL_nil ?_
          obtain rfl := sinj h
          exact hQ _ _ ⟨k9, hfr, rfl⟩
        ·refine EL_s rfl rfl k8 rfl rfl ?_
         refine EL_s rfl rfl k8 rfl rfl ?_
         refine EL_s rfl rfl k8 rfl rfl ?_
         refine EL_p (.bool false) (P_pick (b := (y6.2 == (0 : Int))) rfl (pick_f k8 rfl)) rfl ?_
         refine EL_dead 3 rfl ?_
         refine EL_at (.bool false) rfl rfl ?_
         refine EL_nil ?_
         obtain rfl := sinj h
         exact hQ _ _ ⟨k9, hfr, rfl⟩
       ·refine EL_s rfl rfl x8 rfl rfl ?_
        refine EL_s rfl rfl x8 rfl rfl ?_
        refine EL_p (.bool false) (P_pick (b := (!t5.1)) rfl (pick_f x8 rfl)) rfl ?_
        refine EL_dead 8 rfl ?_
        refine EL_at (.bool false) rfl rfl ?_
        refine EL_nil ?_
        obtain rfl := sinj h
        exact hQ _ _ ⟨k9, hfr, rfl⟩
      ·refine EL_s rfl rfl n8 rfl rfl ?_
       refine EL_s rfl rfl n8 rfl rfl ?_
       refine EL_p (.bool false) (P_pick (b := (t5.2 == (0 : Int))) rfl (pick_f n8 rfl)) rfl ?_
       refine EL_dead 12 rfl ?_
       refine EL_at (.bool false) rfl rfl ?_
       refine EL_nil ?_
       obtain rfl := sinj h
       exact hQ _ _ ⟨k9, hfr, rfl⟩
     ·clear hx
      obtain ⟨uN, hfr, tF⟩ := hR
      refine E_ret ?_
      obtain rfl := sinj h
      exact end1 rfl rfl (show _ = .bool (zB) from tF) ⟨_, hfr, rfl⟩
   ·refine CT_do [2007] rfl rfl rfl .plain (D_allocOc (g := vK) 2014 (⟨[], [], [], 0⟩ : PayTable) Tryz.zeroValue58 (fun m w => ⟨_, (rep_two rep_nil (rep_two rep_nil (rep_two rep_nil rep_int))), rfl⟩) fun nD uF vF hs b581 cb => ?_)
    have hfr := hfr.stp hs
    have hlt := hlt.stp hs
    have o0 := o0.stp hs rfl
    have yH := yH.stp hs
    have d9 := d9.stp hs
    have b641 := b641.stp hs rfl
    have yL : OSF 2014 61400 0 nD uF 23 58 ([] : List (List Int)) vF := cb.osf (by rfl)
    have zL : OSF 2014 61401 1 nD uF 3 58 ([] : List Int) vF := cb.osf (by rfl)
    have aM : OSF 2014 61402 2 nD uF 3 58 ([] : List Int) vF := cb.osf (by rfl)
    clear cb
    refine ⟨hlt.toW, ?_⟩
    refine CT_do [2007] rfl rfl rfl .plain (D_callG (g := nD) (vs := [vN]) en35 (.cons rfl .nil) (W35 (iO := 4062) yH xL) fun uK cO dO hs hm161 => ?_)
    have hfr := hfr.ext hs
    have hlt := hlt.ext hs
    have o0 := o0.ext hs
    have d9 := d9.ext hs
    have b641 := b641.ext hs
    have b581 := b581.ext hs
    obtain ⟨sk161, ow161, ok161⟩ := hm161
    refine ⟨hlt.toW, ?_⟩
    refine CT_do [2007] rfl rfl rfl .plain (D_storeOW (g := uK) Tryz.sizeOf58 rfl b581 rfl ow161 rfl fun gj701 qK xN bk701 hsa hsb hpp b701 => ?_)
    have hfr := hfr.stp hsa
    have hlt := hlt.stp hsa
    have o0 := o0.stp hsa rfl
    have d9 := d9.stp hsa
    have b641 := b641.stp hsa rfl
    have hfr := hfr.stp hsb
    have hlt := hlt.stp hsb
    have o0 := o0.stp hsb rfl
    have d9 := d9.stp hsb
    have b641 := b641.stp hsb rfl
    clear hsa hsb
    subst hpp
    refine ⟨hlt.toW, ?_⟩
    refine CT_nil ?_
    clear hlt
    refine EL_do .plain rfl (D_storeOc (g := qK) (v := vL) Tryz.sizeOf100 rfl b641 rfl d9 fun nB sK hs b821 cb => ?_)
    clear cb
    have hfr := hfr.stp hs
    have o0 := o0.stp hs rfl
    have b701 := b701.stp hs rfl
    refine EL_nil (thn_n ?_)
    obtain ⟨⟨qC, l8⟩, hx, h⟩ := bsome h
    refine E_join (fun e w => ∃ (g : Gh) , Fr gI wI g w ∧ e 14 = (Value.pointer (some ⟨bk701, 0, none⟩)) ∧ OVb ow_PayTable 2014 g w 58 (qC : PayTable) bk701 ∧ e 15 = g8 ∧ OB 2015 g w 100 (l8 : PayEntry) g8) (fun Q' hQ => ?_) (fun jL yD hR => ?_)
    ·replace h := hx
     clear hx
     refine E_seq (E_region (EL_p (fPtr g8 0) (P_fieldAddr at_100_0 rfl (OB.ptr b821)) rfl ?_))
     refine EL_do .plain rfl (D_loadF (g := nB) part_PayEntry_0.1 Tryz.isAgg98 Tryz.sizeOf98 rfl b821 fun bM aI => ?_)
     obtain rfl := RV_int.1 aI
     refine EL_nil (thn_n (E_block ?_))
     refine E_seq (E_region (EL_p (.bool ((((((1 : UInt8) + i7)).toNat : Int) == (1 : Int)))) (P_int rfl rfl rfl) rfl ?_))
     refine EL_p (.bool ((((((1 : UInt8) + i7)).toNat : Int) == (1 : Int)))) (P_assign rfl) rfl ?_
     refine EL_nil (thn_n ?_)
     rcases csome h with ⟨oB, h⟩ | ⟨oB, h⟩
     ·refine E_ct oB rfl ?_
      refine E_seq (L_loadO (x := .tmp 84) part_PayTable_0.1 Tryz.isAgg56 Tryz.sizeOf56 o0 fun zD dB xF => ?_)
      obtain ⟨aL, vC, h⟩ := bsome h
      have rC := PT_idx dB vC
      refine L_load (x := .tmp 87) Tryz.isAgg23 Tryz.sizeOf23 rC fun aE iB yF => ?_
      obtain ⟨tH, aD, h⟩ := bsome h
      have uC := PT_idx iB aD
      refine L_load (x := .tmp 90) Tryz.isAgg3 Tryz.sizeOf3 uC fun cM bI zF => ?_
      obtain rfl := RV_int.1 bI
      refine E_drawC (g := nB) (w := sK) (n := 14) [0, 1, 2, 3, 4, 5, 6, 7, 8, 9, 10, 12] [2007] [0, 1, 2, 3, 4, 5, 6, 7, 8, 9, 10, 11, 12, 13] rfl mixed (by kernel_rfl) fun w_c1210 hs hlt => ?_
      have hfr := hfr.ext hs
      have o0 := o0.ext hs
      have b821 := b821.ext hs
      have b701 := b701.ext hs
      clear hs
      refine CH_pur (c := .int .i64 (x5)) rfl rfl .plain (P_move rfl) ?_
      refine CH_pur (c := .int .i64 (m7)) rfl rfl .plain (P_move rfl) ?_
      refine CH_pur (c := fPtr p6 0) rfl rfl .plain (P_fieldAddr at_58_0 a9 (OB.ptr o0)) ?_
      refine CH_ldO (n := 2007) (c := zD) rfl rfl .plain xF rfl rfl ?_
      have dB := dB.ch hlt.1
      refine CH_pur (c := .int .i64 (x5)) rfl rfl .plain (P_move rfl) ?_
      refine CH_pur (c := ePtr zD x5 1) rfl rfl .plain (P_indexAddr (α := List Int) Tryz.underlying56 Tryz.sizeOf23 rfl dB rfl vC) ?_
      have rC := rC.ch hlt.1
      refine CH_ldP (c := aE) rfl rfl .plain yF rfl ?_
      have iB := iB.ch hlt.1
      refine CH_pur (c := .int .i64 (m7)) rfl rfl .plain (P_move rfl) ?_
      refine CH_pur (c := ePtr aE m7 1) rfl rfl .plain (P_indexAddr (α := Int) Tryz.underlying23 Tryz.sizeOf3 rfl iB rfl aD) ?_
      have uC := uC.ch hlt.1
      refine CH_ldP (c := .int .i64 (tH)) rfl rfl .plain zF rfl ?_
      refine CH_pur (c := fPtr g8 1) rfl rfl .plain (P_fieldAddr at_100_1 rfl (OB.ptr b821)) ?_
      refine CH_do rfl rfl .plain (D_storeFc (g := nB) part_PayEntry_1 Tryz.sizeOf3 rfl b821 rfl (RV_int.2 rfl) fun dI dM hs b1220 rst hos => ?_)
      clear rst hos
      have hfr := hfr.stp hs
      have hlt := hlt.stp hs
      have o0 := o0.stp hs rfl
      have b701 := b701.stp hs rfl
      refine ⟨hlt.toW, ?_⟩
      refine CH_pur (c := fPtr g8 2) rfl rfl .plain (P_fieldAddr at_100_2 rfl (OB.ptr b1220)) ?_
      refine CH_do rfl rfl .plain (D_storeFc (g := dI) part_PayEntry_2 Tryz.sizeOf3 rfl b1220 rfl (RV_int.2 rfl) fun iI eM hs b1222 rst hos => ?_)
      clear rst hos
      have hfr := hfr.stp hs
      have hlt := hlt.stp hs
      have o0 := o0.stp hs rfl
      have b701 := b701.stp hs rfl
      refine ⟨hlt.toW, ?_⟩
      refine CH_nil ?_
      clear hlt
      refine EL_p (fPtr g8 3) (P_fieldAddr at_100_3 rfl (OB.ptr b1222)) rfl ?_
      refine EL_do .plain rfl (D_storeFc (g := iI) part_PayEntry_3 Tryz.sizeOf3 rfl b1222 rfl (RV_int.2 rfl) fun jI iM hs b1224 rst hos => ?_)
      clear rst hos
      have hfr := hfr.stp hs
      have o0 := o0.stp hs rfl
      have b701 := b701.stp hs rfl
      refine EL_nil (thn_n (L_loadH (x := .tmp 95) (Cxt.fld (Cxt.root ow_PayTable bk701) fl_PayTable_0 (u3) (sk161)) rfl rfl (ok161.1) Tryz.isAgg56 b701 fun aG => ?_))
      obtain ⟨cC, x6, h⟩ := bsome h
      obtain ⟨bb1229, cc1229, ss1229, hq1229, m8⟩ := (OV.slice b701 (Cxt.fld (Cxt.root ow_PayTable bk701) fl_PayTable_0 (u3) (sk161)) rfl rfl (ok161.1)).2 x6
      refine L_loadH (x := .tmp 98) (Cxt.idx (Cxt.fld (Cxt.root ow_PayTable bk701) fl_PayTable_0 (u3) (sk161)) ((u3).Rows) (Int.toNat x5) bb1229 cc1229 ss1229 (idx_nat x6).2 m8) ((congrArg (fun q => ({ u3 with Rows := q } : PayTable)) (set_idx x6)).trans rfl) (((congrArg (fun q => ((Sl.at bb1229 cc1229 q), (Prod.snd sk161))) (set_getD (by rw [m8]; exact (idx_nat x6).2))).trans (congrArg (fun q => (q, (Prod.snd sk161))) (hq1229).symm)).trans rfl) (ok_at (ok161.1) hq1229 (by rw [m8]; exact (idx_nat x6).2)) Tryz.isAgg23 b701 fun bG => ?_
      refine L_loadO (x := .tmp 101) part_PayTable_0.1 Tryz.isAgg56 Tryz.sizeOf56 o0 fun bE iE cG => ?_
      obtain ⟨bL, bD, h⟩ := bsome h
      have kI := PT_idx iE bD
      refine L_load (x := .tmp 104) Tryz.isAgg23 Tryz.sizeOf23 kI fun lE mE eG => ?_
      obtain ⟨oD, cD, h⟩ := bsome h
      have lI := PT_idx mE cD
      refine L_load (x := .tmp 107) Tryz.isAgg3 Tryz.sizeOf3 lI fun jM mI gG => ?_
      obtain rfl := RV_int.1 mI
      obtain ⟨rA, hG, h⟩ := bsome h
      obtain ⟨pL, n9, h⟩ := bsome h
      obtain ⟨bb1243, cc1243, ss1243, hq1243, iG⟩ := (OV.slice b701 (Cxt.idx (Cxt.fld (Cxt.root ow_PayTable bk701) fl_PayTable_0 (u3) (sk161)) ((u3).Rows) (Int.toNat x5) bb1229 cc1229 ss1229 (idx_nat x6).2 m8) ((congrArg (fun q => ({ u3 with Rows := q } : PayTable)) (set_idx x6)).trans rfl) (((congrArg (fun q => ((Sl.at bb1229 cc1229 q), (Prod.snd sk161))) (set_getD (by rw [m8]; exact (idx_nat x6).2))).trans (congrArg (fun q => (q, (Prod.snd sk161))) (hq1229).symm)).trans rfl) (ok_at (ok161.1) hq1229 (by rw [m8]; exact (idx_nat x6).2))).2 n9
      refine E_drawL (g := jI) (n := 18) [(16, (fun v g w => v = .int .i64 (rA)))] [0, 1, 2, 3, 4, 5, 6, 7, 8, 9, 10, 11, 12, 13, 14, 15, 16, 17] rfl mixed (by kernel_rfl) (⟨fun _ => up_eq _, trivial⟩) ?_
      refine L_p ((.pointer (some ⟨bk701, (0 + 0), none⟩))) rfl rfl (P_fieldAddrH at_58_0 rfl) ?_
      refine L_ld (c := (hdrV (Prod.fst sk161) ((u3).Rows).length)) rfl rfl .plain (fun _ _ h => ⟨h.ch, fun b hb _ => h.below.block b hb⟩) aG rfl ?_
      refine L_p (.int .i64 (x5)) rfl rfl (P_move rfl) ?_
      refine L_p ((.pointer (some ⟨bb1229, ((Int.toNat x5) * 1), none⟩))) rfl rfl (P_indexH Tryz.underlying56 Tryz.sizeOf23 (rfl.trans (hdr_at hq1229 _)) rfl (idx_nat x6)) ?_
      refine L_ld (c := (hdrV (List.getD ss1229 (Int.toNat x5) ((Ow.list 3 (Ow.sh Int))).df) (cC).length)) rfl rfl .plain (fun _ _ h => ⟨h.ch, fun b hb _ => h.below.block b hb⟩) bG rfl ?_
      refine L_p (.int .i64 (m7)) rfl rfl (P_move rfl) ?_
      refine L_p (fPtr p6 0) rfl rfl (P_fieldAddr at_58_0 a9 (OB.ptr o0)) ?_
      refine L_ld (c := bE) rfl rfl .plain (fun _ _ h => ⟨h.ch, fun b hb _ => h.below.block b hb⟩) cG rfl ?_
      refine L_p (.int .i64 (x5)) rfl rfl (P_move rfl) ?_
      refine L_p (ePtr bE x5 1) rfl rfl (P_indexAddr (α := List Int) Tryz.underlying56 Tryz.sizeOf23 rfl iE rfl bD) ?_
      refine L_ld (c := lE) rfl rfl .plain (fun _ _ h => h.ch) eG rfl ?_
      refine L_p (.int .i64 (m7)) rfl rfl (P_move rfl) ?_
      refine L_p (ePtr lE m7 1) rfl rfl (P_indexAddr (α := Int) Tryz.underlying23 Tryz.sizeOf3 rfl mE rfl cD) ?_
      refine L_ld (c := .int .i64 (oD)) rfl rfl .plain (fun _ _ h => h.ch) gG rfl ?_
      refine L_p (.int .u16 (UInt16.toNat (x2))) rfl rfl (P_move mC) ?_
      refine L_p (.int .i64 (((x2).toNat : Int))) rfl rfl (P_u16int Tryz.underlying81 Tryz.underlying3 rfl) ?_
      refine L_do (φ := fun v g w => v = .int .i64 (rA)) rfl rfl .plain (fun g w hd => D_call (g := g) (vs := [.int .i64 (oD), .int .i64 (((x2).toNat : Int)), .int .i64 (1000000)]) en43 (.cons rfl (.cons rfl (.cons rfl .nil))) (wk43  hG) fun g' w' v hs hr => ⟨g', hs, hr⟩) (fun kM hv => ?_)
      obtain ⟨_, _, _, rfl⟩ := hv
      refine L_p ((.pointer (some ⟨bb1243, ((Int.toNat m7) * 1), none⟩))) rfl rfl (P_indexH Tryz.underlying23 Tryz.sizeOf3 (rfl.trans (hdr_at hq1243 _)) rfl (idx_nat n9)) ?_
      refine L_nl fun nI mM hs => ?_
      have hfr := hfr.ext hs
      have b1224 := b1224.ext hs
      have b701 := b701.ext hs
      clear hs
      refine EL_do .plain rfl (D_storeOV (g := nI) (u' := (rA : Int)) (Cxt.idx (Cxt.idx (Cxt.fld (Cxt.root ow_PayTable bk701) fl_PayTable_0 (u3) (sk161)) ((u3).Rows) (Int.toNat x5) bb1229 cc1229 ss1229 (idx_nat x6).2 m8) (cC) (Int.toNat m7) bb1243 cc1243 ss1243 (idx_nat n9).2 iG) ((congrArg (fun q => ({ u3 with Rows := (List.set ((u3).Rows) (Int.toNat x5) q) } : PayTable)) (set_idx n9)).trans ((congrArg (fun q => ({ u3 with Rows := q } : PayTable)) (set_idx x6)).trans rfl)) (((congrArg (fun q => ((Sl.at bb1229 cc1229 (List.set ss1229 (Int.toNat x5) (Sl.at bb1243 cc1243 q))), (Prod.snd sk161))) set_unit).trans (congrArg (fun q => ((Sl.at bb1229 cc1229 (List.set ss1229 (Int.toNat x5) q)), (Prod.snd sk161))) (hq1243).symm)).trans (((congrArg (fun q => ((Sl.at bb1229 cc1229 q), (Prod.snd sk161))) (set_getD (by rw [m8]; exact (idx_nat x6).2))).trans (congrArg (fun q => (q, (Prod.snd sk161))) (hq1229).symm)).trans rfl)) Tryz.sizeOf3 rfl b701 rfl (RV_int.2 rfl) fun nE pI hs b1310 => ?_)
      have hfr := hfr.stp hs
      have b1224 := b1224.stp hs rfl
      replace b1310 : OV ow_PayTable 2014 nE pI 58 (({ u3 with Rows := (List.set ((u3).Rows) (Int.toNat x5) (List.set cC (Int.toNat m7) rA)) } : PayTable) : PayTable) bk701 sk161 := b1310
      refine EL_nil (blk_n ?_)
      obtain ⟨rfl, rfl⟩ := pairs2 h
      exact hQ _ _ ⟨nE, hfr, rfl, ⟨_, b1310, ok161⟩, rfl, b1224⟩
     ·refine E_cf oB rfl ?_
      refine E_seq (E_region (EL_p (.bool ((((((1 : UInt8) + i7)).toNat : Int) == (2 : Int)))) (P_int rfl rfl rfl) rfl ?_))
      refine EL_p (.bool ((((((1 : UInt8) + i7)).toNat : Int) == (2 : Int)))) (P_assign rfl) rfl ?_
      refine EL_nil (thn_n ?_)
      rcases csome h with ⟨tB, h⟩ | ⟨tB, h⟩
      ·refine E_ct tB rfl ?_
       refine E_seq (L_loadO (x := .tmp 116) part_PayTable_1.1 Tryz.isAgg23 Tryz.sizeOf23 o0 fun oE rE jG => ?_)
       obtain ⟨uH, eD, h⟩ := bsome h
       have qI := PT_idx rE eD
       refine L_load (x := .tmp 119) Tryz.isAgg3 Tryz.sizeOf3 qI fun nM sI kG => ?_
       obtain rfl := RV_int.1 sI
       refine E_drawB (a0 := ((⟨((((1 : UInt8) + i7)).toNat : Int), 0, 0, 0⟩ : PayEntry) : PayEntry)) (a1 := ((⟨((((1 : UInt8) + i7)).toNat : Int), x5, 0, 0⟩ : PayEntry) : PayEntry)) b821 (n := 9) [(7, (fun _ g w => OB 2015 g w 100 ((⟨((((1 : UInt8) + i7)).toNat : Int), x5, 0, 0⟩ : PayEntry) : PayEntry) g8))] [0, 1, 2, 3, 4, 5, 6, 7, 8] rfl mixed (by kernel_rfl) (⟨fun _ => up_box, trivial⟩) ?_
       refine L_p (.int .i64 (x5)) rfl rfl (P_move rfl) ?_
       refine L_p (fPtr p6 1) rfl rfl (P_fieldAddr at_58_1 a9 (OB.ptr o0)) ?_
       refine L_ld (c := oE) rfl rfl .plain (fun _ _ h => ⟨h.1.ch, fun b hb ho => h.1.block b hb (by rw [ho]; decide)⟩) jG rfl ?_
       refine L_p (.int .i64 (x5)) rfl rfl (P_move rfl) ?_
       refine L_p (ePtr oE x5 1) rfl rfl (P_indexAddr (α := Int) Tryz.underlying23 Tryz.sizeOf3 rfl rE rfl eD) ?_
       refine L_ld (c := .int .i64 (uH)) rfl rfl .plain (fun _ _ h => h.1.ch) kG rfl ?_
       refine L_p (fPtr g8 1) rfl rfl (P_fieldAddr at_100_1 rfl (OB.ptr b821)) ?_
       refine L_do (φ := fun _ g w => OB 2015 g w 100 ((⟨((((1 : UInt8) + i7)).toNat : Int), x5, 0, 0⟩ : PayEntry) : PayEntry) g8) rfl rfl .plain (fun g w hd => D_storeR (g := g) (by rfl) (by exact rfl) part_PayEntry_1 Tryz.sizeOf3 rfl hd.1.2 rfl (RV_int.2 rfl)) (fun oM hv => ?_)
       clear hv
       refine L_p (fPtr g8 3) rfl rfl (P_fieldAddr at_100_3 rfl (OB.ptr b821)) ?_
       refine L_nil fun tI pM hall => ?_
       have hs := hall.1.1
       have hfr := hfr.stp hs
       have o0 := o0.stp hs rfl
       have b701 := b701.stp hs rfl
       have b1350 := (word_all (A := fun g w => OB 2015 g w 100 ((⟨((((1 : UInt8) + i7)).toNat : Int), x5, 0, 0⟩ : PayEntry) : PayEntry) g8) 7 rfl hall)
       clear hs hall
       refine EL_do .plain rfl (D_storeFc (g := tI) part_PayEntry_3 Tryz.sizeOf3 rfl b1350 rfl (RV_int.2 rfl) fun uI qM hs b1367 rst hos => ?_)
       clear rst hos
       have hfr := hfr.stp hs
       have o0 := o0.stp hs rfl
       have b701 := b701.stp hs rfl
       refine EL_nil (thn_n (L_loadH (x := .tmp 123) (Cxt.fld (Cxt.root ow_PayTable bk701) fl_PayTable_1 (u3) (sk161)) rfl rfl ((ok161.2).1) Tryz.isAgg23 b701 fun lG => ?_))
       refine L_loadO (x := .tmp 126) part_PayTable_1.1 Tryz.isAgg23 Tryz.sizeOf23 o0 fun uE vE mG => ?_
       obtain ⟨sD, gD, h⟩ := bsome h
       have vI := PT_idx vE gD
       refine L_load (x := .tmp 129) Tryz.isAgg3 Tryz.sizeOf3 vI fun rM yI sG => ?_
       obtain rfl := RV_int.1 yI
       obtain ⟨yA, xG, h⟩ := bsome h
       obtain ⟨qL, u9, h⟩ := bsome h
       obtain ⟨bb1379, cc1379, ss1379, hq1379, yG⟩ := (OV.slice b701 (Cxt.fld (Cxt.root ow_PayTable bk701) fl_PayTable_1 (u3) (sk161)) rfl rfl ((ok161.2).1)).2 u9
       refine E_drawL (g := uI) (n := 12) [(10, (fun v g w => v = .int .i64 (yA)))] [0, 1, 2, 3, 4, 5, 6, 7, 8, 9, 10, 11] rfl mixed (by kernel_rfl) (⟨fun _ => up_eq _, trivial⟩) ?_
       refine L_p ((.pointer (some ⟨bk701, (0 + 1), none⟩))) rfl rfl (P_fieldAddrH at_58_1 rfl) ?_
       refine L_ld (c := (hdrV (Prod.fst (Prod.snd sk161)) ((u3).Across).length)) rfl rfl .plain (fun _ _ h => ⟨h.ch, fun b hb _ => h.below.block b hb⟩) lG rfl ?_
       refine L_p (.int .i64 (x5)) rfl rfl (P_move rfl) ?_
       refine L_p (fPtr p6 1) rfl rfl (P_fieldAddr at_58_1 a9 (OB.ptr o0)) ?_
       refine L_ld (c := uE) rfl rfl .plain (fun _ _ h => ⟨h.ch, fun b hb _ => h.below.block b hb⟩) mG rfl ?_
       refine L_p (.int .i64 (x5)) rfl rfl (P_move rfl) ?_
       refine L_p (ePtr uE x5 1) rfl rfl (P_indexAddr (α := Int) Tryz.underlying23 Tryz.sizeOf3 rfl vE rfl gD) ?_
       refine L_ld (c := .int .i64 (sD)) rfl rfl .plain (fun _ _ h => h.ch) sG rfl ?_
       refine L_p (.int .u16 (UInt16.toNat (x2))) rfl rfl (P_move mC) ?_
       refine L_p (.int .i64 (((x2).toNat : Int))) rfl rfl (P_u16int Tryz.underlying81 Tryz.underlying3 rfl) ?_
       refine L_do (φ := fun v g w => v = .int .i64 (yA)) rfl rfl .plain (fun g w hd => D_call (g := g) (vs := [.int .i64 (sD), .int .i64 (((x2).toNat : Int)), .int .i64 (1000000000)]) en43 (.cons rfl (.cons rfl (.cons rfl .nil))) (wk43  xG) fun g' w' v hs hr => ⟨g', hs, hr⟩) (fun sM hv => ?_)
       obtain ⟨_, _, _, rfl⟩ := hv
       refine L_p ((.pointer (some ⟨bb1379, ((Int.toNat x5) * 1), none⟩))) rfl rfl (P_indexH Tryz.underlying23 Tryz.sizeOf3 (rfl.trans (hdr_at hq1379 _)) rfl (idx_nat u9)) ?_
       refine L_nl fun zI tM hs => ?_
       have hfr := hfr.ext hs
       have b1367 := b1367.ext hs
       have b701 := b701.ext hs
       clear hs
       refine EL_do .plain rfl (D_storeOV (g := zI) (u' := (yA : Int)) (Cxt.idx (Cxt.fld (Cxt.root ow_PayTable bk701) fl_PayTable_1 (u3) (sk161)) ((u3).Across) (Int.toNat x5) bb1379 cc1379 ss1379 (idx_nat u9).2 yG) ((congrArg (fun q => ({ u3 with Across := q } : PayTable)) (set_idx u9)).trans rfl) (((congrArg (fun q => ((Prod.fst sk161), ((Sl.at bb1379 cc1379 q), (Prod.snd (Prod.snd sk161))))) set_unit).trans (congrArg (fun q => ((Prod.fst sk161), (q, (Prod.snd (Prod.snd sk161))))) (hq1379).symm)).trans rfl) Tryz.sizeOf3 rfl b701 rfl (RV_int.2 rfl) fun xE eJ hs b1437 => ?_)
       have hfr := hfr.stp hs
       have b1367 := b1367.stp hs rfl
       replace b1437 : OV ow_PayTable 2014 xE eJ 58 (({ u3 with Across := (List.set ((u3).Across) (Int.toNat x5) yA) } : PayTable) : PayTable) bk701 sk161 := b1437
       refine EL_nil (blk_n ?_)
       obtain ⟨rfl, rfl⟩ := pairs2 h
       exact hQ _ _ ⟨xE, hfr, rfl, ⟨_, b1437, ok161⟩, rfl, b1367⟩
      ·refine E_cf tB rfl ?_
       refine E_seq (E_region (EL_p (.bool ((((((1 : UInt8) + i7)).toNat : Int) == (3 : Int)))) (P_int rfl rfl rfl) rfl ?_))
       refine EL_p (.bool ((((((1 : UInt8) + i7)).toNat : Int) == (3 : Int)))) (P_assign rfl) rfl ?_
       refine EL_nil (thn_n ?_)
       rcases csome h with ⟨vB, h⟩ | ⟨vB, h⟩
       ·refine E_ct vB rfl ?_
        refine E_seq (L_loadO (x := .tmp 138) part_PayTable_2.1 Tryz.isAgg23 Tryz.sizeOf23 o0 fun yE zE zG => ?_)
        obtain ⟨xH, iD, h⟩ := bsome h
        have gJ := PT_idx zE iD
        refine L_load (x := .tmp 141) Tryz.isAgg3 Tryz.sizeOf3 gJ fun uM iJ aH => ?_
        obtain rfl := RV_int.1 iJ
        refine E_drawB (a0 := ((⟨((((1 : UInt8) + i7)).toNat : Int), 0, 0, 0⟩ : PayEntry) : PayEntry)) (a1 := ((⟨((((1 : UInt8) + i7)).toNat : Int), 0, m7, 0⟩ : PayEntry) : PayEntry)) b821 (n := 9) [(7, (fun _ g w => OB 2015 g w 100 ((⟨((((1 : UInt8) + i7)).toNat : Int), 0, m7, 0⟩ : PayEntry) : PayEntry) g8))] [0, 1, 2, 3, 4, 5, 6, 7, 8] rfl mixed (by kernel_rfl) (⟨fun _ => up_box, trivial⟩) ?_
        refine L_p (.int .i64 (m7)) rfl rfl (P_move rfl) ?_
        refine L_p (fPtr p6 2) rfl rfl (P_fieldAddr at_58_2 a9 (OB.ptr o0)) ?_
        refine L_ld (c := yE) rfl rfl .plain (fun _ _ h => ⟨h.1.ch, fun b hb ho => h.1.block b hb (by rw [ho]; decide)⟩) zG rfl ?_
        refine L_p (.int .i64 (m7)) rfl rfl (P_move rfl) ?_
        refine L_p (ePtr yE m7 1) rfl rfl (P_indexAddr (α := Int) Tryz.underlying23 Tryz.sizeOf3 rfl zE rfl iD) ?_
        refine L_ld (c := .int .i64 (xH)) rfl rfl .plain (fun _ _ h => h.1.ch) aH rfl ?_
        refine L_p (fPtr g8 2) rfl rfl (P_fieldAddr at_100_2 rfl (OB.ptr b821)) ?_
        refine L_do (φ := fun _ g w => OB 2015 g w 100 ((⟨((((1 : UInt8) + i7)).toNat : Int), 0, m7, 0⟩ : PayEntry) : PayEntry) g8) rfl rfl .plain (fun g w hd => D_storeR (g := g) (by rfl) (by exact rfl) part_PayEntry_2 Tryz.sizeOf3 rfl hd.1.2 rfl (RV_int.2 rfl)) (fun vM hv => ?_)
        clear hv
        refine L_p (fPtr g8 3) rfl rfl (P_fieldAddr at_100_3 rfl (OB.ptr b821)) ?_
        refine L_nil fun jJ xM hall => ?_
        have hs := hall.1.1
        have hfr := hfr.stp hs
        have o0 := o0.stp hs rfl
        have b701 := b701.stp hs rfl
        have b1477 := (word_all (A := fun g w => OB 2015 g w 100 ((⟨((((1 : UInt8) + i7)).toNat : Int), 0, m7, 0⟩ : PayEntry) : PayEntry) g8) 7 rfl hall)
        clear hs hall
        refine EL_do .plain rfl (D_storeFc (g := jJ) part_PayEntry_3 Tryz.sizeOf3 rfl b1477 rfl (RV_int.2 rfl) fun kJ bN hs b1496 rst hos => ?_)
        clear rst hos
        have hfr := hfr.stp hs
        have o0 := o0.stp hs rfl
        have b701 := b701.stp hs rfl
        refine EL_nil (thn_n (L_loadH (x := .tmp 145) (Cxt.fld (Cxt.root ow_PayTable bk701) fl_PayTable_2 (u3) (sk161)) rfl rfl (((ok161.2).2).1) Tryz.isAgg23 b701 fun cH => ?_))
        refine L_loadO (x := .tmp 148) part_PayTable_2.1 Tryz.isAgg23 Tryz.sizeOf23 o0 fun cF dF dH => ?_
        obtain ⟨tD, jD, h⟩ := bsome h
        have lJ := PT_idx dF jD
        refine L_load (x := .tmp 151) Tryz.isAgg3 Tryz.sizeOf3 lJ fun cN mJ gH => ?_
        obtain rfl := RV_int.1 mJ
        obtain ⟨aB, iH, h⟩ := bsome h
        obtain ⟨rL, y9, h⟩ := bsome h
        obtain ⟨bb1508, cc1508, ss1508, hq1508, jH⟩ := (OV.slice b701 (Cxt.fld (Cxt.root ow_PayTable bk701) fl_PayTable_2 (u3) (sk161)) rfl rfl (((ok161.2).2).1)).2 y9
        refine E_drawL (g := kJ) (n := 12) [(10, (fun v g w => v = .int .i64 (aB)))] [0, 1, 2, 3, 4, 5, 6, 7, 8, 9, 10, 11] rfl mixed (by kernel_rfl) (⟨fun _ => up_eq _, trivial⟩) ?_
        refine L_p ((.pointer (some ⟨bk701, (0 + 2), none⟩))) rfl rfl (P_fieldAddrH at_58_2 rfl) ?_
        refine L_ld (c := (hdrV (Prod.fst (Prod.snd (Prod.snd sk161))) ((u3).Down).length)) rfl rfl .plain (fun _ _ h => ⟨h.ch, fun b hb _ => h.below.block b hb⟩) cH rfl ?_
        refine L_p (.int .i64 (m7)) rfl rfl (P_move rfl) ?_
        refine L_p (fPtr p6 2) rfl rfl (P_fieldAddr at_58_2 a9 (OB.ptr o0)) ?_
        refine L_ld (c := cF) rfl rfl .plain (fun _ _ h => ⟨h.ch, fun b hb _ => h.below.block b hb⟩) dH rfl ?_
        refine L_p (.int .i64 (m7)) rfl rfl (P_move rfl) ?_
        refine L_p (ePtr cF m7 1) rfl rfl (P_indexAddr (α := Int) Tryz.underlying23 Tryz.sizeOf3 rfl dF rfl jD) ?_
        refine L_ld (c := .int .i64 (tD)) rfl rfl .plain (fun _ _ h => h.ch) gH rfl ?_
        refine L_p (.int .u16 (UInt16.toNat (x2))) rfl rfl (P_move mC) ?_
        refine L_p (.int .i64 (((x2).toNat : Int))) rfl rfl (P_u16int Tryz.underlying81 Tryz.underlying3 rfl) ?_
        refine L_do (φ := fun v g w => v = .int .i64 (aB)) rfl rfl .plain (fun g w hd => D_call (g := g) (vs := [.int .i64 (tD), .int .i64 (((x2).toNat : Int)), .int .i64 (1000000000)]) en43 (.cons rfl (.cons rfl (.cons rfl .nil))) (wk43  iH) fun g' w' v hs hr => ⟨g', hs, hr⟩) (fun dN hv => ?_)
        obtain ⟨_, _, _, rfl⟩ := hv
        refine L_p ((.pointer (some ⟨bb1508, ((Int.toNat m7) * 1), none⟩))) rfl rfl (P_indexH Tryz.underlying23 Tryz.sizeOf3 (rfl.trans (hdr_at hq1508 _)) rfl (idx_nat y9)) ?_
        refine L_nl fun nJ eN hs => ?_
        have hfr := hfr.ext hs
        have b1496 := b1496.ext hs
        have b701 := b701.ext hs
        clear hs
        refine EL_do .plain rfl (D_storeOV (g := nJ) (u' := (aB : Int)) (Cxt.idx (Cxt.fld (Cxt.root ow_PayTable bk701) fl_PayTable_2 (u3) (sk161)) ((u3).Down) (Int.toNat m7) bb1508 cc1508 ss1508 (idx_nat y9).2 jH) ((congrArg (fun q => ({ u3 with Down := q } : PayTable)) (set_idx y9)).trans rfl) (((congrArg (fun q => ((Prod.fst sk161), ((Prod.fst (Prod.snd sk161)), ((Sl.at bb1508 cc1508 q), (Prod.snd (Prod.snd (Prod.snd sk161))))))) set_unit).trans (congrArg (fun q => ((Prod.fst sk161), ((Prod.fst (Prod.snd sk161)), (q, (Prod.snd (Prod.snd (Prod.snd sk161))))))) (hq1508).symm)).trans rfl) Tryz.sizeOf3 rfl b701 rfl (RV_int.2 rfl) fun eF oJ hs b1568 => ?_)
        have hfr := hfr.stp hs
        have b1496 := b1496.stp hs rfl
        replace b1568 : OV ow_PayTable 2014 eF oJ 58 (({ u3 with Down := (List.set ((u3).Down) (Int.toNat m7) aB) } : PayTable) : PayTable) bk701 sk161 := b1568
        refine EL_nil (blk_n ?_)
        obtain ⟨rfl, rfl⟩ := pairs2 h
        exact hQ _ _ ⟨eF, hfr, rfl, ⟨_, b1568, ok161⟩, rfl, b1496⟩
       ·refine E_cf vB rfl ?_
        refine E_seq (E_region (EL_p (fPtr p6 3) (P_fieldAddr at_58_3 a9 (OB.ptr o0)) rfl ?_))
        refine EL_do .plain rfl (D_loadF (g := nB) part_PayTable_3.1 Tryz.isAgg3 Tryz.sizeOf3 rfl o0 fun gN pJ => ?_)
        obtain rfl := RV_int.1 pJ
        refine EL_p (fPtr g8 3) (P_fieldAddr at_100_3 rfl (OB.ptr b821)) rfl ?_
        refine EL_do .plain rfl (D_storeFc (g := nB) part_PayEntry_3 Tryz.sizeOf3 rfl b821 rfl (RV_int.2 rfl) fun rF iN hs b1572 rst hos => ?_)
        clear rst hos
        have hfr := hfr.stp hs
        have o0 := o0.stp hs rfl
        have b701 := b701.stp hs rfl
        refine EL_nil (thn_n (E_region (EL_p (fPtr p6 3) (P_fieldAddr at_58_3 a9 (OB.ptr o0)) rfl ?_)))
        refine EL_do .plain rfl (D_loadF (g := rF) part_PayTable_3.1 Tryz.isAgg3 Tryz.sizeOf3 rfl o0 fun jN qJ => ?_)
        obtain rfl := RV_int.1 qJ
        refine EL_mv mC rfl ?_
        refine EL_p (.int .i64 (((x2).toNat : Int))) (P_u16int Tryz.underlying81 Tryz.underlying3 rfl) rfl ?_
        obtain ⟨uD, kH, h⟩ := bsome h
        refine EL_do .plain rfl (D_call (g := rF) (vs := [.int .i64 ((y5).Total), .int .i64 (((x2).toNat : Int)), .int .i64 (1000000000)]) en43 (.cons rfl (.cons rfl (.cons rfl .nil))) (wk43  kH) fun rJ lL kN hs hr => ?_)
        have hfr := hfr.ext hs
        have b1572 := b1572.ext hs
        have b701 := b701.ext hs
        subst hr
        refine EL_p ((.pointer (some ⟨bk701, (0 + 3), none⟩))) (P_fieldAddrH at_58_3 rfl) rfl ?_
        refine EL_do .plain rfl (D_storeOV (g := rJ) (u' := (uD : Int)) (Cxt.fld (Cxt.root ow_PayTable bk701) fl_PayTable_3 (u3) (sk161)) rfl rfl Tryz.sizeOf3 rfl b701 rfl (RV_int.2 rfl) fun sF sJ hs b1579 => ?_)
        have hfr := hfr.stp hs
        have b1572 := b1572.stp hs rfl
        replace b1579 : OV ow_PayTable 2014 sF sJ 58 (({ u3 with Total := uD } : PayTable) : PayTable) bk701 sk161 := b1579
        refine EL_nil (blk_n ?_)
        obtain ⟨rfl, rfl⟩ := pairs2 h
        exact hQ _ _ ⟨sF, hfr, rfl, ⟨_, b1579, ok161⟩, rfl, b1572⟩
    ·clear hx
     obtain ⟨lB, hfr, yB, ⟨pK, i6, iA⟩, xD, l5⟩ := hR
     refine E_seq (E_region (EL_do .plain rfl (D_loadAL (g := lB) Tryz.isAgg58 Tryz.sizeOf58 yB i6 fun vJ al1582 => ?_)))
     obtain ⟨dL, lH, h⟩ := bsome h
     refine EL_do .plain rfl (D_callGF (g := lB) (vs := [vJ]) en35 (.cons rfl .nil) (W35 (iO := 4159) (AL.lent al1582 i6 iA rfl) lH) fun gl1583 mH xJ hxl hr => ?_)
     have hm1583 := OWx.unlend fw_ow_PayTable hxl hr
     obtain ⟨yJ, hge1583⟩ : ∃ g, g = { m := fun b => if b < yD.heap.size then lB.m b else gl1583.m b, o := gl1583.o : Gh } := ⟨_, rfl⟩
     rw [← hge1583] at hm1583
     have hs : Ext lB yD yJ mH := hge1583 ▸ unlend hxl
     clear hxl hr hge1583
     have hfr := hfr.ext hs
     have i6 := i6.ext hs
     have l5 := l5.ext hs
     obtain ⟨sk1583, ow1583, ok1583⟩ := hm1583
     obtain ⟨gp1585, hs, rp1585⟩ := OW.pub ow1583 ok1583
     have hfr := hfr.stp hs
     have i6 := i6.stp hs rfl
     have l5 := l5.stp hs rfl
     obtain ⟨t5, nH, h⟩ := bsome h
     refine EL_do .plain rfl (D_call (g := gp1585) (vs := [xJ]) en41 (.cons rfl .nil) (wk41 rp1585 nH) fun mB lD lN hs hr => ?_)
     have hfr := hfr.ext hs
     have i6 := i6.ext hs
     have l5 := l5.ext hs
     obtain ⟨xK, yK, rfl, rfl, rfl⟩ := hr
     refine EL_mw (.tuple #[.bool (t5.1), .int .i64 (t5.2)]) rfl rfl ?_
     refine EL_p (.bool (t5.1)) (P_extract rfl rfl) rfl ?_
     refine EL_p (.int .i64 (t5.2)) (P_extract rfl rfl) rfl ?_
     refine EL_at (.bool (t5.1)) rfl rfl ?_
     refine EL_at (.int .i64 (t5.2)) rfl rfl ?_
     refine EL_nil (thn_n (E_seq (E_region (EL_do .plain rfl (D_loadAL (g := mB) Tryz.isAgg58 Tryz.sizeOf58 yB i6 fun zJ al1589 => ?_)))))
     obtain ⟨eL, oH, h⟩ := bsome h
     refine EL_do .plain rfl (D_callGF (g := mB) (vs := [zJ]) en35 (.cons rfl .nil) (W35 (iO := 4165) (AL.lent al1589 i6 iA rfl) oH) fun gl1590 pH aK hxl hr => ?_)
     have hm1590 := OWx.unlend fw_ow_PayTable hxl hr
     obtain ⟨bK, hge1590⟩ : ∃ g, g = { m := fun b => if b < lD.heap.size then mB.m b else gl1590.m b, o := gl1590.o : Gh } := ⟨_, rfl⟩
     rw [← hge1590] at hm1590
     have hs : Ext mB lD bK pH := hge1590 ▸ unlend hxl
     clear hxl hr hge1590
     have hfr := hfr.ext hs
     have l5 := l5.ext hs
     obtain ⟨sk1590, ow1590, ok1590⟩ := hm1590
     obtain ⟨gp1592, hs, rp1592⟩ := OW.pub ow1590 ok1590
     have hfr := hfr.stp hs
     have l5 := l5.stp hs rfl
     obtain ⟨y6, qH, h⟩ := bsome h
     refine EL_do .plain rfl (D_call (g := gp1592) (vs := [aK]) en42 (.cons rfl .nil) (wk42 rp1592 qH) fun cK mL mN hs hr => ?_)
     have hfr := hfr.ext hs
     have l5 := l5.ext hs
     obtain ⟨z9, zK, rfl, bA, rfl⟩ := hr
     refine EL_mw (.tuple #[z9, .int .i64 (y6.2)]) rfl rfl ?_
     refine EL_p z9 (P_extract rfl rfl) rfl ?_
     refine EL_p (.int .i64 (y6.2)) (P_extract rfl rfl) rfl ?_
     refine EL_do .plain rfl (D_allocOc (g := cK) 2016 (⟨0, 0, 0, 0⟩ : PayEntry) Tryz.zeroValue100 (fun m w => ⟨_, (rep_two rep_int (rep_two rep_int (rep_two rep_int rep_int))), rfl⟩) fun dK nN oN hs b1595 cb => ?_)
     have hfr := hfr.stp hs
     have l5 := l5.stp hs rfl
     have bA := bA.stp hs
     clear cb
     refine EL_do .plain rfl (D_storeOc (g := dK) (v := z9) Tryz.sizeOf100 rfl b1595 rfl bA fun k9 pN hs b1596 cb => ?_)
     clear cb
     have hfr := hfr.stp hs
     have l5 := l5.stp hs rfl
     refine EL_at (.int .i64 (y6.2)) rfl rfl ?_
     refine EL_nil (thn_n ?_)
     obtain ⟨zB, hx, h⟩ := bsome h
     refine E_join (fun e w => ∃ (g : Gh) , Fr gI wI g w ∧ e 6 = .bool (zB)) (fun Q' hQ => ?_) (fun nL qN hR => ?_)
     ·replace h := hx
      clear hx
      refine E_region (EL_mw (.int .i64 (t5.2)) rfl rfl ?_)
      refine EL_in (.bool ((t5.2 == (0 : Int)))) rfl rfl rfl rfl ?_
      refine EL_mw (.bool ((t5.2 == (0 : Int)))) rfl rfl ?_
      rcases csome h with ⟨n8, h⟩ | ⟨n8, h⟩
      ·refine EL_y (.bool (t5.1)) (P_move rfl) rfl rfl n8 rfl ?_
       refine EL_y (.bool (!t5.1)) (P_not rfl) rfl rfl n8 rfl ?_
       refine EL_p (.bool (!t5.1)) (P_pick (b := (t5.2 == (0 : Int))) rfl (pick_t n8 rfl)) rfl ?_
       refine EL_mw (.bool (!t5.1)) rfl rfl ?_
       rcases csome h with ⟨x8, h⟩ | ⟨x8, h⟩
       ·refine EL_y (.int .i64 (y6.2)) (P_move rfl) rfl rfl x8 rfl ?_
        refine EL_y (.bool ((y6.2 == (0 : Int)))) (P_int rfl rfl rfl) rfl rfl x8 rfl ?_
        refine EL_p (.bool ((y6.2 == (0 : Int)))) (P_pick (b := (!t5.1)) rfl (pick_t x8 rfl)) rfl ?_
        refine EL_mw (.bool ((y6.2 == (0 : Int)))) rfl rfl ?_
        rcases csome h with ⟨k8, h⟩ | ⟨k8, h⟩
        ·refine EL_do (.yes2 rfl rfl k8) rfl (D_loadO (g := k9) Tryz.isAgg100 Tryz.sizeOf100 rfl b1596 fun rN lK => ?_)
         refine EL_do (.yes2 rfl rfl k8) rfl (D_loadO (g := k9) Tryz.isAgg100 Tryz.sizeOf100 xD l5 fun sN mK => ?_)
         refine EL_y (.bool ((decide (y6.1 = l8)))) (P_seq seq_100 rfl eg_100 rfl rfl lK mK) rfl rfl k8 rfl ?_
         refine EL_p (.bool ((decide (y6.1 = l8)))) (P_pick (b := (y6.2 == (0 : Int))) rfl (pick_t k8 rfl)) rfl ?_
         refine EL_mw (.bool ((decide (y6.1 = l8)))) rfl rfl ?_
         rcases csome h with ⟨l9, h⟩ | ⟨l9, h⟩
         ·obtain ⟨vD, sH, h⟩ := bsome h
          refine EL_do (.yes2 rfl rfl l9) rfl (D_call (g := k9) (vs := []) en12 .nil (wk12  sH) fun nK oL tN hs hr => ?_)
          have hfr := hfr.ext hs
          subst hr
          refine EL_p (.bool (vD)) (P_pick (b := (decide (y6.1 = l8))) rfl (pick_t l9 rfl)) rfl ?_
          refine EL_at (.bool (vD)) rfl rfl ?_
          refine EL_nil ?_
          obtain rfl := sinj h
          exact hQ _ _ ⟨nK, hfr, rfl⟩
         ·refine EL_s rfl rfl l9 rfl rfl ?_
          refine EL_p (.bool false) (P_pick (b := (decide (y6.1 = l8))) rfl (pick_f l9 rfl)) rfl ?_
          refine EL_at (.bool false) rfl rfl ?_
          refine EL_nil ?_
          obtain rfl := sinj h
          exact hQ _ _ ⟨k9, hfr, rfl⟩
        ·refine EL_s rfl rfl k8 rfl rfl ?_
         refine EL_s rfl rfl k8 rfl rfl ?_
         refine EL_s rfl rfl k8 rfl rfl ?_
         refine EL_p (.bool false) (P_pick (b := (y6.2 == (0 : Int))) rfl (pick_f k8 rfl)) rfl ?_
         refine EL_dead 3 rfl ?_
         refine EL_at (.bool false) rfl rfl ?_
         refine EL_nil ?_
         obtain rfl := sinj h
         exact hQ _ _ ⟨k9, hfr, rfl⟩
       ·refine EL_s rfl rfl x8 rfl rfl ?_
        refine EL_s rfl rfl x8 rfl rfl ?_
        refine EL_p (.bool false) (P_pick (b := (!t5.1)) rfl (pick_f x8 rfl)) rfl ?_
        refine EL_dead 8 rfl ?_
        refine EL_at (.bool false) rfl rfl ?_
        refine EL_nil ?_
        obtain rfl := sinj h
        exact hQ _ _ ⟨k9, hfr, rfl⟩
      ·refine EL_s rfl rfl n8 rfl rfl ?_
       refine EL_s rfl rfl n8 rfl rfl ?_
       refine EL_p (.bool false) (P_pick (b := (t5.2 == (0 : Int))) rfl (pick_f n8 rfl)) rfl ?_
       refine EL_dead 12 rfl ?_
       refine EL_at (.bool false) rfl rfl ?_
       refine EL_nil ?_
       obtain rfl := sinj h
       exact hQ _ _ ⟨k9, hfr, rfl⟩
     ·clear hx
      obtain ⟨uN, hfr, tF⟩ := hR
      refine E_ret ?_
      obtain rfl := sinj h
      exact end1 rfl rfl (show _ = .bool (zB) from tF) ⟨_, hfr, rfl⟩
end Go.Proofs.YtkmbkaoolacofaaGreat
