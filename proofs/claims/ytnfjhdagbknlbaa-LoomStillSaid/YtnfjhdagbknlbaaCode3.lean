import Derived.Test.YtnfjhdagbknlbaaCode2
set_option maxRecDepth 8000
set_option maxHeartbeats 4000000
namespace Go.Proofs.Ytnfjhdagbknlbaa
open Go.RowKit
def f39 (x0 : Hall) : Option (LoomMill × (List LoomOrder) × (List LoomRun)) :=
 (rem64 (((x0).Change).toNat : Int) (6 : Int)).bind fun y5 =>
 Option.bind (α := LoomMill) (
  lp (σ := LoomMill × Int) (fun xN (qA, o8) =>
   jn (σ := Unit) (fun _ =>
    Option.bind (α := LoomMill) (
     (idx ((x0).Widths).toList o8).bind fun oF =>
     (rem64 ((oF).toNat : Int) (20 : Int)).bind fun q8 =>
     (apnd 8 ((qA).Widths) (([(w64 ((10 : Int) + q8))] : List Int))).bind fun hG =>
     some ({ qA with Widths := hG })
     ) fun oA =>
    xN (oA, (w64 (o8 + (1 : Int))))
    ) fun k82 =>
   (rem64 (((x0).Looms).toNat : Int) (3 : Int)).bind fun rG =>
   bif (decide (o8 ≤ rG)) then
    k82 ()
   else
    some (qA)
   ) big ((⟨[], y5⟩ : LoomMill), (0 : Int))
  ) fun j3 =>
 Option.bind (α := (List LoomOrder) × (List LoomRun)) (
  lp (σ := (List LoomOrder) × (List LoomRun) × (Vector Int 3) × (Vector Int 3) × Int) (fun sG (n7, o7, c7, i8, u0) =>
   jn (σ := Unit) (fun _ =>
    Option.bind (α := (List LoomOrder) × (List LoomRun) × (Vector Int 3) × (Vector Int 3)) (
     (idx ((x0).Orders) u0).bind fun d3 =>
     (rem64 (((d3)[0]).toNat : Int) (((j3).Widths).length : Int)).bind fun z2 =>
     (idx ((j3).Widths) z2).bind fun pF =>
     (rem64 (((d3)[1]).toNat : Int) pF).bind fun m7 =>
     (rem64 (((d3)[2]).toNat : Int) (3 : Int)).bind fun a7 =>
     (rem64 (((d3)[3]).toNat : Int) (15 : Int)).bind fun u3 =>
     (idx (c7).toList z2).bind fun k9 =>
     (quo64 (((d3)[0]).toNat : Int) (3 : Int)).bind fun qF =>
     (rem64 qF (3 : Int)).bind fun l9 =>
     Option.bind (α := Int) (
      Option.bind (α := Bool) (
       (idx (i8).toList z2).bind fun d9 =>
       bif (decide (d9 ≥ (0 : Int))) then
        (idx (i8).toList z2).bind fun dB =>
        some ((dB != a7))
       else
        some (false)
       ) fun i9 =>
      bif i9 then
       some ((w64 ((w64 (k9 + l9)) + (j3).Change)))
      else
       some ((w64 (k9 + l9)))
      ) fun o0 =>
     (rem64 (((d3)[4]).toNat : Int) (9 : Int)).bind fun e9 =>
     (rem64 (((d3)[5]).toNat : Int) (9 : Int)).bind fun eB =>
     (apnd 40 n7 (([(⟨(w64 ((1 : Int) + m7)), a7, (w64 ((1 : Int) + u3)), (max64 (0 : Int) (w64 (o0 - e9))), (w64 ((w64 (o0 + (w64 ((1 : Int) + u3)))) + eB))⟩ : LoomOrder)] : List LoomOrder))).bind fun tG =>
     (f46 u0 z2 o0).bind fun rF =>
     (apnd 24 o7 (([rF] : List LoomRun))).bind fun uG =>
     (idx (c7).toList z2).bind fun lL =>
     (idx (i8).toList z2).bind fun mL =>
     some (tG, uG, (vset c7 z2 ((w64 (o0 + (w64 ((1 : Int) + u3)))))), (vset i8 z2 a7))
     ) fun (bA, gA, rA, iA) =>
    sG (bA, gA, rA, iA, (w64 (u0 + (1 : Int))))
    ) fun vG =>
   Option.bind (α := Bool) (
    bif (decide (u0 < (((x0).Orders).length : Int))) then
     some ((decide (u0 < (7 : Int))))
    else
     some (false)
    ) fun o9 =>
   bif o9 then
    vG ()
   else
    some (n7, o7)
   ) big (([] : List LoomOrder), ([] : List LoomRun), (⟨List.toArray [0, 0, 0], rfl⟩ : Vector Int 3), (⟨List.toArray [(-1 : Int), (-1 : Int), (-1 : Int)], rfl⟩ : Vector Int 3), (0 : Int))
  ) fun (sA, uA) =>
 some (j3, sA, uA)
theorem en39 : Enters Try.prog 39 := enters_of Try.func39 (by kernel_rfl) rfl
theorem wk39 {gI : Gh} {wI : World} {x0 : Hall} {up0 : Value} (rp0 : RV gI.m wI x0 up0) {r : LoomMill × (List LoomOrder) × (List LoomRun)} (h : f39 x0 = some r) : Fn Try.prog 39 #[up0] gI wI (fun m w v => ∃ y0 y1 y2, v = .tuple #[y0, y1, y2] ∧ RV m w (r.1) y0 ∧ RV m w (r.2.1) y1 ∧ RV m w (r.2.2) y2) := by
 unfold f39 at h
 refine fn_of_E Try.func39 rfl (Nat.le_of_ble_eq_true rfl) fun g0 hm hfr => ?_
 have rp0 : RV g0.m wI x0 up0 := hm ▸ rp0
 show E _ 155 none _ _ _ _ _
 refine Zf (Za (Ze .plain rfl (D_box (g := g0) rfl rp0 fun g1 w1 p1 hs q1 => ?_)))
 have hfr := hfr.ext hs
 refine Ze .plain rfl (D_allocOc (g := g1) 2002 (⟨[], 0⟩ : LoomMill) Try.zeroValue24 (fun m w => ⟨_, (rep_two rep_nil rep_int), rfl⟩) fun g2 w2 p2 hs b2 cb => ?_)
 have hfr := hfr.stp hs
 have q1 := q1.stp hs
 have cC : OSF 2002 60200 0 g2 w2 3 24 ([] : List Int) p2 := cb.osf (by rfl)
 clear cb
 refine Zg (.slice none 0 0) rfl rfl ?_
 refine Zg (.slice none 0 0) rfl rfl ?_
 refine Zb (Zd (Zf (Za (EL_p (fPtr p1 4) (Zc at_71_2 rfl (PT.ptr q1)) rfl ?_))))
 have q3 := Zm (part_Hall_2).1 q1
 refine Ze .plain rfl (D_load (g := g2) Try.isAgg5 Try.sizeOf5 rfl q3 fun v4 r4 => ?_)
 obtain rfl := RV_u8.1 r4
 refine EL_p (.int .i64 ((((x0).Change).toNat : Int))) (P_u8int Try.underlying5 Try.underlying3 rfl) rfl ?_
 obtain ⟨y5, hy5, h⟩ := bsome h
 refine EL_p (.int .i64 (y5)) (P_int rfl rfl (congrArg (Option.map (Value.int .i64)) hy5)) rfl ?_
 have r6 : RV g2.m w2 (⟨[], y5⟩ : LoomMill) (.agg (setCh [[.slice none 0 0], [.int .i64 0]] [(1, .int .i64 (y5))]).flatten.toArray) := RV_build rfl (rep_pair (rep_nil) (rep_last (rfl)))
 generalize yN : (Value.agg (setCh [[.slice none 0 0], [.int .i64 0]] [(1, .int .i64 (y5))]).flatten.toArray) = v6 at r6
 refine EL_p v6 (yN ▸ P_build (vs := [(1, .int .i64 (y5))]) [[.slice none 0 0], [.int .i64 0]] lay_24 rfl rfl (.cons rfl .nil) ⟨⟨_, rfl, rfl⟩, trivial⟩) rfl ?_
 refine Ze .plain rfl (D_allocOc (g := g2) 2005 (⟨[], 0⟩ : LoomMill) Try.zeroValue24 (fun m w => ⟨_, (rep_two rep_nil rep_int), rfl⟩) fun g7 w7 p7 hs b7 cb => ?_)
 have hfr := hfr.stp hs
 have q1 := q1.stp hs
 have cC := cC.stp hs rfl
 have b2 := b2.stp hs rfl
 have r6 := r6.stp hs
 have oR : OSF 2005 60500 0 g7 w7 3 24 ([] : List Int) p7 := cb.osf (by rfl)
 clear cb
 refine Ze .plain rfl (D_storeOc (g := g7) (v := v6) Try.sizeOf24 rfl b7 rfl r6 fun g8 w8 hs b8 cb => ?_)
 have zN : OSF 2005 60500 0 g8 w8 3 24 ([] : List Int) p7 := cb.osf (by rw [← yN]; rfl)
 clear cb
 have hfr := hfr.stp hs
 have q1 := q1.stp hs
 have cC := cC.stp hs rfl
 have b2 := b2.stp hs rfl
 refine Zb (Zd ?_)
 obtain ⟨j3, hx, h⟩ := bsome h
 refine E_join (fun e w => ∃ (g : Gh) , Fr gI wI g w ∧ e 1 = p1 ∧ PT g.m w (x0 : Hall) p1 ∧ e 2 = p2 ∧ OB 2002 g w 24 ((⟨[], 0⟩ : LoomMill) : LoomMill) p2 ∧ OSF 2002 60200 0 g w 3 24 (((⟨[], 0⟩ : LoomMill)).Widths) p2 ∧ e 5 = p7 ∧ OB 2005 g w 24 (j3 : LoomMill) p7 ∧ OSF 2005 60500 0 g w 3 24 ((j3).Widths) p7) (fun Q' hQ => ?_) (fun jP pR hR => ?_)
 ·replace h := hx
  clear hx
  refine Zf (Za (Zg (.int .i64 (0)) rfl rfl ?_))
  refine Zb (Zd (Zr ?_))
  refine E_lp h (fun (s : LoomMill × Int) e w => ∃ (g : Gh) , Fr gI wI g w ∧ e 1 = p1 ∧ PT g.m w (x0 : Hall) p1 ∧ e 2 = p2 ∧ OB 2002 g w 24 ((⟨[], 0⟩ : LoomMill) : LoomMill) p2 ∧ OSF 2002 60200 0 g w 3 24 (((⟨[], 0⟩ : LoomMill)).Widths) p2 ∧ e 5 = p7 ∧ OB 2005 g w 24 (s.1 : LoomMill) p7 ∧ OSF 2005 60500 0 g w 3 24 ((s.1).Widths) p7 ∧ e 6 = .int .i64 (s.2)) ⟨g8, hfr, rfl, q1, rfl, b2, cC, rfl, b8, zN, rfl⟩ (fun X76 xN aO => ?_)
  rintro ⟨qA, o8⟩ qR gS ⟨dJ, hfr, sF, yB, xG, yG, u2_0_77, zG, aH, u5_0_77, bH⟩ h
  refine Zq h (fun (s : Unit) e w => ∃ (g : Gh) , Fr gI wI g w ∧ e 1 = p1 ∧ PT g.m w (x0 : Hall) p1 ∧ e 2 = p2 ∧ OB 2002 g w 24 ((⟨[], 0⟩ : LoomMill) : LoomMill) p2 ∧ OSF 2002 60200 0 g w 3 24 (((⟨[], 0⟩ : LoomMill)).Widths) p2 ∧ e 5 = p7 ∧ OB 2005 g w 24 (qA : LoomMill) p7 ∧ OSF 2005 60500 0 g w 3 24 ((qA).Widths) p7 ∧ e 6 = .int .i64 (o8)) (fun X82 k82 bO h => ?_) ?_
  ·refine Zf (Za (Zo bH rfl ?_))
   refine EL_p (fPtr p1 3) (Zc at_71_1 sF (PT.ptr yB)) rfl ?_
   have vO := Zm (part_Hall_1).1 yB
   refine Ze .plain rfl (D_load (g := dJ) Try.isAgg5 Try.sizeOf5 rfl vO fun iS xO => ?_)
   obtain rfl := RV_u8.1 xO
   refine EL_p (.int .i64 ((((x0).Looms).toNat : Int))) (P_u8int Try.underlying5 Try.underlying3 rfl) rfl ?_
   obtain ⟨rG, cO, h⟩ := bsome h
   refine EL_p (.int .i64 (rG)) (P_int rfl rfl (congrArg (Option.map (Value.int .i64)) cO)) rfl ?_
   refine EL_in (.bool ((decide (o8 ≤ rG)))) rfl rfl rfl rfl ?_
   refine Zb (Zd ?_)
   rcases Zt h with ⟨iG, h⟩ | ⟨iG, h⟩
   ·refine E_ct iG rfl ?_
    exact Zu (Zd (bO () _ _ ⟨dJ, hfr, sF, yB, xG, yG, u2_0_77, zG, aH, u5_0_77, bH⟩ h))
   ·refine E_cf iG rfl ?_
    refine E_exit ?_
    refine thn_e ?_
    refine thn_e ?_
    refine blk_hit ?_
    obtain rfl := sinj h
    exact hQ _ _ ⟨dJ, hfr, sF, yB, xG, yG, u2_0_77, zG, aH, u5_0_77⟩
  ·rintro _ rR jS ⟨yO, hfr, cH, n9, nL, jA, u2_0_87, tF, z9, u5_0_87, dH⟩ h
   obtain ⟨oA, hx, h⟩ := bsome h
   refine E_join (fun e w => ∃ (g : Gh) , Fr gI wI g w ∧ e 1 = p1 ∧ PT g.m w (x0 : Hall) p1 ∧ e 2 = p2 ∧ OB 2002 g w 24 ((⟨[], 0⟩ : LoomMill) : LoomMill) p2 ∧ OSF 2002 60200 0 g w 3 24 (((⟨[], 0⟩ : LoomMill)).Widths) p2 ∧ e 5 = p7 ∧ OB 2005 g w 24 (oA : LoomMill) p7 ∧ OSF 2005 60500 0 g w 3 24 ((oA).Widths) p7 ∧ e 6 = .int .i64 (o8)) (fun Q' hQ => ?_) (fun kP tR hR => ?_)
   ·replace h := hx
    clear hx
    refine Zr ?_
    refine L_loadFS (x := .tmp 29) part_LoomMill_0.1 Try.isAgg22 Try.sizeOf22 z9 u5_0_87 fun dO jG o116 oL => ?_
    have eJ := Zm (part_Hall_0).1 n9
    obtain ⟨oF, gH, h⟩ := bsome h
    have eO := PT_idxA eJ gH
    refine Zs (x := .tmp 33) Try.isAgg5 Try.sizeOf5 eO fun uR gO pL => ?_
    obtain rfl := RV_u8.1 gO
    obtain ⟨q8, qL, h⟩ := bsome h
    refine E_drawL (g := yO) (n := 10) [(9, (fun v g w => RV g.m w ([(w64 ((10 : Int) + q8))] : List Int) v ∧ OS 3038 g w 3 ([(w64 ((10 : Int) + q8))] : List Int) v ∧ FullV v))] [0, 1, 2, 3, 4, 5, 6, 7, 8, 9] rfl mixed (by kernel_rfl) (⟨fun _ => up_and up_rv (up_and up_os (up_eq _)), trivial⟩) ?_
    refine L_p (fPtr p7 0) rfl rfl (Zc at_24_0 tF (OB.ptr z9)) ?_
    refine L_ld (c := dO) rfl rfl .plain (fun _ _ h => ⟨h.ch, fun b hb _ => h.below.block b hb⟩) oL rfl ?_
    refine L_p (.int .i64 (o8)) rfl rfl (Zk dH) ?_
    refine L_p (fPtr p1 0) rfl rfl (Zc at_71_0 cH (PT.ptr n9)) ?_
    refine L_p (fPtr (fPtr p1 0) ((o8 : Int).toNat * 1)) rfl rfl (P_indexAddrA (α := UInt8) Try.underlying68 Try.sizeOf5 rfl (PT.ptr eJ) rfl gH) ?_
    refine L_ld (c := .int .u8 (UInt8.toNat (oF))) rfl rfl .plain (fun _ _ h => h.ch) pL rfl ?_
    refine L_p (.int .i64 (((oF).toNat : Int))) rfl rfl (P_u8int Try.underlying5 Try.underlying3 rfl) ?_
    refine L_p (.int .i64 (q8)) rfl rfl (P_int rfl rfl (congrArg (Option.map (Value.int .i64)) qL)) ?_
    refine L_p (.int .i64 ((w64 ((10 : Int) + q8)))) rfl rfl (P_int rfl rfl rfl) ?_
    refine L_do (φ := fun v g w => RV g.m w ([(w64 ((10 : Int) + q8))] : List Int) v ∧ OS 3038 g w 3 ([(w64 ((10 : Int) + q8))] : List Int) v ∧ FullV v) rfl rfl .plain (fun g w hd => D_buildSlice (g := g) 3038 (xs := ([(w64 ((10 : Int) + q8))] : List Int)) (vs := [.int .i64 ((w64 ((10 : Int) + q8)))]) Try.underlying22 Try.sizeOf3 Try.zeroValue3 rfl rfl (.cons rfl .nil) (RVs.cons (Zj.2 rfl) RVs.nil) rfl rfl fun g' w' v hs o r hxt hfl => ⟨g', hxt, r, o, hfl⟩) (fun jB hv => ?_)
    clear hv
    refine L_nil fun iO vR hall => ?_
    have hs := hall.1
    have hfr := hfr.ext hs
    have n9 := n9.ext hs
    have u2_0_87 := u2_0_87.ext hs
    have jA := jA.ext hs
    have z9 := z9.ext hs
    have jG := jG.ext hs
    have o116 := o116.ext hs
    have jO := (word_all (A := fun g w => RV g.m w ([(w64 ((10 : Int) + q8))] : List Int) jB ∧ OS 3038 g w 3 ([(w64 ((10 : Int) + q8))] : List Int) jB ∧ FullV jB) 9 rfl hall).1
    have o137 := (word_all (A := fun g w => RV g.m w ([(w64 ((10 : Int) + q8))] : List Int) jB ∧ OS 3038 g w 3 ([(w64 ((10 : Int) + q8))] : List Int) jB ∧ FullV jB) 9 rfl hall).2.1
    clear hs hall
    obtain ⟨hG, rL, h⟩ := bsome h
    refine Ze .plain rfl (D_append (g := iO) (i := 60500) Try.underlying22 info_3 rfl rfl o116 jG rfl jO rL fun kO xR yR hs o138 gJ _ => ?_)
    have hfr := hfr.stp hs
    have n9 := n9.stp hs
    have u2_0_87 := u2_0_87.stp hs rfl
    have jA := jA.stp hs rfl
    have z9 := z9.stp hs rfl
    refine EL_p (fPtr p7 0) (Zc at_24_0 tF (OB.ptr z9)) rfl ?_
    refine Ze .plain rfl (D_storeFc (g := kO) part_LoomMill_0 Try.sizeOf22 rfl z9 rfl gJ fun lO zR hs b141 rst hos => ?_)
    have iJ := hos _ _ 60500 3 (hG : List Int) (rv_cells1 gJ) rfl o138
    clear rst hos
    have hfr := hfr.stp hs
    have n9 := n9.stp hs
    have u2_0_87 := u2_0_87.stp hs rfl
    have jA := jA.stp hs rfl
    refine Zb (blk_n ?_)
    obtain rfl := sinj h
    exact hQ _ _ ⟨lO, hfr, cH, n9, nL, jA, u2_0_87, tF, b141, iJ, dH⟩
   ·clear hx
    obtain ⟨mO, hfr, jJ, kJ, lJ, mJ, u2_0_142, nJ, oJ, u5_0_142, pJ⟩ := hR
    refine Za (Zo pJ rfl ?_)
    refine EL_in (.int .i64 ((w64 (o8 + (1 : Int))))) rfl rfl rfl rfl ?_
    refine Zg (.int .i64 ((w64 (o8 + (1 : Int))))) rfl rfl ?_
    exact Zb (Zd (aO (oA, (w64 (o8 + (1 : Int)))) _ _ ⟨mO, hfr, jJ, kJ, lJ, mJ, u2_0_142, nJ, oJ, u5_0_142, rfl⟩ h))
 ·clear hx
  obtain ⟨nO, hfr, qJ, u7, rJ, c8, u2_0_143, sJ, e8, u5_0_143⟩ := hR
  refine Zf (Za (Ze .plain rfl (D_buildSlice (g := nO) 3041 (xs := ([] : List LoomOrder)) (vs := []) Try.underlying25 Try.sizeOf82 Try.zeroValue82 rfl rfl .nil RVs.nil rfl rfl fun oO aS tJ hs o144 t9 hxt hfl => ?_)))
  have hfr := hfr.stp hs
  have u7 := u7.stp hs
  have u2_0_143 := u2_0_143.stp hs rfl
  have c8 := c8.stp hs rfl
  have u5_0_143 := u5_0_143.stp hs rfl
  have e8 := e8.stp hs rfl
  refine Ze .plain rfl (D_buildSlice (g := oO) 3042 (xs := ([] : List LoomRun)) (vs := []) Try.underlying31 Try.sizeOf76 Try.zeroValue76 rfl rfl .nil RVs.nil rfl rfl fun kG uJ vJ hs o145 kA hxt hfl => ?_)
  have hfr := hfr.stp hs
  have u7 := u7.stp hs
  have u2_0_143 := u2_0_143.stp hs rfl
  have c8 := c8.stp hs rfl
  have u5_0_143 := u5_0_143.stp hs rfl
  have e8 := e8.stp hs rfl
  have t9 := t9.stp hs
  have o144 := o144.stp hs rfl
  refine Zg tJ rfl rfl ?_
  refine Zg vJ rfl rfl ?_
  refine Zb (Zd (Zf (Za ?_)))
  have kB : RV kG.m uJ (⟨List.toArray [0, 0, 0], rfl⟩ : Vector Int 3) (.agg (setCh [[.int .i64 0], [.int .i64 0], [.int .i64 0]] []).flatten.toArray) := RV_build rfl (rep_vec (flat_chunk rep_int (flat_chunk rep_int (flat_chunk rep_int flat_nil))) rfl)
  generalize tL : (Value.agg (setCh [[.int .i64 0], [.int .i64 0], [.int .i64 0]] []).flatten.toArray) = xJ at kB
  refine EL_p xJ (tL ▸ P_buildA (vs := []) [[.int .i64 0], [.int .i64 0], [.int .i64 0]] Try.underlying126 layA_126 szA_3 rfl (by simp) .nil trivial) rfl ?_
  have pA : RV kG.m uJ (⟨List.toArray [(-1 : Int), (-1 : Int), (-1 : Int)], rfl⟩ : Vector Int 3) (.agg (setCh [[.int .i64 0], [.int .i64 0], [.int .i64 0]] [(0, .int .i64 (-1)), (1, .int .i64 (-1)), (2, .int .i64 (-1))]).flatten.toArray) := RV_build rfl (rep_vec (flat_chunk rfl (flat_chunk rfl (flat_chunk rfl flat_nil))) rfl)
  generalize uL : (Value.agg (setCh [[.int .i64 0], [.int .i64 0], [.int .i64 0]] [(0, .int .i64 (-1)), (1, .int .i64 (-1)), (2, .int .i64 (-1))]).flatten.toArray) = yJ at pA
  refine EL_p yJ (uL ▸ P_buildA (vs := [(0, .int .i64 (-1)), (1, .int .i64 (-1)), (2, .int .i64 (-1))]) [[.int .i64 0], [.int .i64 0], [.int .i64 0]] Try.underlying126 layA_126 szA_3 rfl (by simp) (.cons rfl (.cons rfl (.cons rfl .nil))) ⟨⟨_, rfl, rfl⟩, ⟨⟨_, rfl, rfl⟩, ⟨⟨_, rfl, rfl⟩, trivial⟩⟩⟩) rfl ?_
  refine Ze .plain rfl (D_allocOc (g := kG) 2009 ((⟨List.toArray [0, 0, 0], rfl⟩ : Vector Int 3) : Vector Int 3) Try.zeroValue126 (fun m w => ⟨_, (rep_vec (flat_chunk rep_int (flat_chunk rep_int (flat_chunk rep_int flat_nil))) rfl), rfl⟩) fun pO bS l8 hs b148 cb => ?_)
  have hfr := hfr.stp hs
  have u7 := u7.stp hs
  have u2_0_143 := u2_0_143.stp hs rfl
  have c8 := c8.stp hs rfl
  have u5_0_143 := u5_0_143.stp hs rfl
  have e8 := e8.stp hs rfl
  have t9 := t9.stp hs
  have o144 := o144.stp hs rfl
  have kA := kA.stp hs
  have o145 := o145.stp hs rfl
  have kB := kB.stp hs
  have pA := pA.stp hs
  clear cb
  refine Ze .plain rfl (D_allocOc (g := pO) 2010 ((⟨List.toArray [0, 0, 0], rfl⟩ : Vector Int 3) : Vector Int 3) Try.zeroValue126 (fun m w => ⟨_, (rep_vec (flat_chunk rep_int (flat_chunk rep_int (flat_chunk rep_int flat_nil))) rfl), rfl⟩) fun qO cS m8 hs b149 cb => ?_)
  have hfr := hfr.stp hs
  have u7 := u7.stp hs
  have u2_0_143 := u2_0_143.stp hs rfl
  have c8 := c8.stp hs rfl
  have u5_0_143 := u5_0_143.stp hs rfl
  have e8 := e8.stp hs rfl
  have t9 := t9.stp hs
  have o144 := o144.stp hs rfl
  have kA := kA.stp hs
  have o145 := o145.stp hs rfl
  have kB := kB.stp hs
  have pA := pA.stp hs
  have b148 := b148.stp hs rfl
  clear cb
  refine Ze .plain rfl (D_storeOc (g := qO) (v := xJ) Try.sizeOf126 rfl b148 rfl kB fun rO dS hs b150 cb => ?_)
  clear cb
  have hfr := hfr.stp hs
  have u7 := u7.stp hs
  have u2_0_143 := u2_0_143.stp hs rfl
  have c8 := c8.stp hs rfl
  have u5_0_143 := u5_0_143.stp hs rfl
  have e8 := e8.stp hs rfl
  have t9 := t9.stp hs
  have o144 := o144.stp hs rfl
  have kA := kA.stp hs
  have o145 := o145.stp hs rfl
  have pA := pA.stp hs
  have b149 := b149.stp hs rfl
  refine Ze .plain rfl (D_storeOc (g := rO) (v := yJ) Try.sizeOf126 rfl b149 rfl pA fun sO eS hs b151 cb => ?_)
  clear cb
  have hfr := hfr.stp hs
  have u7 := u7.stp hs
  have u2_0_143 := u2_0_143.stp hs rfl
  have c8 := c8.stp hs rfl
  have u5_0_143 := u5_0_143.stp hs rfl
  have e8 := e8.stp hs rfl
  have t9 := t9.stp hs
  have o144 := o144.stp hs rfl
  have kA := kA.stp hs
  have o145 := o145.stp hs rfl
  have b150 := b150.stp hs rfl
  refine Zb (Zd ?_)
  obtain ⟨⟨sA, uA⟩, hx, h⟩ := bsome h
  refine E_join (fun e w => ∃ (g : Gh) (v7 v8 : Value), Fr gI wI g w ∧ e 2 = p2 ∧ OB 2002 g w 24 ((⟨[], 0⟩ : LoomMill) : LoomMill) p2 ∧ OSF 2002 60200 0 g w 3 24 (((⟨[], 0⟩ : LoomMill)).Widths) p2 ∧ e 5 = p7 ∧ OB 2005 g w 24 (j3 : LoomMill) p7 ∧ OSF 2005 60500 0 g w 3 24 ((j3).Widths) p7 ∧ e 7 = v7 ∧ RV g.m w (sA : List LoomOrder) v7 ∧ OS 3041 g w 82 (sA : List LoomOrder) v7 ∧ e 8 = v8 ∧ RV g.m w (uA : List LoomRun) v8 ∧ OS 3042 g w 76 (uA : List LoomRun) v8) (fun Q' hQ => ?_) (fun zO lP hR => ?_)
  ·replace h := hx
   clear hx
   refine Zf (Za (Zg (.int .i64 (0)) rfl rfl ?_))
   refine Zb (Zd (Zr ?_))
   refine E_lp h (fun (s : (List LoomOrder) × (List LoomRun) × (Vector Int 3) × (Vector Int 3) × Int) e w => ∃ (g : Gh) (v7 v8 : Value), Fr gI wI g w ∧ e 1 = p1 ∧ PT g.m w (x0 : Hall) p1 ∧ e 2 = p2 ∧ OB 2002 g w 24 ((⟨[], 0⟩ : LoomMill) : LoomMill) p2 ∧ OSF 2002 60200 0 g w 3 24 (((⟨[], 0⟩ : LoomMill)).Widths) p2 ∧ e 5 = p7 ∧ OB 2005 g w 24 (j3 : LoomMill) p7 ∧ OSF 2005 60500 0 g w 3 24 ((j3).Widths) p7 ∧ e 7 = v7 ∧ RV g.m w (s.1 : List LoomOrder) v7 ∧ OS 3041 g w 82 (s.1 : List LoomOrder) v7 ∧ e 8 = v8 ∧ RV g.m w (s.2.1 : List LoomRun) v8 ∧ OS 3042 g w 76 (s.2.1 : List LoomRun) v8 ∧ e 9 = l8 ∧ OB 2009 g w 126 (s.2.2.1 : Vector Int 3) l8 ∧ e 10 = m8 ∧ OB 2010 g w 126 (s.2.2.2.1 : Vector Int 3) m8 ∧ e 11 = .int .i64 (s.2.2.2.2)) ⟨sO, (tJ), (vJ), hfr, qJ, u7, rJ, c8, u2_0_143, sJ, e8, u5_0_143, rfl, t9, o144, rfl, kA, o145, rfl, b150, rfl, b151, rfl⟩ (fun X1819 sG zJ => ?_)
   rintro ⟨n7, o7, c7, i8, u0⟩ aP mP ⟨uF, d7, e7, hfr, lB, xA, gD, iD, u2_0_1820, jD, kD, u5_0_1820, lD, mD, nD, oD, sD, tD, uD, vD, dC, eC, lA⟩ h
   refine Zq h (fun (s : Unit) e w => ∃ (g : Gh) , Fr gI wI g w ∧ e 1 = p1 ∧ PT g.m w (x0 : Hall) p1 ∧ e 2 = p2 ∧ OB 2002 g w 24 ((⟨[], 0⟩ : LoomMill) : LoomMill) p2 ∧ OSF 2002 60200 0 g w 3 24 (((⟨[], 0⟩ : LoomMill)).Widths) p2 ∧ e 5 = p7 ∧ OB 2005 g w 24 (j3 : LoomMill) p7 ∧ OSF 2005 60500 0 g w 3 24 ((j3).Widths) p7 ∧ e 7 = d7 ∧ RV g.m w (n7 : List LoomOrder) d7 ∧ OS 3041 g w 82 (n7 : List LoomOrder) d7 ∧ e 8 = e7 ∧ RV g.m w (o7 : List LoomRun) e7 ∧ OS 3042 g w 76 (o7 : List LoomRun) e7 ∧ e 9 = l8 ∧ OB 2009 g w 126 (c7 : Vector Int 3) l8 ∧ e 10 = m8 ∧ OB 2010 g w 126 (i8 : Vector Int 3) m8 ∧ e 11 = .int .i64 (u0)) (fun X1829 vG aK h => ?_) ?_
   ·obtain ⟨o9, hx, h⟩ := bsome h
    refine E_join (fun e w => ∃ (g : Gh) , Fr gI wI g w ∧ e 1 = p1 ∧ PT g.m w (x0 : Hall) p1 ∧ e 2 = p2 ∧ OB 2002 g w 24 ((⟨[], 0⟩ : LoomMill) : LoomMill) p2 ∧ OSF 2002 60200 0 g w 3 24 (((⟨[], 0⟩ : LoomMill)).Widths) p2 ∧ e 5 = p7 ∧ OB 2005 g w 24 (j3 : LoomMill) p7 ∧ OSF 2005 60500 0 g w 3 24 ((j3).Widths) p7 ∧ e 7 = d7 ∧ RV g.m w (n7 : List LoomOrder) d7 ∧ OS 3041 g w 82 (n7 : List LoomOrder) d7 ∧ e 8 = e7 ∧ RV g.m w (o7 : List LoomRun) e7 ∧ OS 3042 g w 76 (o7 : List LoomRun) e7 ∧ e 9 = l8 ∧ OB 2009 g w 126 (c7 : Vector Int 3) l8 ∧ e 10 = m8 ∧ OB 2010 g w 126 (i8 : Vector Int 3) m8 ∧ e 11 = .int .i64 (u0) ∧ e 53 = .bool (o9)) (fun Q' hQ => ?_) (fun bP nP hR => ?_)
    ·replace h := hx
     clear hx
     refine Za (Zo lA rfl ?_)
     refine EL_p (fPtr p1 5) (Zc at_71_3 lB (PT.ptr xA)) rfl ?_
     have vL := Zm (part_Hall_3).1 xA
     refine Ze .plain rfl (D_load (g := uF) Try.isAgg69 Try.sizeOf69 rfl vL fun oP xL => ?_)
     refine EL_p (.int .i64 (((x0).Orders).length : Int)) (P_len Try.underlying69 rfl xL) rfl ?_
     refine EL_p (.bool ((decide (u0 < (((x0).Orders).length : Int))))) (P_int rfl rfl rfl) rfl ?_
     refine EL_p (.bool ((decide (u0 < (((x0).Orders).length : Int))))) (Zk rfl) rfl ?_
     rcases Zt h with ⟨u9, h⟩ | ⟨u9, h⟩
     ·refine EL_y (.int .i64 (u0)) (Zk lA) rfl rfl u9 rfl ?_
      refine EL_y (.bool ((decide (u0 < (7 : Int))))) (P_int rfl rfl rfl) rfl rfl u9 rfl ?_
      refine EL_p (.bool ((decide (u0 < (7 : Int))))) (Zl (b := (decide (u0 < (((x0).Orders).length : Int)))) rfl (pick_t u9 rfl)) rfl ?_
      refine Zb ?_
      obtain rfl := sinj h
      exact hQ _ _ ⟨uF, hfr, lB, xA, gD, iD, u2_0_1820, jD, kD, u5_0_1820, lD, mD, nD, oD, sD, tD, uD, vD, dC, eC, lA, rfl⟩
     ·refine EL_s rfl rfl u9 rfl rfl ?_
      refine EL_s rfl rfl u9 rfl rfl ?_
      refine EL_p (.bool false) (Zl (b := (decide (u0 < (((x0).Orders).length : Int)))) rfl (pick_f u9 rfl)) rfl ?_
      refine Zb ?_
      obtain rfl := sinj h
      exact hQ _ _ ⟨uF, hfr, lB, xA, gD, iD, u2_0_1820, jD, kD, u5_0_1820, lD, mD, nD, oD, sD, tD, uD, vD, dC, eC, lA, rfl⟩
    ·clear hx
     obtain ⟨iH, hfr, tH, uH, xD, yD, u2_0_1836, zD, aE, u5_0_1836, bE, cE, dE, eE, gE, iE, vH, xH, lG, mG, nG, iC⟩ := hR
     rcases Zt h with ⟨jC, h⟩ | ⟨jC, h⟩
     ·refine E_cond_true (Eq.trans (show ev _ _ = .bool (o9) from iC) (congrArg Value.bool jC)) ?_
      exact Zu (Zd (aK () _ _ ⟨iH, hfr, tH, uH, xD, yD, u2_0_1836, zD, aE, u5_0_1836, bE, cE, dE, eE, gE, iE, vH, xH, lG, mG, nG⟩ h))
     ·refine E_cond_false (Eq.trans (show ev _ _ = .bool (o9) from iC) (congrArg Value.bool jC)) ?_
      refine E_exit ?_
      refine thn_e ?_
      refine thn_e ?_
      refine blk_hit ?_
      obtain ⟨rfl, rfl⟩ := pairs2 h
      exact hQ _ _ ⟨iH, (d7), (e7), hfr, xD, yD, u2_0_1836, zD, aE, u5_0_1836, bE, cE, dE, eE, gE, iE⟩
   ·rintro _ cP pP ⟨vF, hfr, mB, l5, jE, t5, u2_0_1838, yA, o3, u5_0_1838, kE, x5, i6, lE, j6, x6, nB, q5, y9, j1, aB⟩ h
    obtain ⟨⟨bA, gA, rA, iA⟩, hx, h⟩ := bsome h
    refine E_join (fun e w => ∃ (g : Gh) (v7 v8 : Value), Fr gI wI g w ∧ e 1 = p1 ∧ PT g.m w (x0 : Hall) p1 ∧ e 2 = p2 ∧ OB 2002 g w 24 ((⟨[], 0⟩ : LoomMill) : LoomMill) p2 ∧ OSF 2002 60200 0 g w 3 24 (((⟨[], 0⟩ : LoomMill)).Widths) p2 ∧ e 5 = p7 ∧ OB 2005 g w 24 (j3 : LoomMill) p7 ∧ OSF 2005 60500 0 g w 3 24 ((j3).Widths) p7 ∧ e 7 = v7 ∧ RV g.m w (bA : List LoomOrder) v7 ∧ OS 3041 g w 82 (bA : List LoomOrder) v7 ∧ e 8 = v8 ∧ RV g.m w (gA : List LoomRun) v8 ∧ OS 3042 g w 76 (gA : List LoomRun) v8 ∧ e 9 = l8 ∧ OB 2009 g w 126 (rA : Vector Int 3) l8 ∧ e 10 = m8 ∧ OB 2010 g w 126 (iA : Vector Int 3) m8 ∧ e 11 = .int .i64 (u0)) (fun Q' hQ => ?_) (fun dP sP hR => ?_)
    ·replace h := hx
     clear hx
     refine Zr ?_
     refine Zf (Za (EL_p (fPtr p1 5) (Zc at_71_3 mB (PT.ptr l5)) rfl ?_))
     have yL := Zm (part_Hall_3).1 l5
     refine Ze .plain rfl (D_load (g := vF) Try.isAgg69 Try.sizeOf69 rfl yL fun zL jH => ?_)
     refine Zo aB rfl ?_
     obtain ⟨d3, zF, h⟩ := bsome h
     refine EL_p (ePtr zL u0 6) (Zh (α := Vector UInt8 6) Try.underlying69 Try.sizeOf127 rfl jH rfl zF) rfl ?_
     have aM := PT_idx jH zF
     refine Ze .plain rfl (D_load (g := vF) Try.isAgg127 Try.sizeOf127 rfl aM fun bM xF => ?_)
     refine Ze .plain rfl (D_allocOc (g := vF) 2012 ((⟨List.toArray [0, 0, 0, 0, 0, 0], rfl⟩ : Vector UInt8 6) : Vector UInt8 6) Try.zeroValue127 (fun m w => ⟨_, (rep_vec (flat_chunk rep_u8 (flat_chunk rep_u8 (flat_chunk rep_u8 (flat_chunk rep_u8 (flat_chunk rep_u8 (flat_chunk rep_u8 flat_nil)))))) rfl), rfl⟩) fun cM tP r8 hs b2667 cb => ?_)
     have hfr := hfr.stp hs
     have l5 := l5.stp hs
     have u2_0_1838 := u2_0_1838.stp hs rfl
     have t5 := t5.stp hs rfl
     have u5_0_1838 := u5_0_1838.stp hs rfl
     have o3 := o3.stp hs rfl
     have x5 := x5.stp hs
     have i6 := i6.stp hs rfl
     have j6 := j6.stp hs
     have x6 := x6.stp hs rfl
     have q5 := q5.stp hs rfl
     have j1 := j1.stp hs rfl
     have xF := xF.stp hs
     clear cb
     refine Ze .plain rfl (D_storeOc (g := cM) (v := bM) Try.sizeOf127 rfl b2667 rfl xF fun zB dM hs b2668 cb => ?_)
     clear cb
     have hfr := hfr.stp hs
     have l5 := l5.stp hs
     have u2_0_1838 := u2_0_1838.stp hs rfl
     have t5 := t5.stp hs rfl
     have u5_0_1838 := u5_0_1838.stp hs rfl
     have o3 := o3.stp hs rfl
     have x5 := x5.stp hs
     have i6 := i6.stp hs rfl
     have j6 := j6.stp hs
     have x6 := x6.stp hs rfl
     have q5 := q5.stp hs rfl
     have j1 := j1.stp hs rfl
     refine Zb (Zd (Zf (Za (EL_p (fPtr r8 0) (P_indexAddrA (α := UInt8) (i := (0 : Int)) Try.underlying127 Try.sizeOf5 rfl (OB.ptr b2668) rfl (idx_vec (v := d3) (i := 0) (by decide))) rfl ?_))))
     refine Ze .plain rfl (D_loadF (g := zB) (SubS.vec (β := UInt8) (n := 6) (i := 0) (by decide)).1 Try.isAgg5 Try.sizeOf5 rfl b2668 fun uP eM => ?_)
     obtain rfl := RV_u8.1 eM
     refine EL_p (.int .i64 ((((d3)[0]).toNat : Int))) (P_u8int Try.underlying5 Try.underlying3 rfl) rfl ?_
     refine EL_p (fPtr p7 0) (Zc at_24_0 yA (OB.ptr o3)) rfl ?_
     refine Ze .plain rfl (D_loadFS (g := zB) part_LoomMill_0.1 Try.isAgg22 Try.sizeOf22 rfl o3 u5_0_1838 fun vP gM o2671 => ?_)
     refine EL_p (.int .i64 (((j3).Widths).length : Int)) (P_len Try.underlying22 rfl gM) rfl ?_
     obtain ⟨z2, bK, h⟩ := bsome h
     refine EL_p (.int .i64 (z2)) (P_int rfl rfl (congrArg (Option.map (Value.int .i64)) bK)) rfl ?_
     refine Zg (.int .i64 (z2)) rfl rfl ?_
     refine Zb (Zd (Zf (L_loadO (x := .tmp 68) (SubS.vec (β := UInt8) (n := 6) (i := 1) (by decide)).1 Try.isAgg5 Try.sizeOf5 b2668 fun xP iM cK => ?_)))
     obtain rfl := RV_u8.1 iM
     refine L_loadFS (x := .tmp 71) part_LoomMill_0.1 Try.isAgg22 Try.sizeOf22 o3 u5_0_1838 fun kH lH o2675 dK => ?_
     obtain ⟨pF, aG, h⟩ := bsome h
     have jM := PT_idx lH aG
     refine Zs (x := .tmp 74) Try.isAgg3 Try.sizeOf3 jM fun yP kM eK => ?_
     obtain rfl := Zj.1 kM
     obtain ⟨m7, lK, h⟩ := bsome h
     refine L_loadO (x := .tmp 78) (SubS.vec (β := UInt8) (n := 6) (i := 2) (by decide)).1 Try.isAgg5 Try.sizeOf5 b2668 fun zP mM mK => ?_
     obtain rfl := RV_u8.1 mM
     obtain ⟨a7, nK, h⟩ := bsome h
     refine L_loadO (x := .tmp 82) (SubS.vec (β := UInt8) (n := 6) (i := 3) (by decide)).1 Try.isAgg5 Try.sizeOf5 b2668 fun bQ nM oK => ?_
     obtain rfl := RV_u8.1 nM
     obtain ⟨u3, pK, h⟩ := bsome h
     have aC : RV zB.m dM (⟨(w64 ((1 : Int) + m7)), a7, (w64 ((1 : Int) + u3)), 0, 0⟩ : LoomOrder) (.agg (setCh [[.int .i64 0], [.int .i64 0], [.int .i64 0], [.int .i64 0], [.int .i64 0]] [(0, .int .i64 ((w64 ((1 : Int) + m7)))), (1, .int .i64 (a7)), (2, .int .i64 ((w64 ((1 : Int) + u3))))]).flatten.toArray) := RV_build rfl (rep_pair (rfl) (rep_pair (rfl) (rep_pair (rfl) (rep_pair (rep_int) (rep_last (rep_int))))))
     generalize qK : (Value.agg (setCh [[.int .i64 0], [.int .i64 0], [.int .i64 0], [.int .i64 0], [.int .i64 0]] [(0, .int .i64 ((w64 ((1 : Int) + m7)))), (1, .int .i64 (a7)), (2, .int .i64 ((w64 ((1 : Int) + u3))))]).flatten.toArray) = mH at aC
     refine E_drawL (g := zB) (n := 21) [(20, (fun v g w => OB 2014 g w 82 (⟨0, 0, 0, 0, 0⟩ : LoomOrder) v))] [0, 1, 2, 3, 4, 5, 6, 7, 8, 9, 10, 11, 12, 13, 14, 15, 16, 17, 18, 19, 20] rfl mixed (by kernel_rfl) (⟨fun _ => up_ob, trivial⟩) ?_
     refine L_p (fPtr r8 1) rfl rfl (P_indexAddrA (α := UInt8) (i := (1 : Int)) Try.underlying127 Try.sizeOf5 rfl (OB.ptr b2668) rfl (idx_vec (v := d3) (i := 1) (by decide))) ?_
     refine L_ld (c := .int .u8 (UInt8.toNat ((d3)[1]))) rfl rfl .plain (fun _ _ h => ⟨h.ch, fun b hb _ => h.below.block b hb⟩) cK rfl ?_
     refine L_p (.int .i64 ((((d3)[1]).toNat : Int))) rfl rfl (P_u8int Try.underlying5 Try.underlying3 rfl) ?_
     refine L_p (fPtr p7 0) rfl rfl (Zc at_24_0 yA (OB.ptr o3)) ?_
     refine L_ld (c := kH) rfl rfl .plain (fun _ _ h => ⟨h.ch, fun b hb _ => h.below.block b hb⟩) dK rfl ?_
     refine L_p (.int .i64 (z2)) rfl rfl (Zk rfl) ?_
     refine L_p (ePtr kH z2 1) rfl rfl (Zh (α := Int) Try.underlying22 Try.sizeOf3 rfl lH rfl aG) ?_
     refine L_ld (c := .int .i64 (pF)) rfl rfl .plain (fun _ _ h => h.ch) eK rfl ?_
     refine L_p (.int .i64 (m7)) rfl rfl (P_int rfl rfl (congrArg (Option.map (Value.int .i64)) lK)) ?_
     refine L_p (.int .i64 ((w64 ((1 : Int) + m7)))) rfl rfl (P_int rfl rfl rfl) ?_
     refine L_p (fPtr r8 2) rfl rfl (P_indexAddrA (α := UInt8) (i := (2 : Int)) Try.underlying127 Try.sizeOf5 rfl (OB.ptr b2668) rfl (idx_vec (v := d3) (i := 2) (by decide))) ?_
     refine L_ld (c := .int .u8 (UInt8.toNat ((d3)[2]))) rfl rfl .plain (fun _ _ h => ⟨h.ch, fun b hb _ => h.below.block b hb⟩) mK rfl ?_
     refine L_p (.int .i64 ((((d3)[2]).toNat : Int))) rfl rfl (P_u8int Try.underlying5 Try.underlying3 rfl) ?_
     refine L_p (.int .i64 (a7)) rfl rfl (P_int rfl rfl (congrArg (Option.map (Value.int .i64)) nK)) ?_
     refine L_p (fPtr r8 3) rfl rfl (P_indexAddrA (α := UInt8) (i := (3 : Int)) Try.underlying127 Try.sizeOf5 rfl (OB.ptr b2668) rfl (idx_vec (v := d3) (i := 3) (by decide))) ?_
     refine L_ld (c := .int .u8 (UInt8.toNat ((d3)[3]))) rfl rfl .plain (fun _ _ h => ⟨h.ch, fun b hb _ => h.below.block b hb⟩) oK rfl ?_
     refine L_p (.int .i64 ((((d3)[3]).toNat : Int))) rfl rfl (P_u8int Try.underlying5 Try.underlying3 rfl) ?_
     refine L_p (.int .i64 (u3)) rfl rfl (P_int rfl rfl (congrArg (Option.map (Value.int .i64)) pK)) ?_
     refine L_p (.int .i64 ((w64 ((1 : Int) + u3)))) rfl rfl (P_int rfl rfl rfl) ?_
     refine L_p mH rfl rfl (qK ▸ P_build (vs := [(0, .int .i64 ((w64 ((1 : Int) + m7)))), (1, .int .i64 (a7)), (2, .int .i64 ((w64 ((1 : Int) + u3))))]) [[.int .i64 0], [.int .i64 0], [.int .i64 0], [.int .i64 0], [.int .i64 0]] lay_82 rfl rfl (.cons rfl (.cons rfl (.cons rfl .nil))) ⟨⟨_, rfl, rfl⟩, ⟨⟨_, rfl, rfl⟩, ⟨⟨_, rfl, rfl⟩, trivial⟩⟩⟩) ?_
     refine L_do (φ := fun v g w => OB 2014 g w 82 (⟨0, 0, 0, 0, 0⟩ : LoomOrder) v) rfl rfl .plain (fun g w hd => D_allocX (g := g) 2014 (⟨0, 0, 0, 0, 0⟩ : LoomOrder) Try.zeroValue82 (fun m w => ⟨_, (rep_two rep_int (rep_two rep_int (rep_two rep_int (rep_two rep_int rep_int)))), rfl⟩) fun g' w' v hs b => ⟨g', hs, b⟩) (fun k8 hv => ?_)
     clear hv
     refine L_nil fun oM cQ hall => ?_
     have hs := hall.1
     have hfr := hfr.ext hs
     have l5 := l5.ext hs
     have u2_0_1838 := u2_0_1838.ext hs
     have t5 := t5.ext hs
     have u5_0_1838 := u5_0_1838.ext hs
     have o3 := o3.ext hs
     have x5 := x5.ext hs
     have i6 := i6.ext hs
     have j6 := j6.ext hs
     have x6 := x6.ext hs
     have q5 := q5.ext hs
     have j1 := j1.ext hs
     have b2668 := b2668.ext hs
     have aC := aC.ext hs
     have b2729 := (word_all (A := fun g w => OB 2014 g w 82 (⟨0, 0, 0, 0, 0⟩ : LoomOrder) k8) 20 rfl hall)
     clear hs hall
     refine Ze .plain rfl (D_storeOc (g := oM) (v := mH) Try.sizeOf82 rfl b2729 rfl aC fun pM dQ hs b2730 cb => ?_)
     clear cb
     have hfr := hfr.stp hs
     have l5 := l5.stp hs
     have u2_0_1838 := u2_0_1838.stp hs rfl
     have t5 := t5.stp hs rfl
     have u5_0_1838 := u5_0_1838.stp hs rfl
     have o3 := o3.stp hs rfl
     have x5 := x5.stp hs
     have i6 := i6.stp hs rfl
     have j6 := j6.stp hs
     have x6 := x6.stp hs rfl
     have q5 := q5.stp hs rfl
     have j1 := j1.stp hs rfl
     have b2668 := b2668.stp hs rfl
     refine Zb (Zd (Zf ?_))
     obtain ⟨k9, bG, h⟩ := bsome h
     obtain ⟨hi2732, he2732⟩ := vat_idx bG
     refine L_loadOD (x := .tmp 89) (SubS.dyn hi2732).1 he2732 Try.isAgg3 Try.sizeOf3 q5 fun eQ qM sK => ?_
     obtain rfl := Zj.1 qM
     refine L_loadO (x := .tmp 91) (SubS.vec (β := UInt8) (n := 6) (i := 0) (by decide)).1 Try.isAgg5 Try.sizeOf5 b2668 fun gQ rM tK => ?_
     obtain rfl := RV_u8.1 rM
     obtain ⟨qF, uK, h⟩ := bsome h
     obtain ⟨l9, vK, h⟩ := bsome h
     refine E_drawL (g := pM) (n := 10) [] [0, 1, 2, 3, 4, 5, 6, 7, 8, 9] rfl mixed (by kernel_rfl) trivial ?_
     refine L_p (.int .i64 (z2)) rfl rfl (Zk rfl) ?_
     refine L_p (fPtr l8 ((z2 : Int).toNat * 1)) rfl rfl (P_indexAddrA (α := Int) Try.underlying126 Try.sizeOf3 nB (OB.ptr q5) rfl bG) ?_
     refine L_ld (c := .int .i64 (k9)) rfl rfl .plain (fun _ _ h => ⟨h.ch, fun b hb _ => h.below.block b hb⟩) sK rfl ?_
     refine L_p (fPtr r8 0) rfl rfl (P_indexAddrA (α := UInt8) (i := (0 : Int)) Try.underlying127 Try.sizeOf5 rfl (OB.ptr b2668) rfl (idx_vec (v := d3) (i := 0) (by decide))) ?_
     refine L_ld (c := .int .u8 (UInt8.toNat ((d3)[0]))) rfl rfl .plain (fun _ _ h => ⟨h.ch, fun b hb _ => h.below.block b hb⟩) tK rfl ?_
     refine L_p (.int .i64 ((((d3)[0]).toNat : Int))) rfl rfl (P_u8int Try.underlying5 Try.underlying3 rfl) ?_
     refine L_p (.int .i64 (qF)) rfl rfl (P_int rfl rfl (congrArg (Option.map (Value.int .i64)) uK)) ?_
     refine L_p (.int .i64 (l9)) rfl rfl (P_int rfl rfl (congrArg (Option.map (Value.int .i64)) vK)) ?_
     refine L_p (.int .i64 ((w64 (k9 + l9)))) rfl rfl (P_int rfl rfl rfl) ?_
     refine L_p (.int .i64 ((w64 (k9 + l9)))) rfl rfl (P_assign rfl) ?_
     refine L_nl fun nH iQ hs => ?_
     have hfr := hfr.ext hs
     have l5 := l5.ext hs
     have u2_0_1838 := u2_0_1838.ext hs
     have t5 := t5.ext hs
     have u5_0_1838 := u5_0_1838.ext hs
     have o3 := o3.ext hs
     have x5 := x5.ext hs
     have i6 := i6.ext hs
     have j6 := j6.ext hs
     have x6 := x6.ext hs
     have q5 := q5.ext hs
     have j1 := j1.ext hs
     have b2668 := b2668.ext hs
     have b2730 := b2730.ext hs
     clear hs
     refine Zb (Zd ?_)
     obtain ⟨o0, hx, h⟩ := bsome h
     refine E_join (fun e w => ∃ (g : Gh) , Fr gI wI g w ∧ e 1 = p1 ∧ PT g.m w (x0 : Hall) p1 ∧ e 2 = p2 ∧ OB 2002 g w 24 ((⟨[], 0⟩ : LoomMill) : LoomMill) p2 ∧ OSF 2002 60200 0 g w 3 24 (((⟨[], 0⟩ : LoomMill)).Widths) p2 ∧ e 5 = p7 ∧ OB 2005 g w 24 (j3 : LoomMill) p7 ∧ OSF 2005 60500 0 g w 3 24 ((j3).Widths) p7 ∧ e 7 = d7 ∧ RV g.m w (n7 : List LoomOrder) d7 ∧ OS 3041 g w 82 (n7 : List LoomOrder) d7 ∧ e 8 = e7 ∧ RV g.m w (o7 : List LoomRun) e7 ∧ OS 3042 g w 76 (o7 : List LoomRun) e7 ∧ e 9 = l8 ∧ OB 2009 g w 126 (c7 : Vector Int 3) l8 ∧ e 10 = m8 ∧ OB 2010 g w 126 (i8 : Vector Int 3) m8 ∧ e 11 = .int .i64 (u0) ∧ e 12 = r8 ∧ OB 2012 g w 127 (d3 : Vector UInt8 6) r8 ∧ e 13 = .int .i64 (z2) ∧ e 14 = k8 ∧ OB 2014 g w 82 ((⟨(w64 ((1 : Int) + m7)), a7, (w64 ((1 : Int) + u3)), 0, 0⟩ : LoomOrder) : LoomOrder) k8 ∧ e 15 = .int .i64 (o0)) (fun Q' hQ => ?_) (fun eP jQ hR => ?_)
     ·replace h := hx
      clear hx
      obtain ⟨i9, hx, h⟩ := bsome h
      refine E_join (fun e w => ∃ (g : Gh) , Fr gI wI g w ∧ e 1 = p1 ∧ PT g.m w (x0 : Hall) p1 ∧ e 2 = p2 ∧ OB 2002 g w 24 ((⟨[], 0⟩ : LoomMill) : LoomMill) p2 ∧ OSF 2002 60200 0 g w 3 24 (((⟨[], 0⟩ : LoomMill)).Widths) p2 ∧ e 5 = p7 ∧ OB 2005 g w 24 (j3 : LoomMill) p7 ∧ OSF 2005 60500 0 g w 3 24 ((j3).Widths) p7 ∧ e 7 = d7 ∧ RV g.m w (n7 : List LoomOrder) d7 ∧ OS 3041 g w 82 (n7 : List LoomOrder) d7 ∧ e 8 = e7 ∧ RV g.m w (o7 : List LoomRun) e7 ∧ OS 3042 g w 76 (o7 : List LoomRun) e7 ∧ e 9 = l8 ∧ OB 2009 g w 126 (c7 : Vector Int 3) l8 ∧ e 10 = m8 ∧ OB 2010 g w 126 (i8 : Vector Int 3) m8 ∧ e 11 = .int .i64 (u0) ∧ e 12 = r8 ∧ OB 2012 g w 127 (d3 : Vector UInt8 6) r8 ∧ e 13 = .int .i64 (z2) ∧ e 14 = k8 ∧ OB 2014 g w 82 ((⟨(w64 ((1 : Int) + m7)), a7, (w64 ((1 : Int) + u3)), 0, 0⟩ : LoomOrder) : LoomOrder) k8 ∧ e 15 = .int .i64 ((w64 (k9 + l9))) ∧ e 108 = .bool (i9)) (fun Q' hQ => ?_) (fun gP kQ hR => ?_)
      ·replace h := hx
       clear hx
       obtain ⟨d9, kC, h⟩ := bsome h
       obtain ⟨hi3219, he3219⟩ := vat_idx kC
       refine L_loadOD (x := .tmp 98) (SubS.dyn hi3219).1 he3219 Try.isAgg3 Try.sizeOf3 j1 fun lQ sM cG => ?_
       obtain rfl := Zj.1 sM
       rcases Zt h with ⟨n8, h⟩ | ⟨n8, h⟩
       ·obtain ⟨dB, dG, h⟩ := bsome h
        obtain ⟨hi3223, he3223⟩ := vat_idx dG
        refine L_loadOD (x := .tmp 103) (SubS.dyn hi3223).1 he3223 Try.isAgg3 Try.sizeOf3 j1 fun mQ tM xK => ?_
        obtain rfl := Zj.1 tM
        refine L_loadO (x := .tmp 105) part_LoomOrder_1.1 Try.isAgg3 Try.sizeOf3 b2730 fun nQ uM yK => ?_
        obtain rfl := Zj.1 uM
        refine E_drawL (g := nH) (n := 12) [] [0, 1, 2, 3, 4, 5, 6, 7, 8, 9, 10, 11] rfl mixed (by kernel_rfl) trivial ?_
        refine L_p (.int .i64 (z2)) rfl rfl (Zk rfl) ?_
        refine L_p (fPtr m8 ((z2 : Int).toNat * 1)) rfl rfl (P_indexAddrA (α := Int) Try.underlying126 Try.sizeOf3 y9 (OB.ptr j1) rfl kC) ?_
        refine L_ld (c := .int .i64 (d9)) rfl rfl .plain (fun _ _ h => ⟨h.ch, fun b hb _ => h.below.block b hb⟩) cG rfl ?_
        refine L_p (.bool ((decide (d9 ≥ (0 : Int))))) rfl rfl (P_int rfl rfl rfl) ?_
        refine L_p (.bool ((decide (d9 ≥ (0 : Int))))) rfl rfl (Zk rfl) ?_
        refine L_y (.int .i64 (z2)) rfl rfl rfl rfl n8 (Zk rfl) ?_
        refine L_y (fPtr m8 ((z2 : Int).toNat * 1)) rfl rfl rfl rfl n8 (P_indexAddrA (α := Int) Try.underlying126 Try.sizeOf3 y9 (OB.ptr j1) rfl dG) ?_
        refine L_ld (c := .int .i64 (dB)) rfl rfl (.yes2 rfl rfl n8) (fun _ _ h => ⟨h.ch, fun b hb _ => h.below.block b hb⟩) xK rfl ?_
        refine L_y (fPtr k8 1) rfl rfl rfl rfl n8 (Zc at_82_1 rfl (OB.ptr b2730)) ?_
        refine L_ld (c := .int .i64 (a7)) rfl rfl (.yes2 rfl rfl n8) (fun _ _ h => ⟨h.ch, fun b hb _ => h.below.block b hb⟩) yK rfl ?_
        refine L_y (.bool ((dB != a7))) rfl rfl rfl rfl n8 (P_int rfl rfl rfl) ?_
        refine L_p (.bool ((dB != a7))) rfl rfl (Zl (b := (decide (d9 ≥ (0 : Int)))) rfl (pick_t n8 rfl)) ?_
        refine L_nl fun vM oQ hs => ?_
        have hfr := hfr.ext hs
        have l5 := l5.ext hs
        have u2_0_1838 := u2_0_1838.ext hs
        have t5 := t5.ext hs
        have u5_0_1838 := u5_0_1838.ext hs
        have o3 := o3.ext hs
        have x5 := x5.ext hs
        have i6 := i6.ext hs
        have j6 := j6.ext hs
        have x6 := x6.ext hs
        have q5 := q5.ext hs
        have j1 := j1.ext hs
        have b2668 := b2668.ext hs
        have b2730 := b2730.ext hs
        clear hs
        refine Zb ?_
        obtain rfl := sinj h
        exact hQ _ _ ⟨vM, hfr, mB, l5, jE, t5, u2_0_1838, yA, o3, u5_0_1838, kE, x5, i6, lE, j6, x6, nB, q5, y9, j1, aB, rfl, b2668, rfl, rfl, b2730, rfl, rfl⟩
       ·refine E_drawL (g := nH) (n := 12) [] [0, 1, 2, 3, 4, 5, 6, 7, 8, 9, 10, 11] rfl mixed (by kernel_rfl) trivial ?_
        refine L_p (.int .i64 (z2)) rfl rfl (Zk rfl) ?_
        refine L_p (fPtr m8 ((z2 : Int).toNat * 1)) rfl rfl (P_indexAddrA (α := Int) Try.underlying126 Try.sizeOf3 y9 (OB.ptr j1) rfl kC) ?_
        refine L_ld (c := .int .i64 (d9)) rfl rfl .plain (fun _ _ h => ⟨h.ch, fun b hb _ => h.below.block b hb⟩) cG rfl ?_
        refine L_p (.bool ((decide (d9 ≥ (0 : Int))))) rfl rfl (P_int rfl rfl rfl) ?_
        refine L_p (.bool ((decide (d9 ≥ (0 : Int))))) rfl rfl (Zk rfl) ?_
        iterate 6 refine L_s rfl rfl rfl n8 rfl ?_
        refine L_p (.bool false) rfl rfl (Zl (b := (decide (d9 ≥ (0 : Int)))) rfl (pick_f n8 rfl)) ?_
        refine L_nl fun xM pQ hs => ?_
        have hfr := hfr.ext hs
        have l5 := l5.ext hs
        have u2_0_1838 := u2_0_1838.ext hs
        have t5 := t5.ext hs
        have u5_0_1838 := u5_0_1838.ext hs
        have o3 := o3.ext hs
        have x5 := x5.ext hs
        have i6 := i6.ext hs
        have j6 := j6.ext hs
        have x6 := x6.ext hs
        have q5 := q5.ext hs
        have j1 := j1.ext hs
        have b2668 := b2668.ext hs
        have b2730 := b2730.ext hs
        clear hs
        refine Zb ?_
        obtain rfl := sinj h
        exact hQ _ _ ⟨xM, hfr, mB, l5, jE, t5, u2_0_1838, yA, o3, u5_0_1838, kE, x5, i6, lE, j6, x6, nB, q5, y9, j1, aB, rfl, b2668, rfl, rfl, b2730, rfl, rfl⟩
      ·clear hx
       obtain ⟨yF, hfr, mE, nE, oE, rE, u2_0_3359, oB, zA, u5_0_3359, sE, tE, uE, vE, xE, yE, zE, cF, lC, mC, qC, rC, tC, uC, vC, xC, yC, xB⟩ := hR
       rcases Zt h with ⟨aD, h⟩ | ⟨aD, h⟩
       ·refine E_cond_true (Eq.trans (show ev _ _ = .bool (i9) from xB) (congrArg Value.bool aD)) ?_
        refine Za (Zo yC rfl ?_)
        refine EL_p (fPtr p7 1) (Zc at_24_1 oB (OB.ptr zA)) rfl ?_
        refine Ze .plain rfl (D_loadF (g := yF) part_LoomMill_1.1 Try.isAgg3 Try.sizeOf3 rfl zA fun qQ yM => ?_)
        obtain rfl := Zj.1 yM
        refine EL_in (.int .i64 ((w64 ((w64 (k9 + l9)) + (j3).Change)))) rfl rfl rfl rfl ?_
        refine Zg (.int .i64 ((w64 ((w64 (k9 + l9)) + (j3).Change)))) rfl rfl ?_
        refine Zb ?_
        obtain rfl := sinj h
        exact hQ _ _ ⟨yF, hfr, mE, nE, oE, rE, u2_0_3359, oB, zA, u5_0_3359, sE, tE, uE, vE, xE, yE, zE, cF, lC, mC, qC, rC, tC, uC, vC, xC, rfl⟩
       ·refine E_cond_false (Eq.trans (show ev _ _ = .bool (i9) from xB) (congrArg Value.bool aD)) ?_
        refine Zu ?_
        obtain rfl := sinj h
        exact hQ _ _ ⟨yF, hfr, mE, nE, oE, rE, u2_0_3359, oB, zA, u5_0_3359, sE, tE, uE, vE, xE, yE, zE, cF, lC, mC, qC, rC, tC, uC, vC, xC, yC⟩
     ·clear hx
      obtain ⟨rQ, hfr, yH, z3, zH, z4, u2_0_3363, aI, i5, u5_0_3363, bI, x8, y8, cI, i7, j7, dF, y6, bD, i3, cD, eD, mA, bB, a9, cB, nA⟩ := hR
      refine Zf (L_loadO (x := .tmp 114) (SubS.vec (β := UInt8) (n := 6) (i := 4) (by decide)).1 Try.isAgg5 Try.sizeOf5 mA fun sQ zM zK => ?_)
      obtain rfl := RV_u8.1 zM
      obtain ⟨e9, aL, h⟩ := bsome h
      refine L_loadO (x := .tmp 124) (SubS.vec (β := UInt8) (n := 6) (i := 5) (by decide)).1 Try.isAgg5 Try.sizeOf5 mA fun tQ bN bL => ?_
      obtain rfl := RV_u8.1 bN
      obtain ⟨eB, cL, h⟩ := bsome h
      refine E_drawB (a0 := ((⟨(w64 ((1 : Int) + m7)), a7, (w64 ((1 : Int) + u3)), 0, 0⟩ : LoomOrder) : LoomOrder)) (a1 := ((⟨(w64 ((1 : Int) + m7)), a7, (w64 ((1 : Int) + u3)), (max64 (0 : Int) (w64 (o0 - e9))), 0⟩ : LoomOrder) : LoomOrder)) cB (n := 18) [(17, (fun _ g w => OB 2014 g w 82 ((⟨(w64 ((1 : Int) + m7)), a7, (w64 ((1 : Int) + u3)), (max64 (0 : Int) (w64 (o0 - e9))), 0⟩ : LoomOrder) : LoomOrder) k8))] [0, 1, 2, 3, 4, 5, 6, 7, 8, 9, 10, 11, 12, 13, 14, 15, 16, 17] rfl mixed (by kernel_rfl) (⟨fun _ => up_box, trivial⟩) ?_
      refine L_p (.int .i64 (o0)) rfl rfl (Zk nA) ?_
      refine L_p (fPtr r8 4) rfl rfl (P_indexAddrA (α := UInt8) (i := (4 : Int)) Try.underlying127 Try.sizeOf5 eD (OB.ptr mA) rfl (idx_vec (v := d3) (i := 4) (by decide))) ?_
      refine L_ld (c := .int .u8 (UInt8.toNat ((d3)[4]))) rfl rfl .plain (fun _ _ h => ⟨h.1.ch, fun b hb ho => h.1.block b hb (by rw [ho]; decide)⟩) zK rfl ?_
      refine L_p (.int .i64 ((((d3)[4]).toNat : Int))) rfl rfl (P_u8int Try.underlying5 Try.underlying3 rfl) ?_
      refine L_p (.int .i64 (e9)) rfl rfl (P_int rfl rfl (congrArg (Option.map (Value.int .i64)) aL)) ?_
      refine L_p (.int .i64 ((w64 (o0 - e9)))) rfl rfl (P_int rfl rfl rfl) ?_
      refine L_p (.int .i64 (max64 (0 : Int) (w64 (o0 - e9)))) rfl rfl (P_max rfl rfl) ?_
      refine L_p (.int .i64 (o0)) rfl rfl (Zk nA) ?_
      refine L_p (fPtr k8 2) rfl rfl (Zc at_82_2 a9 (OB.ptr cB)) ?_
      refine L_val (c := .int .i64 ((w64 ((1 : Int) + u3)))) rfl rfl .plain (fun g w hd => loadAB part_LoomOrder_2.1 (by rfl) (by rfl) Zj.1 Try.isAgg3 Try.sizeOf3 rfl hd.1.2) ?_
      refine L_p (.int .i64 ((w64 (o0 + (w64 ((1 : Int) + u3)))))) rfl rfl (P_int rfl rfl rfl) ?_
      refine L_p (fPtr r8 5) rfl rfl (P_indexAddrA (α := UInt8) (i := (5 : Int)) Try.underlying127 Try.sizeOf5 eD (OB.ptr mA) rfl (idx_vec (v := d3) (i := 5) (by decide))) ?_
      refine L_ld (c := .int .u8 (UInt8.toNat ((d3)[5]))) rfl rfl .plain (fun _ _ h => ⟨h.1.ch, fun b hb ho => h.1.block b hb (by rw [ho]; decide)⟩) bL rfl ?_
      refine L_p (.int .i64 ((((d3)[5]).toNat : Int))) rfl rfl (P_u8int Try.underlying5 Try.underlying3 rfl) ?_
      refine L_p (.int .i64 (eB)) rfl rfl (P_int rfl rfl (congrArg (Option.map (Value.int .i64)) cL)) ?_
      refine L_p (.int .i64 ((w64 ((w64 (o0 + (w64 ((1 : Int) + u3)))) + eB)))) rfl rfl (P_int rfl rfl rfl) ?_
      refine L_p (fPtr k8 3) rfl rfl (Zc at_82_3 a9 (OB.ptr cB)) ?_
      refine L_do (φ := fun _ g w => OB 2014 g w 82 ((⟨(w64 ((1 : Int) + m7)), a7, (w64 ((1 : Int) + u3)), (max64 (0 : Int) (w64 (o0 - e9))), 0⟩ : LoomOrder) : LoomOrder) k8) rfl rfl .plain (fun g w hd => D_storeR (g := g) (by rfl) (by exact rfl) part_LoomOrder_3 Try.sizeOf3 rfl hd.1.2 rfl (Zj.2 rfl)) (fun uQ hv => ?_)
      clear hv
      refine L_nil fun cN vQ hall => ?_
      have hs := hall.1.1
      have hfr := hfr.stp hs
      have z3 := z3.stp hs
      have u2_0_3363 := u2_0_3363.stp hs rfl
      have z4 := z4.stp hs rfl
      have u5_0_3363 := u5_0_3363.stp hs rfl
      have i5 := i5.stp hs rfl
      have x8 := x8.stp hs
      have y8 := y8.stp hs rfl
      have i7 := i7.stp hs
      have j7 := j7.stp hs rfl
      have y6 := y6.stp hs rfl
      have i3 := i3.stp hs rfl
      have b3389 := (word_all (A := fun g w => OB 2014 g w 82 ((⟨(w64 ((1 : Int) + m7)), a7, (w64 ((1 : Int) + u3)), (max64 (0 : Int) (w64 (o0 - e9))), 0⟩ : LoomOrder) : LoomOrder) k8) 17 rfl hall)
      clear hs hall
      refine EL_p (fPtr k8 4) (Zc at_82_4 a9 (OB.ptr b3389)) rfl ?_
      refine Ze .plain rfl (D_storeFc (g := cN) part_LoomOrder_4 Try.sizeOf3 rfl b3389 rfl (Zj.2 rfl) fun oH xQ hs b3409 rst hos => ?_)
      clear rst hos
      have hfr := hfr.stp hs
      have z3 := z3.stp hs
      have u2_0_3363 := u2_0_3363.stp hs rfl
      have z4 := z4.stp hs rfl
      have u5_0_3363 := u5_0_3363.stp hs rfl
      have i5 := i5.stp hs rfl
      have x8 := x8.stp hs
      have y8 := y8.stp hs rfl
      have i7 := i7.stp hs
      have j7 := j7.stp hs rfl
      have y6 := y6.stp hs rfl
      have i3 := i3.stp hs rfl
      refine Zb (Zd (Zf (Za (Zo bI rfl ?_))))
      refine Ze .plain rfl (D_loadO (g := oH) Try.isAgg82 Try.sizeOf82 a9 b3409 fun dN eN => ?_)
      refine Ze .plain rfl (D_buildSlice (g := oH) 3133 (xs := ([(⟨(w64 ((1 : Int) + m7)), a7, (w64 ((1 : Int) + u3)), (max64 (0 : Int) (w64 (o0 - e9))), (w64 ((w64 (o0 + (w64 ((1 : Int) + u3)))) + eB))⟩ : LoomOrder)] : List LoomOrder)) (vs := [dN]) Try.underlying25 Try.sizeOf82 Try.zeroValue82 rfl rfl (.cons rfl .nil) (RVs.cons eN RVs.nil) rfl rfl fun gN yQ zQ hs o3411 iN hxt hfl => ?_)
      have hfr := hfr.stp hs
      have z3 := z3.stp hs
      have u2_0_3363 := u2_0_3363.stp hs rfl
      have z4 := z4.stp hs rfl
      have u5_0_3363 := u5_0_3363.stp hs rfl
      have i5 := i5.stp hs rfl
      have x8 := x8.stp hs
      have y8 := y8.stp hs rfl
      have i7 := i7.stp hs
      have j7 := j7.stp hs rfl
      have y6 := y6.stp hs rfl
      have i3 := i3.stp hs rfl
      have b3409 := b3409.stp hs rfl
      obtain ⟨tG, dL, h⟩ := bsome h
      refine Ze .plain rfl (D_append (g := gN) (i := 3041) Try.underlying25 info_82 rfl rfl y8 x8 rfl iN dL fun jN aR pH hs o3412 t8 _ => ?_)
      have hfr := hfr.stp hs
      have z3 := z3.stp hs
      have u2_0_3363 := u2_0_3363.stp hs rfl
      have z4 := z4.stp hs rfl
      have u5_0_3363 := u5_0_3363.stp hs rfl
      have i5 := i5.stp hs rfl
      have i7 := i7.stp hs
      have j7 := j7.stp hs rfl
      have y6 := y6.stp hs rfl
      have i3 := i3.stp hs rfl
      have b3409 := b3409.stp hs rfl
      refine Zo cI rfl ?_
      refine Zo cD rfl ?_
      refine Zo bB rfl ?_
      refine Zo nA rfl ?_
      obtain ⟨rF, eL, h⟩ := bsome h
      refine Ze .plain rfl (Zp (g := jN) (vs := [.int .i64 (u0), .int .i64 (z2), .int .i64 (o0)]) en46 (.cons rfl (.cons rfl (.cons rfl .nil))) (wk46  eL) fun kN iP lN hs hr => ?_)
      have hfr := hfr.ext hs
      have z3 := z3.ext hs
      have u2_0_3363 := u2_0_3363.ext hs
      have z4 := z4.ext hs
      have u5_0_3363 := u5_0_3363.ext hs
      have i5 := i5.ext hs
      have i7 := i7.ext hs
      have j7 := j7.ext hs
      have y6 := y6.ext hs
      have i3 := i3.ext hs
      have b3409 := b3409.ext hs
      have t8 := t8.ext hs
      have o3412 := o3412.ext hs
      have mN := hr
      refine Ze .plain rfl (D_buildSlice (g := kN) 3140 (xs := ([rF] : List LoomRun)) (vs := [lN]) Try.underlying31 Try.sizeOf76 Try.zeroValue76 rfl rfl (.cons rfl .nil) (RVs.cons mN RVs.nil) rfl rfl fun nN bR cR hs o3416 oN hxt hfl => ?_)
      have hfr := hfr.stp hs
      have z3 := z3.stp hs
      have u2_0_3363 := u2_0_3363.stp hs rfl
      have z4 := z4.stp hs rfl
      have u5_0_3363 := u5_0_3363.stp hs rfl
      have i5 := i5.stp hs rfl
      have i7 := i7.stp hs
      have j7 := j7.stp hs rfl
      have y6 := y6.stp hs rfl
      have i3 := i3.stp hs rfl
      have b3409 := b3409.stp hs rfl
      have t8 := t8.stp hs
      have o3412 := o3412.stp hs rfl
      obtain ⟨uG, gL, h⟩ := bsome h
      refine Ze .plain rfl (D_append (g := nN) (i := 3042) Try.underlying31 info_76 rfl rfl j7 i7 rfl oN gL fun dR eR qH hs o3417 iB _ => ?_)
      have hfr := hfr.stp hs
      have z3 := z3.stp hs
      have u2_0_3363 := u2_0_3363.stp hs rfl
      have z4 := z4.stp hs rfl
      have u5_0_3363 := u5_0_3363.stp hs rfl
      have i5 := i5.stp hs rfl
      have y6 := y6.stp hs rfl
      have i3 := i3.stp hs rfl
      have b3409 := b3409.stp hs rfl
      have t8 := t8.stp hs
      have o3412 := o3412.stp hs rfl
      refine Zg pH rfl rfl ?_
      refine Zg qH rfl rfl ?_
      refine Zb (Zd (L_loadO (x := .tmp 145) part_LoomOrder_2.1 Try.isAgg3 Try.sizeOf3 b3409 fun gR pN iL => ?_))
      obtain rfl := Zj.1 pN
      refine L_loadO (x := .tmp 148) part_LoomOrder_1.1 Try.isAgg3 Try.sizeOf3 b3409 fun iR qN jL => ?_
      obtain rfl := Zj.1 qN
      obtain ⟨lL, eG, h⟩ := bsome h
      obtain ⟨hi3428, he3428⟩ := vat_idx eG
      refine E_drawB (a0 := (c7 : Vector Int 3)) (a1 := ((vset c7 z2 ((w64 (o0 + (w64 ((1 : Int) + u3)))))) : Vector Int 3)) y6 (n := 10) [(9, (fun _ g w => OB 2009 g w 126 ((vset c7 z2 ((w64 (o0 + (w64 ((1 : Int) + u3)))))) : Vector Int 3) l8))] [0, 1, 2, 3, 4, 5, 6, 7, 8, 9] rfl mixed (by kernel_rfl) (⟨fun _ => up_box, trivial⟩) ?_
      refine L_p (.int .i64 (z2)) rfl rfl (Zk bB) ?_
      refine L_p (.int .i64 (z2)) rfl rfl (Zk bB) ?_
      refine L_p (.int .i64 (o0)) rfl rfl (Zk nA) ?_
      refine L_p (fPtr k8 2) rfl rfl (Zc at_82_2 a9 (OB.ptr b3409)) ?_
      refine L_ld (c := .int .i64 ((w64 ((1 : Int) + u3)))) rfl rfl .plain (fun _ _ h => ⟨h.1.ch, fun b hb ho => h.1.block b hb (by rw [ho]; decide)⟩) iL rfl ?_
      refine L_p (.int .i64 ((w64 (o0 + (w64 ((1 : Int) + u3)))))) rfl rfl (P_int rfl rfl rfl) ?_
      refine L_p (fPtr k8 1) rfl rfl (Zc at_82_1 a9 (OB.ptr b3409)) ?_
      refine L_ld (c := .int .i64 (a7)) rfl rfl .plain (fun _ _ h => ⟨h.1.ch, fun b hb ho => h.1.block b hb (by rw [ho]; decide)⟩) jL rfl ?_
      refine L_p (fPtr l8 ((z2 : Int).toNat * 1)) rfl rfl (P_indexAddrA (α := Int) Try.underlying126 Try.sizeOf3 dF (OB.ptr y6) rfl eG) ?_
      refine L_do (φ := fun _ g w => OB 2009 g w 126 ((vset c7 z2 ((w64 (o0 + (w64 ((1 : Int) + u3)))))) : Vector Int 3) l8) rfl rfl .plain (fun g w hd => D_storeRD (g := g) hi3428 Try.sizeOf3 rfl hd.1.2 rfl (Zj.2 rfl)) (fun jR hv => ?_)
      clear hv
      refine L_nil fun rN kR hall => ?_
      have hs := hall.1.1
      have hfr := hfr.stp hs
      have z3 := z3.stp hs
      have u2_0_3363 := u2_0_3363.stp hs rfl
      have z4 := z4.stp hs rfl
      have u5_0_3363 := u5_0_3363.stp hs rfl
      have i5 := i5.stp hs rfl
      have t8 := t8.stp hs
      have o3412 := o3412.stp hs rfl
      have iB := iB.stp hs
      have o3417 := o3417.stp hs rfl
      have i3 := i3.stp hs rfl
      have b3437 := (word_all (A := fun g w => OB 2009 g w 126 ((vset c7 z2 ((w64 (o0 + (w64 ((1 : Int) + u3)))))) : Vector Int 3) l8) 9 rfl hall)
      clear hs hall
      obtain ⟨mL, gG, h⟩ := bsome h
      obtain ⟨hi3483, he3483⟩ := vat_idx gG
      refine EL_p (fPtr m8 ((z2 : Int).toNat * 1)) (P_indexAddrA (α := Int) Try.underlying126 Try.sizeOf3 bD (OB.ptr i3) rfl gG) rfl ?_
      refine Ze .plain rfl (D_storeFc (g := rN) (SubS.dyn hi3483) Try.sizeOf3 rfl i3 rfl (Zj.2 rfl) fun sN lR hs b3484 rst hos => ?_)
      clear rst hos
      have hfr := hfr.stp hs
      have z3 := z3.stp hs
      have u2_0_3363 := u2_0_3363.stp hs rfl
      have z4 := z4.stp hs rfl
      have u5_0_3363 := u5_0_3363.stp hs rfl
      have i5 := i5.stp hs rfl
      have t8 := t8.stp hs
      have o3412 := o3412.stp hs rfl
      have iB := iB.stp hs
      have o3417 := o3417.stp hs rfl
      have b3437 := b3437.stp hs rfl
      refine Zb (blk_n ?_)
      obtain ⟨rfl, rfl, rfl, rfl⟩ := pairs4 h
      exact hQ _ _ ⟨sN, (pH), (qH), hfr, yH, z3, zH, z4, u2_0_3363, aI, i5, u5_0_3363, rfl, t8, o3412, rfl, iB, o3417, dF, b3437, bD, b3484, cD⟩
    ·clear hx
     obtain ⟨tN, dI, iI, hfr, jI, kI, lI, mI, u2_0_3485, nI, oI, u5_0_3485, pI, qI, rI, sI, tI, uI, vI, xI, oG, pG, qG⟩ := hR
     refine Za (Zo qG rfl ?_)
     refine EL_in (.int .i64 ((w64 (u0 + (1 : Int))))) rfl rfl rfl rfl ?_
     refine Zg (.int .i64 ((w64 (u0 + (1 : Int))))) rfl rfl ?_
     exact Zb (Zd (zJ (bA, gA, rA, iA, (w64 (u0 + (1 : Int)))) _ _ ⟨tN, (dI), (iI), hfr, jI, kI, lI, mI, u2_0_3485, nI, oI, u5_0_3485, pI, qI, rI, sI, tI, uI, vI, xI, oG, pG, rfl⟩ h))
  ·clear hx
   obtain ⟨sH, eF, iF, hfr, nF, yI, u2_0_3486, zI, aJ, u5_0_3486, bJ, tB, tO, cJ, vB, uO⟩ := hR
   refine Zf (Za (Ze .plain rfl (D_loadO (g := sH) Try.isAgg24 Try.sizeOf24 zI aJ fun uN vN => ?_)))
   refine Zo bJ rfl ?_
   refine Zo cJ rfl ?_
   refine Ze .plain rfl (D_storeOc (g := sH) (v := uN) Try.sizeOf24 nF yI rfl vN fun mR nR hs b3488 cb => ?_)
   clear cb
   have hfr := hfr.stp hs
   have tB := tB.stp hs
   have vB := vB.stp hs
   refine Zg eF rfl rfl ?_
   refine Zg iF rfl rfl ?_
   refine Zb (Zd (E_ret ?_))
   obtain rfl := sinj h
   obtain ⟨ad3489, cv3489, hp3489, kL, cr3489⟩ := ob_read Try.isAgg24 Try.sizeOf24 b3488
   exact endm_ctt rfl rfl ((show _ = p2 from nF).trans hp3489) kL (show _ = eF from rfl) (show _ = iF from rfl) ⟨_, hfr, _, _, _, rfl, cr3489, tB, vB⟩
def f52 (x0 : LoomLoomMill) : Option ((List Int)) :=
 (shl64 (1 : Int) ((((x0).LoomMill).Widths).length : Int)).bind fun y5 =>
 (f59 ((w64 (y5 - (1 : Int))))).bind fun y7 =>
 some (y7)
theorem en52 : Enters Try.prog 52 := enters_of Try.func52 (by kernel_rfl) rfl
theorem wk52 {gI : Gh} {wI : World} {x0 : LoomLoomMill} {up0 : Value} (rp0 : RV gI.m wI x0 up0) {r : (List Int)} (h : f52 x0 = some r) : Fn Try.prog 52 #[up0] gI wI (fun m w v => RV m w (r) v) := by
 unfold f52 at h
 refine fn_of_E Try.func52 rfl (Nat.le_of_ble_eq_true rfl) fun g0 hm hfr => ?_
 have rp0 : RV g0.m wI x0 up0 := hm ▸ rp0
 show E _ 10 none _ _ _ _ _
 refine Zf (Za (Ze .plain rfl (D_box (g := g0) rfl rp0 fun g1 w1 p1 hs q1 => ?_)))
 have hfr := hfr.ext hs
 refine Zg (.slice none 0 0) rfl rfl ?_
 refine Zb (Zd (Zf (Za (EL_p (fPtr p1 0) (Zc at_96_0 rfl (PT.ptr q1)) rfl ?_))))
 have q2 := Zm (part_LoomLoomMill_0).1 q1
 refine EL_p (fPtr (fPtr p1 0) 0) (Zc at_24_0 rfl (PT.ptr q2)) rfl ?_
 have q3 := Zm (part_LoomMill_0).1 q2
 refine Ze .plain rfl (D_load (g := g1) Try.isAgg22 Try.sizeOf22 rfl q3 fun v4 r4 => ?_)
 refine EL_p (.int .i64 ((((x0).LoomMill).Widths).length : Int)) (P_len Try.underlying22 rfl r4) rfl ?_
 obtain ⟨y5, hy5, h⟩ := bsome h
 refine EL_p (.int .i64 (y5)) (P_int rfl rfl (congrArg (Option.map (Value.int .i64)) hy5)) rfl ?_
 refine EL_in (.int .i64 ((w64 (y5 - (1 : Int))))) rfl rfl rfl rfl ?_
 obtain ⟨y7, o0, h⟩ := bsome h
 refine Ze .plain rfl (Zp (g := g1) (vs := [.int .i64 ((w64 (y5 - (1 : Int))))]) en59 (.cons rfl .nil) (wk59  o0) fun g6 w6_ v6 hs hr => ?_)
 have hfr := hfr.ext hs
 have r6 := hr
 refine Zg v6 rfl rfl ?_
 refine Zb (Zd (E_ret ?_))
 obtain rfl := sinj h
 exact end1 rfl rfl (show _ = v6 from rfl) ⟨_, hfr, r6⟩
def f66 (x0 : LoomStill) (x1 : LoomRun) : Option (Bool) :=
 Option.bind (α := Bool) (
  bif (decide ((x1).From ≤ (((x0).LoomStop).Days).High)) then
   (f73 ((x0).mill) x1).bind fun j1 =>
   some ((decide (j1 > (((x0).LoomStop).Days).Low)))
  else
   some (false)
  ) fun u0 =>
 some (u0)
theorem en66 : Enters Try.prog 66 := enters_of Try.func66 (by kernel_rfl) rfl
theorem wk66 {gI : Gh} {wI : World} {x0 : LoomStill} {x1 : LoomRun} {up0 : Value} (rp0 : RV gI.m wI x0 up0) {up1 : Value} (rp1 : RV gI.m wI x1 up1) {r : Bool} (h : f66 x0 x1 = some r) : Fn Try.prog 66 #[up0, up1] gI wI (fun _ _ v => v = .bool (r)) := by
 unfold f66 at h
 refine fn_of_E Try.func66 rfl (Nat.le_of_ble_eq_true rfl) fun g0 hm hfr => ?_
 have rp0 : RV g0.m wI x0 up0 := hm ▸ rp0
 have rp1 : RV g0.m wI x1 up1 := hm ▸ rp1
 show E _ 23 none _ _ _ _ _
 refine Zf (Za (Ze .plain rfl (D_box (g := g0) rfl rp0 fun g1 w1 p1 hs q1 => ?_)))
 have hfr := hfr.ext hs
 have rp1 := rp1.ext hs
 refine Ze .plain rfl (D_box (g := g1) rfl rp1 fun g2 w2 p2 hs q2 => ?_)
 have hfr := hfr.ext hs
 have q1 := q1.ext hs
 refine Zg (.bool false) rfl rfl ?_
 refine Zb (Zd ?_)
 obtain ⟨u0, hx, h⟩ := bsome h
 refine E_join (fun e w => ∃ (g : Gh) , Fr gI wI g w ∧ e 4 = .bool (u0)) (fun Q' hQ => ?_) (fun i7 j7 hR => ?_)
 ·replace h := hx
  clear hx
  have j6 := Zm (part_LoomRun_2).1 q2
  refine Zs (x := .tmp 5) Try.isAgg3 Try.sizeOf3 j6 fun o7 v6 z2 => ?_
  obtain rfl := Zj.1 v6
  have d3 := Zm (part_LoomStill_1).1 q1
  have i3 := Zm (part_LoomStop_1).1 d3
  have x6 := Zm (part_Span_1).1 i3
  refine Zs (x := .tmp 9) Try.isAgg3 Try.sizeOf3 x6 fun u7 y6 j3 => ?_
  obtain rfl := Zj.1 y6
  rcases Zt h with ⟨o0, h⟩ | ⟨o0, h⟩
  ·have a7 := Zm (part_LoomStill_0).1 q1
   refine Zs (x := .tmp 13) Try.isAgg96 Try.sizeOf96 a7 fun u3 b7 l5 => ?_
   refine Zs (x := .tmp 3) Try.isAgg76 Try.sizeOf76 q2 fun z3 c7 q5 => ?_
   obtain ⟨j1, t5, h⟩ := bsome h
   have z4 := Zm (part_LoomStill_1).1 q1
   have i5 := Zm (part_LoomStop_1).1 z4
   have d7 := Zm (part_Span_0).1 i5
   refine Zs (x := .tmp 19) Try.isAgg3 Try.sizeOf3 d7 fun v7 e7 x5 => ?_
   obtain rfl := Zj.1 e7
   refine E_drawL (g := g2) (n := 19) [(11, (fun v g w => v = .int .i64 (j1)))] [0, 1, 2, 3, 4, 5, 6, 7, 8, 9, 10, 11, 12, 13, 14, 15, 16, 17, 18] rfl mixed (by kernel_rfl) (⟨fun _ => up_eq _, trivial⟩) ?_
   refine L_p (fPtr p2 2) rfl rfl (Zc at_76_2 rfl (PT.ptr q2)) ?_
   refine L_ld (c := .int .i64 ((x1).From)) rfl rfl .plain (fun _ _ h => h.ch) z2 rfl ?_
   refine L_p (fPtr p1 3) rfl rfl (Zc at_113_1 rfl (PT.ptr q1)) ?_
   refine L_p (fPtr (fPtr p1 3) 1) rfl rfl (Zc at_54_1 rfl (PT.ptr d3)) ?_
   refine L_p (fPtr (fPtr (fPtr p1 3) 1) 1) rfl rfl (Zc at_48_1 rfl (PT.ptr i3)) ?_
   refine L_ld (c := .int .i64 ((((x0).LoomStop).Days).High)) rfl rfl .plain (fun _ _ h => h.ch) j3 rfl ?_
   refine L_p (.bool ((decide ((x1).From ≤ (((x0).LoomStop).Days).High)))) rfl rfl (P_int rfl rfl rfl) ?_
   refine L_p (.bool ((decide ((x1).From ≤ (((x0).LoomStop).Days).High)))) rfl rfl (Zk rfl) ?_
   refine L_y (fPtr p1 0) rfl rfl rfl rfl o0 (Zc at_113_0 rfl (PT.ptr q1)) ?_
   refine L_ld (c := u3) rfl rfl (.yes2 rfl rfl o0) (fun _ _ h => h.ch) l5 rfl ?_
   refine L_ld (c := z3) rfl rfl (.yes2 rfl rfl o0) (fun _ _ h => h.ch) q5 rfl ?_
   refine L_do (φ := fun v g w => v = .int .i64 (j1)) rfl rfl (.yes2 rfl rfl o0) (fun g w hd => Zp (g := g) (vs := [u3, z3]) en73 (.cons rfl (.cons rfl .nil)) (wk73 (b7.ext hd.1) (c7.ext hd.1) t5) fun g' w' v hs hr => ⟨g', hs, hr⟩) (fun c8 hv => ?_)
   obtain ⟨_, _, _, rfl⟩ := hv
   refine L_y (fPtr p1 3) rfl rfl rfl rfl o0 (Zc at_113_1 rfl (PT.ptr q1)) ?_
   refine L_y (fPtr (fPtr p1 3) 1) rfl rfl rfl rfl o0 (Zc at_54_1 rfl (PT.ptr z4)) ?_
   refine L_y (fPtr (fPtr (fPtr p1 3) 1) 0) rfl rfl rfl rfl o0 (Zc at_48_0 rfl (PT.ptr i5)) ?_
   refine L_ld (c := .int .i64 ((((x0).LoomStop).Days).Low)) rfl rfl (.yes2 rfl rfl o0) (fun _ _ h => h.ch) x5 rfl ?_
   refine L_y (.bool ((decide (j1 > (((x0).LoomStop).Days).Low)))) rfl rfl rfl rfl o0 (P_int rfl rfl rfl) ?_
   refine L_p (.bool ((decide (j1 > (((x0).LoomStop).Days).Low)))) rfl rfl (Zl (b := (decide ((x1).From ≤ (((x0).LoomStop).Days).High))) rfl (pick_t o0 rfl)) ?_
   refine L_p (.bool ((decide (j1 > (((x0).LoomStop).Days).Low)))) rfl rfl (P_assign rfl) ?_
   refine L_nl fun g7 e8 hs => ?_
   have hfr := hfr.ext hs
   clear hs
   refine Zb ?_
   obtain rfl := sinj h
   exact hQ _ _ ⟨g7, hfr, rfl⟩
  ·refine E_drawL (g := g2) (n := 19) [] [0, 1, 2, 3, 4, 5, 6, 7, 8, 9, 10, 11, 12, 13, 14, 15, 16, 17, 18] rfl mixed (by kernel_rfl) trivial ?_
   refine L_p (fPtr p2 2) rfl rfl (Zc at_76_2 rfl (PT.ptr q2)) ?_
   refine L_ld (c := .int .i64 ((x1).From)) rfl rfl .plain (fun _ _ h => h.ch) z2 rfl ?_
   refine L_p (fPtr p1 3) rfl rfl (Zc at_113_1 rfl (PT.ptr q1)) ?_
   refine L_p (fPtr (fPtr p1 3) 1) rfl rfl (Zc at_54_1 rfl (PT.ptr d3)) ?_
   refine L_p (fPtr (fPtr (fPtr p1 3) 1) 1) rfl rfl (Zc at_48_1 rfl (PT.ptr i3)) ?_
   refine L_ld (c := .int .i64 ((((x0).LoomStop).Days).High)) rfl rfl .plain (fun _ _ h => h.ch) j3 rfl ?_
   refine L_p (.bool ((decide ((x1).From ≤ (((x0).LoomStop).Days).High)))) rfl rfl (P_int rfl rfl rfl) ?_
   refine L_p (.bool ((decide ((x1).From ≤ (((x0).LoomStop).Days).High)))) rfl rfl (Zk rfl) ?_
   iterate 9 refine L_s rfl rfl rfl o0 rfl ?_
   refine L_p (.bool false) rfl rfl (Zl (b := (decide ((x1).From ≤ (((x0).LoomStop).Days).High))) rfl (pick_f o0 rfl)) ?_
   refine L_p (.bool false) rfl rfl (P_assign rfl) ?_
   refine L_nl fun i6 m7 hs => ?_
   have hfr := hfr.ext hs
   clear hs
   refine Zb ?_
   obtain rfl := sinj h
   exact hQ _ _ ⟨i6, hfr, rfl⟩
 ·clear hx
  obtain ⟨n7, hfr, o3⟩ := hR
  refine E_ret ?_
  obtain rfl := sinj h
  exact end1 rfl rfl (show _ = .bool (u0) from o3) ⟨_, hfr, rfl⟩
def f69 (x0 : LoomLoomMill) (x1 : LoomRun) (x2 : Int) : Option (Int) :=
 jn (σ := Unit) (fun _ =>
  (f73 x0 x1).bind fun o0 =>
  some ((w64 (o0 + ((x0).LoomMill).Change)))
  ) fun t5 =>
 (idx ((x0).orders) (x1).Order).bind fun z2 =>
 (idx ((x0).orders) x2).bind fun d3 =>
 bif ((z2).Chain == (d3).Chain) then
  (f73 x0 x1).bind fun i3 =>
  some (i3)
 else
  t5 ()
theorem en69 : Enters Try.prog 69 := enters_of Try.func69 (by kernel_rfl) rfl
theorem wk69 {gI : Gh} {wI : World} {x0 : LoomLoomMill} {x1 : LoomRun} {x2 : Int} {up0 : Value} (rp0 : RV gI.m wI x0 up0) {up1 : Value} (rp1 : RV gI.m wI x1 up1) {r : Int} (h : f69 x0 x1 x2 = some r) : Fn Try.prog 69 #[up0, up1, .int .i64 (x2)] gI wI (fun _ _ v => v = .int .i64 (r)) := by
 unfold f69 at h
 refine fn_of_E Try.func69 rfl (Nat.le_of_ble_eq_true rfl) fun g0 hm hfr => ?_
 have rp0 : RV g0.m wI x0 up0 := hm ▸ rp0
 have rp1 : RV g0.m wI x1 up1 := hm ▸ rp1
 show E _ 31 none _ _ _ _ _
 refine Zf (Za (Ze .plain rfl (D_box (g := g0) rfl rp0 fun g1 w1 p1 hs q1 => ?_)))
 have hfr := hfr.ext hs
 have rp1 := rp1.ext hs
 refine Ze .plain rfl (D_box (g := g1) rfl rp1 fun g2 w2 p2 hs q2 => ?_)
 have hfr := hfr.ext hs
 have q1 := q1.ext hs
 refine Zg (.int .i64 (0)) rfl rfl ?_
 refine Zb (Zd (Zq h (fun (s : Unit) e w => ∃ (g : Gh) , Fr gI wI g w ∧ e 3 = p1 ∧ PT g.m w (x0 : LoomLoomMill) p1 ∧ e 4 = p2 ∧ PT g.m w (x1 : LoomRun) p2) (fun X43 t5 b7 h => ?_) ?_))
 ·refine Zf ?_
  have v7 := Zm (part_LoomLoomMill_1).1 q1
  refine Zs (x := .tmp 7) Try.isAgg25 Try.sizeOf25 v7 fun u3 x5 c7 => ?_
  have c8 := Zm (part_LoomRun_0).1 q2
  refine Zs (x := .tmp 9) Try.isAgg3 Try.sizeOf3 c8 fun i9 e8 d7 => ?_
  obtain rfl := Zj.1 e8
  obtain ⟨z2, z3, h⟩ := bsome h
  have i6 := PT_idx x5 z3
  have g8 := Zm (part_LoomOrder_1).1 i6
  refine Zs (x := .tmp 12) Try.isAgg3 Try.sizeOf3 g8 fun k9 i8 e7 => ?_
  obtain rfl := Zj.1 i8
  have k8 := Zm (part_LoomLoomMill_1).1 q1
  refine Zs (x := .tmp 14) Try.isAgg25 Try.sizeOf25 k8 fun z4 j6 g7 => ?_
  obtain ⟨d3, i5, h⟩ := bsome h
  have v6 := PT_idx j6 i5
  have l8 := Zm (part_LoomOrder_1).1 v6
  refine Zs (x := .tmp 18) Try.isAgg3 Try.sizeOf3 l8 fun l9 m8 i7 => ?_
  obtain rfl := Zj.1 m8
  refine E_drawL (g := g2) (n := 14) [] [0, 1, 2, 3, 4, 5, 6, 7, 8, 9, 10, 11, 12, 13] rfl mixed (by kernel_rfl) trivial ?_
  refine L_p (fPtr p1 2) rfl rfl (Zc at_96_1 rfl (PT.ptr q1)) ?_
  refine L_ld (c := u3) rfl rfl .plain (fun _ _ h => h.ch) c7 rfl ?_
  refine L_p (fPtr p2 0) rfl rfl (Zc at_76_0 rfl (PT.ptr q2)) ?_
  refine L_ld (c := .int .i64 ((x1).Order)) rfl rfl .plain (fun _ _ h => h.ch) d7 rfl ?_
  refine L_p (ePtr u3 (x1).Order 5) rfl rfl (Zh (α := LoomOrder) Try.underlying25 Try.sizeOf82 rfl x5 rfl z3) ?_
  refine L_p (fPtr (ePtr u3 (x1).Order 5) 1) rfl rfl (Zc at_82_1 rfl (PT.ptr i6)) ?_
  refine L_ld (c := .int .i64 ((z2).Chain)) rfl rfl .plain (fun _ _ h => h.ch) e7 rfl ?_
  refine L_p (fPtr p1 2) rfl rfl (Zc at_96_1 rfl (PT.ptr q1)) ?_
  refine L_ld (c := z4) rfl rfl .plain (fun _ _ h => h.ch) g7 rfl ?_
  refine L_p (.int .i64 (x2)) rfl rfl (Zk rfl) ?_
  refine L_p (ePtr z4 x2 5) rfl rfl (Zh (α := LoomOrder) Try.underlying25 Try.sizeOf82 rfl j6 rfl i5) ?_
  refine L_p (fPtr (ePtr z4 x2 5) 1) rfl rfl (Zc at_82_1 rfl (PT.ptr v6)) ?_
  refine L_ld (c := .int .i64 ((d3).Chain)) rfl rfl .plain (fun _ _ h => h.ch) i7 rfl ?_
  refine L_p (.bool (((z2).Chain == (d3).Chain))) rfl rfl (P_int rfl rfl rfl) ?_
  refine L_nl fun j3 n9 hs => ?_
  have hfr := hfr.ext hs
  have q1 := q1.ext hs
  have q2 := q2.ext hs
  clear hs
  refine Zb (Zd ?_)
  rcases Zt h with ⟨j1, h⟩ | ⟨j1, h⟩
  ·refine E_ct j1 rfl ?_
   refine Zf (Za (Ze .plain rfl (D_load (g := j3) Try.isAgg96 Try.sizeOf96 rfl q1 fun n8 o8 => ?_)))
   refine Ze .plain rfl (D_load (g := j3) Try.isAgg76 Try.sizeOf76 rfl q2 fun q8 r8 => ?_)
   obtain ⟨i3, j7, h⟩ := bsome h
   refine Ze .plain rfl (Zp (g := j3) (vs := [n8, q8]) en73 (.cons rfl (.cons rfl .nil)) (wk73 o8 r8 j7) fun o9 d9 t9 hs hr => ?_)
   have hfr := hfr.ext hs
   subst hr
   refine Zg (.int .i64 (i3)) rfl rfl ?_
   refine Zb (Zd (E_ret (thn_r ?_)))
   obtain rfl := sinj h
   exact end1 rfl rfl (show _ = .int .i64 (i3) from rfl) ⟨_, hfr, rfl⟩
  ·refine E_cf j1 rfl ?_
   exact Zu (Zd (b7 () _ _ ⟨j3, hfr, rfl, q1, rfl, q2⟩ h))
 ·rintro _ e9 u9 ⟨t8, hfr, o3, u0, l5, q5⟩ h
  refine Zf (Zs (x := .tmp 3) Try.isAgg96 Try.sizeOf96 u0 fun x6 v8 m7 => ?_)
  refine Zs (x := .tmp 4) Try.isAgg76 Try.sizeOf76 q5 fun y6 x8 n7 => ?_
  obtain ⟨o0, o7, h⟩ := bsome h
  have a7 := Zm (part_LoomLoomMill_0).1 u0
  have y8 := Zm (part_LoomMill_1).1 a7
  refine Zs (x := .tmp 28) Try.isAgg3 Try.sizeOf3 y8 fun y9 a9 u7 => ?_
  obtain rfl := Zj.1 a9
  refine E_drawL (g := t8) (n := 8) [(2, (fun v g w => v = .int .i64 (o0)))] [0, 1, 2, 3, 4, 5, 6, 7] rfl mixed (by kernel_rfl) (⟨fun _ => up_eq _, trivial⟩) ?_
  refine L_ld (c := x6) rfl rfl .plain (fun _ _ h => h.ch) m7 o3 ?_
  refine L_ld (c := y6) rfl rfl .plain (fun _ _ h => h.ch) n7 l5 ?_
  refine L_do (φ := fun v g w => v = .int .i64 (o0)) rfl rfl .plain (fun g w hd => Zp (g := g) (vs := [x6, y6]) en73 (.cons rfl (.cons rfl .nil)) (wk73 (v8.ext hd.1) (x8.ext hd.1) o7) fun g' w' v hs hr => ⟨g', hs, hr⟩) (fun z9 hv => ?_)
  obtain ⟨_, _, _, rfl⟩ := hv
  refine L_p (fPtr p1 0) rfl rfl (Zc at_96_0 o3 (PT.ptr u0)) ?_
  refine L_p (fPtr (fPtr p1 0) 1) rfl rfl (Zc at_24_1 rfl (PT.ptr a7)) ?_
  refine L_ld (c := .int .i64 (((x0).LoomMill).Change)) rfl rfl .plain (fun _ _ h => h.ch) u7 rfl ?_
  refine L_p (.int .i64 ((w64 (o0 + ((x0).LoomMill).Change)))) rfl rfl (P_int rfl rfl rfl) ?_
  refine L_p (.int .i64 ((w64 (o0 + ((x0).LoomMill).Change)))) rfl rfl (P_assign rfl) ?_
  refine L_nl fun bA gA hs => ?_
  have hfr := hfr.ext hs
  clear hs
  refine Zb (Zd (E_ret ?_))
  obtain rfl := sinj h
  exact end1 rfl rfl (show _ = .int .i64 ((w64 (o0 + ((x0).LoomMill).Change))) from rfl) ⟨_, hfr, rfl⟩
def f72 (x0 : List LoomRun) (x1 : LoomRun → Option Bool) : Option (Bool) :=
 (f91 x0 x1).bind fun y2 =>
 some ((decide (y2 ≥ (0 : Int))))
theorem en72 : Enters Try.prog 72 := enters_of Try.func72 (by kernel_rfl) rfl
theorem wk72 {gI : Gh} {wI : World} {x0 : List LoomRun} {x1 : LoomRun → Option Bool} {up0 : Value} (rp0 : RV gI.m wI x0 up0) {up1 : Value} (rp1 : FnV1 Try.prog x1 up1 gI wI) {r : Bool} (h : f72 x0 x1 = some r) : Fn Try.prog 72 #[up0, up1] gI wI (fun _ _ v => v = .bool (r)) := by
 unfold f72 at h
 refine fn_of_E Try.func72 rfl (Nat.le_of_ble_eq_true rfl) fun g0 hm hfr => ?_
 have rp0 : RV g0.m wI x0 up0 := hm ▸ rp0
 obtain ⟨ff1, fa1, fc1, rfl, fen1, fcl1⟩ := rp1
 show E _ 9 none _ _ _ _ _
 refine Zf (Za (Zg (.bool false) rfl rfl ?_))
 refine Zb (Zd (Zf (Za (Zn up0 rfl rfl ?_))))
 refine Zn ((.func (.func ff1) fa1 fc1)) rfl rfl ?_
 obtain ⟨y2, hy2, h⟩ := bsome h
 refine Ze .plain rfl (Zp (g := g0) (vs := [up0, (.func (.func ff1) fa1 fc1)]) en91 (.cons rfl (.cons rfl .nil)) (wk91 rp0 (FnV1.ch ⟨_, _, _, rfl, fen1, fcl1⟩ hfr.ch) hy2) fun g1 w1_ v1 hs hr => ?_)
 have hfr := hfr.ext hs
 subst hr
 refine EL_in (.bool ((decide (y2 ≥ (0 : Int))))) rfl rfl rfl rfl ?_
 refine Zg (.bool ((decide (y2 ≥ (0 : Int))))) rfl rfl ?_
 refine Zb (Zd (E_ret ?_))
 obtain rfl := sinj h
 exact end1 rfl rfl (show _ = .bool ((decide (y2 ≥ (0 : Int)))) from rfl) ⟨_, hfr, rfl⟩
def f74 (x0 : LoomMill) (x1 : List LoomOrder) (x2 : List LoomRun) (x3 : Int) : Option (Bool) :=
 (f92 x2 x3).bind fun y3 =>
 Option.bind (α := Bool) (
  bif (decide (y3 ≥ (0 : Int))) then
   (idx x2 x3).bind fun z2 =>
   (idx x2 y3).bind fun u3 =>
   (idx x2 x3).bind fun z3 =>
   (f77 x0 x1 u3 z3).bind fun j1 =>
   some ((decide ((z2).From < j1)))
  else
   some (false)
  ) fun u0 =>
 some (u0)
def f82 (x0 : List LoomOrder) (x1 : LoomOrder → Option Bool) : Option (Bool) :=
 (f97 x0 x1).bind fun y2 =>
 some ((decide (y2 ≥ (0 : Int))))
theorem en82 : Enters Try.prog 82 := enters_of Try.func82 (by kernel_rfl) rfl
theorem wk82 {gI : Gh} {wI : World} {x0 : List LoomOrder} {x1 : LoomOrder → Option Bool} {up0 : Value} (rp0 : RV gI.m wI x0 up0) {up1 : Value} (rp1 : FnV1 Try.prog x1 up1 gI wI) {r : Bool} (h : f82 x0 x1 = some r) : Fn Try.prog 82 #[up0, up1] gI wI (fun _ _ v => v = .bool (r)) := by
 unfold f82 at h
 refine fn_of_E Try.func82 rfl (Nat.le_of_ble_eq_true rfl) fun g0 hm hfr => ?_
 have rp0 : RV g0.m wI x0 up0 := hm ▸ rp0
 obtain ⟨ff1, fa1, fc1, rfl, fen1, fcl1⟩ := rp1
 show E _ 9 none _ _ _ _ _
 refine Zf (Za (Zg (.bool false) rfl rfl ?_))
 refine Zb (Zd (Zf (Za (Zn up0 rfl rfl ?_))))
 refine Zn ((.func (.func ff1) fa1 fc1)) rfl rfl ?_
 obtain ⟨y2, hy2, h⟩ := bsome h
 refine Ze .plain rfl (Zp (g := g0) (vs := [up0, (.func (.func ff1) fa1 fc1)]) en97 (.cons rfl (.cons rfl .nil)) (wk97 rp0 (FnV1.ch ⟨_, _, _, rfl, fen1, fcl1⟩ hfr.ch) hy2) fun g1 w1_ v1 hs hr => ?_)
 have hfr := hfr.ext hs
 subst hr
 refine EL_in (.bool ((decide (y2 ≥ (0 : Int))))) rfl rfl rfl rfl ?_
 refine Zg (.bool ((decide (y2 ≥ (0 : Int))))) rfl rfl ?_
 refine Zb (Zd (E_ret ?_))
 obtain rfl := sinj h
 exact end1 rfl rfl (show _ = .bool ((decide (y2 ≥ (0 : Int)))) from rfl) ⟨_, hfr, rfl⟩
def f84 (x0 : Int) : Option (It Int) :=
 some ((fun σ cons s => f99 x0 σ cons s))
theorem en84 : Enters Try.prog 84 := enters_of Try.func84 (by kernel_rfl) rfl
theorem wk84 {gI : Gh} {wI : World} {x0 : Int}  {r : It Int} (h : f84 x0 = some r) : Fn Try.prog 84 #[.int .i64 (x0)] gI wI (fun m w v => ItV Try.prog (RA1 (α := Int)) (r) v m w) := by
 unfold f84 at h
 refine fn_of_E Try.func84 rfl (Nat.le_of_ble_eq_true rfl) fun g0 hm hfr => ?_
 show E _ 4 none _ _ _ _ _
 refine Zf (Za (Ze .plain rfl (D_box (g := g0) rfl (Zj.2 rfl) fun g1 w1 p1 hs q1 => ?_)))
 have hfr := hfr.ext hs
 refine Zg (.nilFunc) rfl rfl ?_
 refine Zb (Zd (Zf (Za (EL_p ((.func (.func 99) #[] #[p1])) (P_makeFunc (capf_0_1 (show ev _ _ = p1 from rfl))) rfl ?_))))
 refine Zg ((.func (.func 99) #[] #[p1])) rfl rfl ?_
 refine Zb (Zd (E_ret ?_))
 obtain rfl := sinj h
 exact end1 rfl rfl (show _ = (.func (.func 99) #[] #[p1]) from rfl) ⟨_, hfr, (show ItV Try.prog (RA1 (α := Int)) (fun σ cons s => f99 x0 σ cons s) ((.func (.func 99) #[] #[p1])) g1.m w1 from ⟨99, #[], #[p1], rfl, en99, fun g' w' hch σ cons s s' h => wk99  (q1.ch hch) h⟩)⟩
def f90 (x0 : Int) (x1 : Int) : Option (Int) :=
 (f102 x0).bind fun y2 =>
 (f102 x1).bind fun y4 =>
 jn (σ := Unit) (fun _ =>
  jn (σ := Unit) (fun _ =>
   jn (σ := Unit) (fun _ =>
    jn (σ := Unit) (fun _ =>
     some ((0 : Int))
     ) fun l5 =>
    bif (decide (x0 > x1)) then
     some ((1 : Int))
    else
     l5 ()
    ) fun q5 =>
   bif (decide (x0 < x1)) then
    some ((-1 : Int))
   else
    q5 ()
   ) fun k18 =>
  bif y4 then
   some ((1 : Int))
  else
   k18 ()
  ) fun t5 =>
 bif y2 then
  jn (σ := Unit) (fun _ =>
   some ((-1 : Int))
   ) fun x5 =>
  bif y4 then
   some ((0 : Int))
  else
   x5 ()
 else
  t5 ()
theorem en90 : Enters Try.prog 90 := enters_of Try.func90 (by kernel_rfl) rfl
theorem wk90 {gI : Gh} {wI : World} {x0 : Int} {x1 : Int}  {r : Int} (h : f90 x0 x1 = some r) : Fn Try.prog 90 #[.int .i64 (x0), .int .i64 (x1)] gI wI (fun _ _ v => v = .int .i64 (r)) := by
 unfold f90 at h
 refine fn_of_E Try.func90 rfl (Nat.le_of_ble_eq_true rfl) fun g0 hm hfr => ?_
 show E _ 20 none _ _ _ _ _
 refine Zf (Za (Zg (.int .i64 (0)) rfl rfl ?_))
 refine Zb (Zd (Zf (Za (Zn (.int .i64 (x0)) rfl rfl ?_))))
 obtain ⟨y2, hy2, h⟩ := bsome h
 refine Ze .plain rfl (Zp (g := g0) (vs := [.int .i64 (x0)]) en102 (.cons rfl .nil) (wk102  hy2) fun g1 w1_ v1 hs hr => ?_)
 have hfr := hfr.ext hs
 subst hr
 refine Zg (.bool (y2)) rfl rfl ?_
 refine Zb (Zd (Zf (Za (Zn (.int .i64 (x1)) rfl rfl ?_))))
 obtain ⟨y4, a7, h⟩ := bsome h
 refine Ze .plain rfl (Zp (g := g1) (vs := [.int .i64 (x1)]) en102 (.cons rfl .nil) (wk102  a7) fun g3 w3_ v3 hs hr => ?_)
 have hfr := hfr.ext hs
 subst hr
 refine Zg (.bool (y4)) rfl rfl ?_
 refine Zb (Zd (Zq h (fun (s : Unit) e w => ∃ (g : Gh) , Fr gI wI g w ∧ e 0 = .int .i64 (x0) ∧ e 1 = .int .i64 (x1) ∧ e 6 = .bool (y4)) (fun X10 t5 i6 h => ?_) ?_))
 ·refine Zf (Za (Zn (.bool (y2)) rfl rfl ?_))
  refine Zb (Zd ?_)
  rcases Zt h with ⟨o0, h⟩ | ⟨o0, h⟩
  ·refine E_ct o0 rfl ?_
   refine Zq h (fun (s : Unit) e w => ∃ (g : Gh) , Fr gI wI g w) (fun X13 x5 j6 h => ?_) ?_
   ·refine Zf (Za (Zn (.bool (y4)) rfl rfl ?_))
    refine Zb (Zd ?_)
    rcases Zt h with ⟨u0, h⟩ | ⟨u0, h⟩
    ·refine E_ct u0 rfl ?_
     refine Zf (Za (Zg (.int .i64 (0)) rfl rfl ?_))
     refine Zb (Zd (E_ret (thn_r ?_)))
     refine thn_r ?_
     obtain rfl := sinj h
     exact end1 rfl rfl (show _ = .int .i64 (0) from rfl) ⟨_, hfr, rfl⟩
    ·refine E_cf u0 rfl ?_
     exact Zu (Zd (j6 () _ _ ⟨g3, hfr⟩ h))
   ·rintro _ e7 w15 ⟨n7, hfr⟩ h
    refine Zf (Za (Zg (.int .i64 (-1)) rfl rfl ?_))
    refine Zb (Zd (E_ret (thn_r ?_)))
    obtain rfl := sinj h
    exact end1 rfl rfl (show _ = .int .i64 (-1) from rfl) ⟨_, hfr, rfl⟩
  ·refine E_cf o0 rfl ?_
   exact Zu (Zd (i6 () _ _ ⟨g3, hfr, rfl, rfl, rfl⟩ h))
 ·rintro _ g7 o7 ⟨b7, hfr, o3, u3, z3⟩ h
  refine Zq h (fun (s : Unit) e w => ∃ (g : Gh) , Fr gI wI g w ∧ e 0 = .int .i64 (x0) ∧ e 1 = .int .i64 (x1)) (fun X18 k18 v6 h => ?_) ?_
  ·refine Zf (Za (Zo z3 rfl ?_))
   refine Zb (Zd ?_)
   rcases Zt h with ⟨j1, h⟩ | ⟨j1, h⟩
   ·refine E_ct j1 rfl ?_
    refine Zf (Za (Zg (.int .i64 (1)) rfl rfl ?_))
    refine Zb (Zd (E_ret (thn_r ?_)))
    obtain rfl := sinj h
    exact end1 rfl rfl (show _ = .int .i64 (1) from rfl) ⟨_, hfr, rfl⟩
   ·refine E_cf j1 rfl ?_
    exact Zu (Zd (v6 () _ _ ⟨b7, hfr, o3, u3⟩ h))
  ·rintro _ i7 u7 ⟨c7, hfr, i3, j3⟩ h
   refine Zq h (fun (s : Unit) e w => ∃ (g : Gh) , Fr gI wI g w ∧ e 0 = .int .i64 (x0) ∧ e 1 = .int .i64 (x1)) (fun X22 q5 x6 h => ?_) ?_
   ·refine Zf (Za (Zo i3 rfl ?_))
    refine Zo j3 rfl ?_
    refine EL_in (.bool ((decide (x0 < x1)))) rfl rfl rfl rfl ?_
    refine Zb (Zd ?_)
    rcases Zt h with ⟨z2, h⟩ | ⟨z2, h⟩
    ·refine E_ct z2 rfl ?_
     refine Zf (Za (Zg (.int .i64 (-1)) rfl rfl ?_))
     refine Zb (Zd (E_ret (thn_r ?_)))
     obtain rfl := sinj h
     exact end1 rfl rfl (show _ = .int .i64 (-1) from rfl) ⟨_, hfr, rfl⟩
    ·refine E_cf z2 rfl ?_
     exact Zu (Zd (x6 () _ _ ⟨c7, hfr, i3, j3⟩ h))
   ·rintro _ j7 v7 ⟨d7, hfr, z4, i5⟩ h
    refine Zq h (fun (s : Unit) e w => ∃ (g : Gh) , Fr gI wI g w) (fun X26 l5 y6 h => ?_) ?_
    ·refine Zf (Za (Zo z4 rfl ?_))
     refine Zo i5 rfl ?_
     refine EL_in (.bool ((decide (x0 > x1)))) rfl rfl rfl rfl ?_
     refine Zb (Zd ?_)
     rcases Zt h with ⟨d3, h⟩ | ⟨d3, h⟩
     ·refine E_ct d3 rfl ?_
      refine Zf (Za (Zg (.int .i64 (1)) rfl rfl ?_))
      refine Zb (Zd (E_ret (thn_r ?_)))
      obtain rfl := sinj h
      exact end1 rfl rfl (show _ = .int .i64 (1) from rfl) ⟨_, hfr, rfl⟩
     ·refine E_cf d3 rfl ?_
      exact Zu (Zd (y6 () _ _ ⟨d7, hfr⟩ h))
    ·rintro _ m7 c8 ⟨e8, hfr⟩ h
     refine Zf (Za (Zg (.int .i64 (0)) rfl rfl ?_))
     refine Zb (Zd (E_ret ?_))
     obtain rfl := sinj h
     exact end1 rfl rfl (show _ = .int .i64 (0) from rfl) ⟨_, hfr, rfl⟩
def f95 (x0 : List Int) (x1 : Int → Option Bool) : Option (Bool) :=
 (f104 x0 x1).bind fun y2 =>
 some ((decide (y2 ≥ (0 : Int))))
theorem en95 : Enters Try.prog 95 := enters_of Try.func95 (by kernel_rfl) rfl
theorem wk95 {gI : Gh} {wI : World} {x0 : List Int} {x1 : Int → Option Bool} {up0 : Value} (rp0 : RV gI.m wI x0 up0) {up1 : Value} (rp1 : FnV1 Try.prog x1 up1 gI wI) {r : Bool} (h : f95 x0 x1 = some r) : Fn Try.prog 95 #[up0, up1] gI wI (fun _ _ v => v = .bool (r)) := by
 unfold f95 at h
 refine fn_of_E Try.func95 rfl (Nat.le_of_ble_eq_true rfl) fun g0 hm hfr => ?_
 have rp0 : RV g0.m wI x0 up0 := hm ▸ rp0
 obtain ⟨ff1, fa1, fc1, rfl, fen1, fcl1⟩ := rp1
 show E _ 9 none _ _ _ _ _
 refine Zf (Za (Zg (.bool false) rfl rfl ?_))
 refine Zb (Zd (Zf (Za (Zn up0 rfl rfl ?_))))
 refine Zn ((.func (.func ff1) fa1 fc1)) rfl rfl ?_
 obtain ⟨y2, hy2, h⟩ := bsome h
 refine Ze .plain rfl (Zp (g := g0) (vs := [up0, (.func (.func ff1) fa1 fc1)]) en104 (.cons rfl (.cons rfl .nil)) (wk104 rp0 (FnV1.ch ⟨_, _, _, rfl, fen1, fcl1⟩ hfr.ch) hy2) fun g1 w1_ v1 hs hr => ?_)
 have hfr := hfr.ext hs
 subst hr
 refine EL_in (.bool ((decide (y2 ≥ (0 : Int))))) rfl rfl rfl rfl ?_
 refine Zg (.bool ((decide (y2 ≥ (0 : Int))))) rfl rfl ?_
 refine Zb (Zd (E_ret ?_))
 obtain rfl := sinj h
 exact end1 rfl rfl (show _ = .bool ((decide (y2 ≥ (0 : Int)))) from rfl) ⟨_, hfr, rfl⟩
def f98 (x0 : LoomLoomMill) (x1 : Vector (Vector Int 7) 128) (x2 : Int) (x3 : Int) (x4 : Int) (x5 : List (Int × LoomRun)) : Option (Int) :=
 (shl64 (1 : Int) x3).bind fun y2 =>
 jn (σ := Unit) (fun _ =>
  Option.bind (α := Int) (
   lp (σ := Int × Int) (fun kB (u0, o0) =>
    bif (decide (o0 < (((x0).orders).length : Int))) then
     Option.bind (α := Int) (
      jn (σ := Unit) (fun _ =>
       (idx (x1).toList (bit64 .andNot x2 y2)).bind fun lB =>
       (idx (lB).toList o0).bind fun t5 =>
       Option.bind (α := Int) (
        (idx ((x0).orders) o0).bind fun e8 =>
        (idx ((x0).orders) x3).bind fun g8 =>
        bif ((e8).Chain != (g8).Chain) then
         some ((w64 (t5 + ((x0).LoomMill).Change)))
        else
         some (t5)
        ) fun z4 =>
       (f105 x0 x3 x4 z4 x5).bind fun i8 =>
       some ((min64 u0 i8))
       ) fun mB =>
      Option.bind (α := Bool) (
       (shr64 (bit64 .andNot x2 y2) o0).bind fun o3 =>
       bif ((bit64 .and o3 (1 : Int)) == (0 : Int)) then
        some (true)
       else
        (idx (x1).toList (bit64 .andNot x2 y2)).bind fun nB =>
        (idx (nB).toList o0).bind fun k8 =>
        some ((decide (k8 ≥ (1048576 : Int))))
       ) fun i3 =>
      bif i3 then
       some (u0)
      else
       mB ()
      ) fun i5 =>
     kB (i5, (w64 (o0 + (1 : Int))))
    else
     some (u0)
    ) big ((1048576 : Int), (0 : Int))
   ) fun j3 =>
  some (j3)
  ) fun k7 =>
 bif ((bit64 .andNot x2 y2) == (0 : Int)) then
  (f105 x0 x3 x4 ((0 : Int)) x5).bind fun y11 =>
  some (y11)
 else
  k7 ()
theorem en98 : Enters Try.prog 98 := enters_of Try.func98 (by kernel_rfl) rfl
theorem wk98 {gI : Gh} {wI : World} {x0 : LoomLoomMill} {x1 : Vector (Vector Int 7) 128} {x2 : Int} {x3 : Int} {x4 : Int} {x5 : List (Int × LoomRun)} {up0 : Value} (rp0 : RV gI.m wI x0 up0) {up1 : Value} (rp1 : PT gI.m wI x1 up1) {up5 : Value} (mq5 : MR (Value.int .i64) gI wI x5 up5) {r : Int} (h : f98 x0 x1 x2 x3 x4 x5 = some r) : Fn Try.prog 98 #[up0, up1, .int .i64 (x2), .int .i64 (x3), .int .i64 (x4), up5] gI wI (fun _ _ v => v = .int .i64 (r)) := by
 unfold f98 at h
 refine fn_of_E Try.func98 rfl (Nat.le_of_ble_eq_true rfl) fun g0 hm hfr => ?_
 have rp0 : RV g0.m wI x0 up0 := hm ▸ rp0
 have rp1 : PT g0.m wI x1 up1 := hm ▸ rp1
 have mq5 := MQ.enter mq5 hm hfr
 show E _ 84 none _ _ _ _ _
 refine Zf (Za (Ze .plain rfl (D_box (g := g0) rfl rp0 fun g1 w1 p1 hs q1 => ?_)))
 have hfr := hfr.ext hs
 have rp1 := rp1.ext hs
 have mq5 := mq5.ext hs
 refine Zg (.int .i64 (0)) rfl rfl ?_
 refine Zb (Zd (Zf (Za (Zn (.int .i64 (x2)) rfl rfl ?_))))
 refine Zn (.int .i64 (x3)) rfl rfl ?_
 obtain ⟨y2, hy2, h⟩ := bsome h
 refine EL_p (.int .i64 (y2)) (P_int rfl rfl (congrArg (Option.map (Value.int .i64)) hy2)) rfl ?_
 refine EL_in (.int .i64 ((bit64 .andNot x2 y2))) rfl rfl rfl rfl ?_
 refine Zg (.int .i64 ((bit64 .andNot x2 y2))) rfl rfl ?_
 refine Zb (Zd (Zq h (fun (s : Unit) e w => ∃ (g : Gh) , Fr gI wI g w ∧ e 1 = up1 ∧ PT g.m w (x1 : Vector (Vector Int 7) 128) up1 ∧ e 3 = .int .i64 (x3) ∧ e 4 = .int .i64 (x4) ∧ e 5 = up5 ∧ MQ (Value.int .i64) wI.heap.size g w (x5 : List (Int × LoomRun)) up5 ∧ e 6 = p1 ∧ PT g.m w (x0 : LoomLoomMill) p1 ∧ e 13 = .int .i64 ((bit64 .andNot x2 y2))) (fun X7 k7 hk7 h => ?_) ?_))
 ·refine Zf (Za (Zn (.int .i64 ((bit64 .andNot x2 y2))) rfl rfl ?_))
  refine EL_in (.bool (((bit64 .andNot x2 y2) == (0 : Int)))) rfl rfl rfl rfl ?_
  refine Zb (Zd ?_)
  rcases Zt h with ⟨hc8, h⟩ | ⟨hc8, h⟩
  ·refine E_ct hc8 rfl ?_
   refine Zf (Za (Ze .plain rfl (D_load (g := g1) Try.isAgg96 Try.sizeOf96 rfl q1 fun v9 r9 => ?_)))
   refine Zn (.int .i64 (x3)) rfl rfl ?_
   refine Zn (.int .i64 (x4)) rfl rfl ?_
   refine Zn up5 rfl rfl ?_
   obtain ⟨y11, tD, h⟩ := bsome h
   refine Ze .plain rfl (Zp (g := g1) (vs := [v9, .int .i64 (x3), .int .i64 (x4), .int .i64 (0), up5]) en105 (.cons rfl (.cons rfl (.cons rfl (.cons rfl (.cons rfl .nil))))) (wk105 r9 mq5.r tD) fun aG zE bG hs hr => ?_)
   have hfr := hfr.ext hs
   subst hr
   refine Zg (.int .i64 (y11)) rfl rfl ?_
   refine Zb (Zd (E_ret (thn_r ?_)))
   obtain rfl := sinj h
   exact end1 rfl rfl (show _ = .int .i64 (y11) from rfl) ⟨_, hfr, rfl⟩
  ·refine E_cf hc8 rfl ?_
   exact Zu (Zd (hk7 () _ _ ⟨g1, hfr, rfl, rp1, rfl, rfl, rfl, mq5, rfl, q1, rfl⟩ h))
 ·rintro _ cF cG ⟨sD, hfr, xC, yC, aD, bD, cD, eD, mA, l8, oB⟩ h
  refine Zf (Za (Zg (.int .i64 (1048576)) rfl rfl ?_))
  refine Zb (Zd ?_)
  obtain ⟨j3, hx, h⟩ := bsome h
  refine E_join (fun e w => ∃ (g : Gh) , Fr gI wI g w ∧ e 14 = .int .i64 (j3)) (fun Q' hQ => ?_) (fun rE dF hR => ?_)
  ·replace h := hx
   clear hx
   refine Zf (Za (EL_p (fPtr p1 2) (Zc at_96_1 mA (PT.ptr l8)) rfl ?_))
   have uD := Zm (part_LoomLoomMill_1).1 l8
   refine Ze .plain rfl (D_load (g := sD) Try.isAgg25 Try.sizeOf25 rfl uD fun eF vD => ?_)
   refine EL_p (.int .i64 (((x0).orders).length : Int)) (P_len Try.underlying25 rfl vD) rfl ?_
   refine Zn (.int .i64 (0)) rfl rfl ?_
   refine Zb (Zd (Zr ?_))
   refine E_lp h (fun (s : Int × Int) e w => ∃ (g : Gh) , Fr gI wI g w ∧ e 1 = up1 ∧ PT g.m w (x1 : Vector (Vector Int 7) 128) up1 ∧ e 3 = .int .i64 (x3) ∧ e 4 = .int .i64 (x4) ∧ e 5 = up5 ∧ MQ (Value.int .i64) wI.heap.size g w (x5 : List (Int × LoomRun)) up5 ∧ e 6 = p1 ∧ PT g.m w (x0 : LoomLoomMill) p1 ∧ e 13 = .int .i64 ((bit64 .andNot x2 y2)) ∧ e 14 = .int .i64 (s.1) ∧ e 30 = .int .i64 ((((x0).orders).length : Int)) ∧ e 31 = .int .i64 (s.2)) ⟨sD, hfr, xC, yC, aD, bD, cD, eD, mA, l8, oB, rfl, rfl, rfl⟩ (fun X309 kB gD => ?_)
   rintro ⟨u0, o0⟩ sE iF ⟨m8, hfr, b7, u3, r8, t8, v8, x8, y8, a9, l5, x6, y6, q5⟩ h
   refine Zf (Za (EL_p (.bool ((decide (o0 < (((x0).orders).length : Int))))) (P_int q5 y6 rfl) rfl ?_))
   refine Zb (Zd (Zf ?_))
   rcases Zt h with ⟨n8, h⟩ | ⟨n8, h⟩
   ·refine E_ct n8 rfl ?_
    refine Zu (Zd ?_)
    obtain ⟨i5, hx, h⟩ := bsome h
    refine E_join (fun e w => ∃ (g : Gh) , Fr gI wI g w ∧ e 1 = up1 ∧ PT g.m w (x1 : Vector (Vector Int 7) 128) up1 ∧ e 3 = .int .i64 (x3) ∧ e 4 = .int .i64 (x4) ∧ e 5 = up5 ∧ MQ (Value.int .i64) wI.heap.size g w (x5 : List (Int × LoomRun)) up5 ∧ e 6 = p1 ∧ PT g.m w (x0 : LoomLoomMill) p1 ∧ e 13 = .int .i64 ((bit64 .andNot x2 y2)) ∧ e 14 = .int .i64 (i5) ∧ e 30 = .int .i64 ((((x0).orders).length : Int)) ∧ e 31 = .int .i64 (o0)) (fun Q' hQ => ?_) (fun tE nF hR => ?_)
    ·replace h := hx
     clear hx
     refine Zr ?_
     refine Zf (Za (Zo q5 rfl ?_))
     refine Zg (.int .i64 (o0)) rfl rfl ?_
     refine Zb (Zd (Zq h (fun (s : Unit) e w => ∃ (g : Gh) , Fr gI wI g w ∧ e 1 = up1 ∧ PT g.m w (x1 : Vector (Vector Int 7) 128) up1 ∧ e 3 = .int .i64 (x3) ∧ e 4 = .int .i64 (x4) ∧ e 5 = up5 ∧ MQ (Value.int .i64) wI.heap.size g w (x5 : List (Int × LoomRun)) up5 ∧ e 6 = p1 ∧ PT g.m w (x0 : LoomLoomMill) p1 ∧ e 13 = .int .i64 ((bit64 .andNot x2 y2)) ∧ e 14 = .int .i64 (u0) ∧ e 15 = .int .i64 (o0) ∧ e 30 = .int .i64 ((((x0).orders).length : Int)) ∧ e 31 = .int .i64 (o0)) (fun X474 mB iD h => ?_) ?_))
     ·obtain ⟨i3, hx, h⟩ := bsome h
      refine E_join (fun e w => ∃ (g : Gh) , Fr gI wI g w ∧ e 1 = up1 ∧ PT g.m w (x1 : Vector (Vector Int 7) 128) up1 ∧ e 3 = .int .i64 (x3) ∧ e 4 = .int .i64 (x4) ∧ e 5 = up5 ∧ MQ (Value.int .i64) wI.heap.size g w (x5 : List (Int × LoomRun)) up5 ∧ e 6 = p1 ∧ PT g.m w (x0 : LoomLoomMill) p1 ∧ e 13 = .int .i64 ((bit64 .andNot x2 y2)) ∧ e 14 = .int .i64 (u0) ∧ e 15 = .int .i64 (o0) ∧ e 30 = .int .i64 ((((x0).orders).length : Int)) ∧ e 31 = .int .i64 (o0) ∧ e 48 = .bool (i3)) (fun Q' hQ => ?_) (fun uE oF hR => ?_)
      ·replace h := hx
       clear hx
       refine Za (Zo l5 rfl ?_)
       refine Zn (.int .i64 (o0)) rfl rfl ?_
       obtain ⟨o3, jD, h⟩ := bsome h
       refine EL_p (.int .i64 (o3)) (P_int rfl rfl (congrArg (Option.map (Value.int .i64)) jD)) rfl ?_
       refine EL_in (.int .i64 ((bit64 .and o3 (1 : Int)))) rfl rfl rfl rfl ?_
       refine EL_in (.bool (((bit64 .and o3 (1 : Int)) == (0 : Int)))) rfl rfl rfl rfl ?_
       refine Zn (.bool (((bit64 .and o3 (1 : Int)) == (0 : Int)))) rfl rfl ?_
       rcases Zt h with ⟨j1, h⟩ | ⟨j1, h⟩
       ·refine EL_s rfl rfl j1 rfl rfl ?_
        iterate 7 refine EL_s rfl rfl j1 rfl rfl ?_
        refine EL_p (.bool true) (Zl (b := ((bit64 .and o3 (1 : Int)) == (0 : Int))) rfl (pick_t j1 rfl)) rfl ?_
        refine Zb ?_
        obtain rfl := sinj h
        exact hQ _ _ ⟨m8, hfr, b7, u3, r8, t8, v8, x8, y8, a9, l5, x6, rfl, y6, q5, rfl⟩
       ·refine EL_y up1 (Zk b7) rfl rfl j1 rfl ?_
        refine EL_y (.int .i64 ((bit64 .andNot x2 y2))) (Zk l5) rfl rfl j1 rfl ?_
        refine EL_y (.int .i64 (o0)) (Zk rfl) rfl rfl j1 rfl ?_
        obtain ⟨pb485, po485, pe485⟩ := PT.ptr u3
        refine EL_y up1 (P_nilCk rfl pe485) rfl rfl j1 rfl ?_
        obtain ⟨nB, nA, h⟩ := bsome h
        refine EL_y (fPtr up1 (((bit64 .andNot x2 y2) : Int).toNat * 7)) (P_indexAddrA (α := Vector Int 7) Try.underlying150 Try.sizeOf148 rfl (PT.ptr u3) rfl nA) rfl rfl j1 rfl ?_
        have tB := PT_idxA u3 nA
        obtain ⟨k8, oA, h⟩ := bsome h
        refine EL_y (fPtr (fPtr up1 (((bit64 .andNot x2 y2) : Int).toNat * 7)) ((o0 : Int).toNat * 1)) (P_indexAddrA (α := Int) Try.underlying148 Try.sizeOf3 rfl (PT.ptr tB) rfl oA) rfl rfl j1 rfl ?_
        have xD := PT_idxA tB oA
        refine Ze (.yes2 rfl rfl j1) rfl (D_load (g := m8) Try.isAgg3 Try.sizeOf3 rfl xD fun pF yD => ?_)
        obtain rfl := Zj.1 yD
        refine EL_y (.bool ((decide (k8 ≥ (1048576 : Int))))) (P_int rfl rfl rfl) rfl rfl j1 rfl ?_
        refine EL_p (.bool ((decide (k8 ≥ (1048576 : Int))))) (Zl (b := ((bit64 .and o3 (1 : Int)) == (0 : Int))) rfl (pick_f j1 rfl)) rfl ?_
        refine Zb ?_
        obtain rfl := sinj h
        exact hQ _ _ ⟨m8, hfr, b7, u3, r8, t8, v8, x8, y8, a9, l5, x6, rfl, y6, q5, rfl⟩
      ·clear hx
       obtain ⟨vB, hfr, d9, e9, i9, k9, l9, n9, o9, t9, g7, i7, uA, j7, m7, n7⟩ := hR
       rcases Zt h with ⟨o8, h⟩ | ⟨o8, h⟩
       ·refine E_cond_true (Eq.trans (show ev _ _ = .bool (i3) from n7) (congrArg Value.bool o8)) ?_
        refine E_exit ?_
        refine thn_e ?_
        refine blk_hit ?_
        obtain rfl := sinj h
        exact hQ _ _ ⟨vB, hfr, d9, e9, i9, k9, l9, n9, o9, t9, g7, i7, j7, m7⟩
       ·refine E_cond_false (Eq.trans (show ev _ _ = .bool (i3) from n7) (congrArg Value.bool o8)) ?_
        exact Zu (Zd (iD () _ _ ⟨vB, hfr, d9, e9, i9, k9, l9, n9, o9, t9, g7, i7, uA, j7, m7⟩ h))
     ·rintro _ vE qF ⟨xB, hfr, c7, d3, d7, u9, y9, i6, z3, z2, a7, o7, u7, v7, c8⟩ h
      refine Zf (Za (Zo c7 rfl ?_))
      refine Zo a7 rfl ?_
      refine Zo u7 rfl ?_
      obtain ⟨pb494, po494, pe494⟩ := PT.ptr d3
      refine EL_p up1 (P_nilCk rfl pe494) rfl ?_
      obtain ⟨lB, pA, h⟩ := bsome h
      refine EL_p (fPtr up1 (((bit64 .andNot x2 y2) : Int).toNat * 7)) (P_indexAddrA (α := Vector Int 7) Try.underlying150 Try.sizeOf148 rfl (PT.ptr d3) rfl pA) rfl ?_
      have yB := PT_idxA d3 pA
      obtain ⟨t5, qA, h⟩ := bsome h
      refine EL_p (fPtr (fPtr up1 (((bit64 .andNot x2 y2) : Int).toNat * 7)) ((o0 : Int).toNat * 1)) (P_indexAddrA (α := Int) Try.underlying148 Try.sizeOf3 rfl (PT.ptr yB) rfl qA) rfl ?_
      have zD := PT_idxA yB qA
      refine Ze .plain rfl (D_load (g := xB) Try.isAgg3 Try.sizeOf3 rfl zD fun rF aE => ?_)
      obtain rfl := Zj.1 aE
      refine Zg (.int .i64 (t5)) rfl rfl ?_
      refine Zb (Zd ?_)
      obtain ⟨z4, hx, h⟩ := bsome h
      refine E_join (fun e w => ∃ (g : Gh) , Fr gI wI g w ∧ e 1 = up1 ∧ PT g.m w (x1 : Vector (Vector Int 7) 128) up1 ∧ e 3 = .int .i64 (x3) ∧ e 4 = .int .i64 (x4) ∧ e 5 = up5 ∧ MQ (Value.int .i64) wI.heap.size g w (x5 : List (Int × LoomRun)) up5 ∧ e 6 = p1 ∧ PT g.m w (x0 : LoomLoomMill) p1 ∧ e 13 = .int .i64 ((bit64 .andNot x2 y2)) ∧ e 14 = .int .i64 (u0) ∧ e 16 = .int .i64 (z4) ∧ e 30 = .int .i64 ((((x0).orders).length : Int)) ∧ e 31 = .int .i64 (o0)) (fun Q' hQ => ?_) (fun xE sF hR => ?_)
      ·replace h := hx
       clear hx
       refine Zf ?_
       have bE := Zm (part_LoomLoomMill_1).1 z2
       refine Zs (x := .tmp 56) Try.isAgg25 Try.sizeOf25 bE fun jA zB kD => ?_
       obtain ⟨e8, rA, h⟩ := bsome h
       have aC := PT_idx zB rA
       have cE := Zm (part_LoomOrder_1).1 aC
       refine Zs (x := .tmp 60) Try.isAgg3 Try.sizeOf3 cE fun tF dE lD => ?_
       obtain rfl := Zj.1 dE
       have eE := Zm (part_LoomLoomMill_1).1 z2
       refine Zs (x := .tmp 62) Try.isAgg25 Try.sizeOf25 eE fun kA cC mD => ?_
       obtain ⟨g8, sA, h⟩ := bsome h
       have dC := PT_idx cC sA
       have gE := Zm (part_LoomOrder_1).1 dC
       refine Zs (x := .tmp 66) Try.isAgg3 Try.sizeOf3 gE fun uF iE nD => ?_
       obtain rfl := Zj.1 iE
       refine E_drawL (g := xB) (n := 13) [] [0, 1, 2, 3, 4, 5, 6, 7, 8, 9, 10, 11, 12] rfl mixed (by kernel_rfl) trivial ?_
       refine L_p (fPtr p1 2) rfl rfl (Zc at_96_1 z3 (PT.ptr z2)) ?_
       refine L_ld (c := jA) rfl rfl .plain (fun _ _ h => h.ch) kD rfl ?_
       refine L_p (.int .i64 (o0)) rfl rfl (Zk u7) ?_
       refine L_p (ePtr jA o0 5) rfl rfl (Zh (α := LoomOrder) Try.underlying25 Try.sizeOf82 rfl zB rfl rA) ?_
       refine L_p (fPtr (ePtr jA o0 5) 1) rfl rfl (Zc at_82_1 rfl (PT.ptr aC)) ?_
       refine L_ld (c := .int .i64 ((e8).Chain)) rfl rfl .plain (fun _ _ h => h.ch) lD rfl ?_
       refine L_p (fPtr p1 2) rfl rfl (Zc at_96_1 z3 (PT.ptr z2)) ?_
       refine L_ld (c := kA) rfl rfl .plain (fun _ _ h => h.ch) mD rfl ?_
       refine L_p (.int .i64 (x3)) rfl rfl (Zk d7) ?_
       refine L_p (ePtr kA x3 5) rfl rfl (Zh (α := LoomOrder) Try.underlying25 Try.sizeOf82 rfl cC rfl sA) ?_
       refine L_p (fPtr (ePtr kA x3 5) 1) rfl rfl (Zc at_82_1 rfl (PT.ptr dC)) ?_
       refine L_ld (c := .int .i64 ((g8).Chain)) rfl rfl .plain (fun _ _ h => h.ch) nD rfl ?_
       refine L_p (.bool (((e8).Chain != (g8).Chain))) rfl rfl (P_int rfl rfl rfl) ?_
       refine L_nl fun lA vF hs => ?_
       have hfr := hfr.ext hs
       have d3 := d3.ext hs
       have i6 := i6.ext hs
       have z2 := z2.ext hs
       clear hs
       refine Zb (Zd ?_)
       rcases Zt h with ⟨q8, h⟩ | ⟨q8, h⟩
       ·refine E_ct q8 rfl ?_
        refine Za (Zn (.int .i64 (t5)) rfl rfl ?_)
        refine EL_p (fPtr p1 0) (Zc at_96_0 z3 (PT.ptr z2)) rfl ?_
        have eC := Zm (part_LoomLoomMill_0).1 z2
        refine EL_p (fPtr (fPtr p1 0) 1) (Zc at_24_1 rfl (PT.ptr eC)) rfl ?_
        have jE := Zm (part_LoomMill_1).1 eC
        refine Ze .plain rfl (D_load (g := lA) Try.isAgg3 Try.sizeOf3 rfl jE fun xF kE => ?_)
        obtain rfl := Zj.1 kE
        refine EL_in (.int .i64 ((w64 (t5 + ((x0).LoomMill).Change)))) rfl rfl rfl rfl ?_
        refine Zg (.int .i64 ((w64 (t5 + ((x0).LoomMill).Change)))) rfl rfl ?_
        refine Zb ?_
        obtain rfl := sinj h
        exact hQ _ _ ⟨lA, hfr, c7, d3, d7, u9, y9, i6, z3, z2, a7, o7, rfl, v7, c8⟩
       ·refine E_cf q8 rfl ?_
        refine Zu ?_
        obtain rfl := sinj h
        exact hQ _ _ ⟨lA, hfr, c7, d3, d7, u9, y9, i6, z3, z2, a7, o7, rfl, v7, c8⟩
      ·clear hx
       obtain ⟨iC, hfr, jC, e7, z9, bA, gA, j6, iA, v6, xA, yA, zA, aB, bB⟩ := hR
       refine Za (Zo yA rfl ?_)
       refine Ze .plain rfl (D_load (g := iC) Try.isAgg96 Try.sizeOf96 iA v6 fun lE mE => ?_)
       refine Zo z9 rfl ?_
       refine Zo bA rfl ?_
       refine Zo zA rfl ?_
       refine Zo gA rfl ?_
       obtain ⟨i8, oD, h⟩ := bsome h
       refine Ze .plain rfl (Zp (g := iC) (vs := [lE, .int .i64 (x3), .int .i64 (x4), .int .i64 (z4), up5]) en105 (.cons rfl (.cons rfl (.cons rfl (.cons rfl (.cons rfl .nil))))) (wk105 mE j6.r oD) fun nE yE yF hs hr => ?_)
       have hfr := hfr.ext hs
       have e7 := e7.ext hs
       have j6 := j6.ext hs
       have v6 := v6.ext hs
       subst hr
       refine EL_p (.int .i64 (min64 u0 i8)) (P_min rfl rfl) rfl ?_
       refine Zg (.int .i64 (min64 u0 i8)) rfl rfl ?_
       refine Zb (blk_n ?_)
       obtain rfl := sinj h
       exact hQ _ _ ⟨nE, hfr, jC, e7, z9, bA, gA, j6, iA, v6, xA, rfl, aB, bB⟩
    ·clear hx
     obtain ⟨oE, hfr, kC, lC, mC, qC, rC, tC, uC, vC, cB, dB, eB, iB⟩ := hR
     refine Za (EL_in (.int .i64 ((w64 (o0 + (1 : Int))))) iB rfl rfl rfl ?_)
     refine Zn (.int .i64 ((w64 (o0 + (1 : Int))))) rfl rfl ?_
     exact Zb (Zd (gD (i5, (w64 (o0 + (1 : Int)))) _ _ ⟨oE, hfr, kC, lC, mC, qC, rC, tC, uC, vC, cB, dB, eB, rfl⟩ h))
   ·refine E_cf n8 rfl ?_
    refine E_exit ?_
    refine thn_e ?_
    refine thn_e ?_
    refine blk_hit ?_
    obtain rfl := sinj h
    exact hQ _ _ ⟨m8, hfr, x6⟩
  ·clear hx
   obtain ⟨zF, hfr, jB⟩ := hR
   refine Zf (Za (Zo jB rfl ?_))
   refine Zg (.int .i64 (j3)) rfl rfl ?_
   refine Zb (Zd (E_ret ?_))
   obtain rfl := sinj h
   exact end1 rfl rfl (show _ = .int .i64 (j3) from rfl) ⟨_, hfr, rfl⟩
def f100 : Nat → (List Int) → (Int) → (Int) → (Int) → (Int → Int → Option Int) → Option ((List Int))
 | 0, _, _, _, _, _ => none
 | n + 1, x0, x1, x2, x3, x4 =>
  lp (σ := (List Int) × Int × Int × Int × Bool × Bool) (fun k1 (i3, o0, u0, z2, j1, d3) =>
   jn (σ := (List Int)) (fun j3 =>
    jn (σ := Unit) (fun _ =>
     Option.bind (α := Int) (
      bif (!j1) then
       none
      else
       some (z2)
      ) fun l5 =>
     none
     ) fun o8 =>
    bif (z2 == (0 : Int)) then
     none
    else
     o8 ()
    ) fun k6 =>
   bif (decide ((w64 (u0 - o0)) ≤ (12 : Int))) then
    (f106 i3 o0 u0 x4).bind fun y9 =>
    some (y9)
   else
    k6 (i3)
   ) big (x0, x1, x2, x3, true, true)
theorem en100 : Enters Try.prog 100 := enters_of Try.func100 (by kernel_rfl) rfl
theorem wk100 (n : Nat) : ∀ {iI : Nat} {gI : Gh} {wI : World} {x0 : List Int} {x1 : Int} {x2 : Int} {x3 : Int} {x4 : Int → Int → Option Int} {up0 : Value} (mp0 : OM iI gI wI 3 x0 up0) {up4 : Value} (rp4 : FnV2 Try.prog x4 up4 gI wI) {r : (List Int)} (h : f100 n x0 x1 x2 x3 x4 = some r), FnM Try.prog 100 #[up0, .int .i64 (x1), .int .i64 (x2), .int .i64 (x3), up4] iI gI wI (fun g w v => v = .tuple #[] ∧ OM iI g w 3 r up0) := by
 induction n with
 | zero => intros; rename_i h; cases h
 | succ n ih =>
 intro iI gI wI x0 x1 x2 x3 x4 up0 mp0 up4 rp4 r h
 simp only [f100] at h
 refine fnM_of_E Try.func100 rfl (Nat.le_of_ble_eq_true rfl) fun g0 hm hfr => ?_
 have o7 := mp0
 replace mp0 := mp0.enter
 rw [← hm] at mp0
 replace hm : g0.m = gI.m := by rw [hm]
 obtain ⟨ff4, fa4, fc4, rfl, fen4, fcl4⟩ := rp4
 show E _ 148 none _ _ _ _ _
 refine Zf (Za (Zg (.bool true) rfl rfl ?_))
 refine Zb (Zd (Zf (Za (Zg (.bool true) rfl rfl ?_))))
 refine Zb (Zd (Zr ?_))
 refine E_lp h (fun (s : (List Int) × Int × Int × Int × Bool × Bool) e w => ∃ (g : Gh) , FrM iI gI wI g w ∧ e 0 = up0 ∧ OM 1 g w 3 (s.1 : List Int) up0 ∧ e 1 = .int .i64 (s.2.1) ∧ e 2 = .int .i64 (s.2.2.1) ∧ e 3 = .int .i64 (s.2.2.2.1) ∧ e 4 = (.func (.func ff4) fa4 fc4) ∧ e 10 = .bool (s.2.2.2.2.1) ∧ e 11 = .bool (s.2.2.2.2.2)) ⟨g0, hfr, rfl, mp0, rfl, rfl, rfl, rfl, rfl, rfl⟩ (fun X1 k1 hk1 => ?_)
 rintro ⟨i3, o0, u0, z2, j1, d3⟩ t9 w2 ⟨g2, hfr, b7, c7, u3, z3, q8, d7, u7, v7⟩ h
 refine Zr ?_
 refine Zf (Za (Zo z3 rfl ?_))
 refine Zo u3 rfl ?_
 refine EL_in (.int .i64 ((w64 (u0 - o0)))) rfl rfl rfl rfl ?_
 refine Zg (.int .i64 ((w64 (u0 - o0)))) rfl rfl ?_
 refine Zb (Zd (Zq h (fun (s : (List Int)) e w => ∃ (g : Gh) , FrM iI gI wI g w ∧ e 0 = up0 ∧ OM 1 g w 3 (s : List Int) up0 ∧ e 1 = .int .i64 (o0) ∧ e 2 = .int .i64 (u0) ∧ e 3 = .int .i64 (z2) ∧ e 4 = (.func (.func ff4) fa4 fc4) ∧ e 10 = .bool (j1) ∧ e 11 = .bool (d3) ∧ e 12 = .int .i64 ((w64 (u0 - o0)))) (fun X6 k6 hk6 h => ?_) ?_))
 ·refine Zf (Za (Zn (.int .i64 ((w64 (u0 - o0)))) rfl rfl ?_))
  refine EL_in (.bool ((decide ((w64 (u0 - o0)) ≤ (12 : Int))))) rfl rfl rfl rfl ?_
  refine Zb (Zd ?_)
  rcases Zt h with ⟨e7, h⟩ | ⟨e7, h⟩
  ·refine E_ct e7 rfl ?_
   refine Zf (Za (Zo b7 rfl ?_))
   refine Zo u3 rfl ?_
   refine Zo z3 rfl ?_
   refine Zo d7 rfl ?_
   obtain ⟨y9, t8, h⟩ := bsome h
   refine Ze .plain rfl (D_callM (g := g2) (i := 1) (vs := [up0, .int .i64 (o0), .int .i64 (u0), (.func (.func ff4) fa4 fc4)]) en106 (.cons rfl (.cons rfl (.cons rfl (.cons rfl .nil)))) (wk106 c7 (FnV2.ch ⟨_, _, _, rfl, fen4, fcl4⟩ hfr.ch) t8) fun g8 w8_ v8 hs hr => ?_)
   obtain ⟨hrv, b8⟩ := hr
   have hfr := hfr.stp hs
   subst hrv
   refine Zb (Zd (E_ret (thn_r ?_)))
   refine blk_r ?_
   refine thn_r ?_
   refine blk_r ?_
   obtain rfl := sinj h
   exact end0 rfl rfl ⟨_, hfr, rfl, o7.back b8⟩
  ·refine E_cf e7 rfl ?_
   exact Zu (Zd (hk6 (i3) _ _ ⟨g2, hfr, b7, c7, u3, z3, q8, d7, u7, v7, rfl⟩ h))
 ·rintro j3 l9 u9 ⟨x8, hfr, q5, c8, t5, x5, i6, j6, g7, i7, j7⟩ h
  refine Zq h (fun (s : Unit) e w => ∃ (g : Gh) , FrM iI gI wI g w ∧ e 0 = up0 ∧ OM 1 g w 3 (j3 : List Int) up0 ∧ e 1 = .int .i64 (o0) ∧ e 2 = .int .i64 (u0) ∧ e 3 = .int .i64 (z2) ∧ e 4 = (.func (.func ff4) fa4 fc4) ∧ e 10 = .bool (j1) ∧ e 11 = .bool (d3) ∧ e 12 = .int .i64 ((w64 (u0 - o0)))) (fun X12 o8 r8 h => ?_) ?_
  ·refine Zf (Za (Zo i6 rfl ?_))
   refine EL_in (.bool ((z2 == (0 : Int)))) rfl rfl rfl rfl ?_
   refine Zb (Zd ?_)
   rcases Zt h with ⟨z4, h⟩ | ⟨z4, h⟩
   ·refine E_ct z4 rfl ?_
    refine Zf (Za (Zo q5 rfl ?_))
    refine Zo t5 rfl ?_
    refine Zo x5 rfl ?_
    refine Zo j6 rfl ?_
    cases h
   ·refine E_cf z4 rfl ?_
    exact Zu (Zd (r8 () _ _ ⟨x8, hfr, q5, c8, t5, x5, i6, j6, g7, i7, j7⟩ h))
  ·rintro _ n9 z9 ⟨y8, hfr, v6, e8, x6, y6, i8, a7, o3, m7, n7⟩ h
   obtain ⟨l5, hx, h⟩ := bsome h
   refine E_join (fun e w => ∃ (g : Gh) , FrM iI gI wI g w ∧ e 0 = up0 ∧ OM 1 g w 3 (j3 : List Int) up0 ∧ e 1 = .int .i64 (o0) ∧ e 2 = .int .i64 (u0) ∧ e 3 = .int .i64 (l5) ∧ e 4 = (.func (.func ff4) fa4 fc4) ∧ e 10 = .bool (j1) ∧ e 11 = .bool (d3) ∧ e 12 = .int .i64 ((w64 (u0 - o0)))) (fun Q' hQ => ?_) (fun o9 bA hR => ?_)
   ·replace h := hx
    clear hx
    refine Zf (Za (Zo o3 rfl ?_))
    refine EL_p (.bool (!j1)) (P_not rfl) rfl ?_
    refine Zb (Zd ?_)
    rcases Zt h with ⟨i5, h⟩ | ⟨i5, h⟩
    ·refine E_ct i5 rfl ?_
     refine Zf (Za (Zo v6 rfl ?_))
     refine Zo x6 rfl ?_
     refine Zo y6 rfl ?_
     refine Zo a7 rfl ?_
     cases h
    ·refine E_cf i5 rfl ?_
     refine Zu ?_
     obtain rfl := sinj h
     exact hQ _ _ ⟨y8, hfr, v6, e8, x6, y6, i8, a7, o3, m7, n7⟩
   ·clear hx
    obtain ⟨gA, hfr, k8, i9, l8, m8, k9, n8, a9, d9, e9⟩ := hR
    refine Zf (Za (Zo k8 rfl ?_))
    refine Zo l8 rfl ?_
    refine Zo m8 rfl ?_
    refine Zo n8 rfl ?_
    cases h
def f13 (x0 : LoomMill) (x1 : List LoomOrder) : Option (Bool) :=
 Option.bind (α := Int) (
  lp (σ := Int × Int) (fun u7 (u0, o0) =>
   jn (σ := Unit) (fun _ =>
    Option.bind (α := Int) (
     (idx x1 o0).bind fun y165 =>
     (idx x1 o0).bind fun z2 =>
     (idx x1 o0).bind fun j3 =>
     some ((w64 (u0 * (max64 (1 : Int) (w64 ((w64 ((w64 ((w64 ((min64 (300 : Int) (y165).Late) - (max64 (0 : Int) (z2).Early))) - (j3).Woven)) + (1 : Int))) * (((x0).Widths).length : Int)))))))
     ) fun z4 =>
    u7 (z4, (w64 (o0 + (1 : Int))))
    ) fun v7 =>
   Option.bind (α := Bool) (
    bif (decide (o0 < ((x1).length : Int))) then
     some ((decide (u0 ≤ (3000 : Int))))
    else
     some (false)
    ) fun i3 =>
   bif i3 then
    v7 ()
   else
    some (u0)
   ) big ((1 : Int), (0 : Int))
  ) fun d3 =>
 Option.bind (α := Bool) (
  (f20 x0 x1).bind fun t5 =>
  bif (t5 == (0 : Int)) then
   some ((decide (d3 > (3000 : Int))))
  else
   some (false)
  ) fun i5 =>
 some (i5)
end Go.Proofs.Ytnfjhdagbknlbaa
