import Derived.Test.YtnfjhdagbknlbaaCode2
set_option maxRecDepth 8000
set_option maxHeartbeats 4000000
namespace Go.Proofs.Ytnfjhdagbknlbaa
open Go.RowKit
def f39 (x0 : Hall) : Option (LoomMill × (List LoomOrder) × (List LoomRun)) :=
 (rem64 (((x0).Change).toNat : Int) (6 : Int)).bind fun y5 =>
 Option.bind (α := LoomMill) (
  lp (σ := LoomMill × Int) (fun vL (l9, m7) =>
   jn (σ := Unit) (fun (_ : Unit) =>
    Option.bind (α := LoomMill) (
     (idx ((x0).Widths).toList m7).bind fun mD =>
     (rem64 ((mD).toNat : Int) (20 : Int)).bind fun n7 =>
     (apnd 8 ((l9).Widths) (([(w64 ((10 : Int) + n7))] : List Int))).bind fun eE =>
     some ({ l9 with Widths := eE })
     ) fun j9 =>
    vL (j9, (w64 (m7 + (1 : Int))))
    ) fun k82 =>
   (rem64 (((x0).Looms).toNat : Int) (3 : Int)).bind fun sE =>
   bif (decide (m7 ≤ sE)) then
    k82 ()
   else
    some (l9)
   ) big ((⟨[], y5⟩ : LoomMill), (0 : Int))
  ) fun j3 =>
 Option.bind (α := (List LoomOrder) × (List LoomRun)) (
  lp (σ := (List LoomOrder) × (List LoomRun) × (Vector Int 3) × (Vector Int 3) × Int) (fun tE (x6, y6, u5, d7, u0) =>
   jn (σ := Unit) (fun (_ : Unit) =>
    Option.bind (α := (List LoomOrder) × (List LoomRun) × (Vector Int 3) × (Vector Int 3)) (
     (idx ((x0).Orders) u0).bind fun d3 =>
     (rem64 (((d3)[0]).toNat : Int) (((j3).Widths).length : Int)).bind fun z2 =>
     (idx ((j3).Widths) z2).bind fun nD =>
     (rem64 (((d3)[1]).toNat : Int) nD).bind fun l6 =>
     (rem64 (((d3)[2]).toNat : Int) (3 : Int)).bind fun t5 =>
     (rem64 (((d3)[3]).toNat : Int) (15 : Int)).bind fun u3 =>
     (idx (u5).toList z2).bind fun l8 =>
     (quo64 (((d3)[0]).toNat : Int) (3 : Int)).bind fun oD =>
     (rem64 oD (3 : Int)).bind fun m8 =>
     Option.bind (α := Int) (
      Option.bind (α := Bool) (
       (idx (d7).toList z2).bind fun e8 =>
       bif (decide (e8 ≥ (0 : Int))) then
        (idx (d7).toList z2).bind fun bA =>
        some ((bA != t5))
       else
        some (false)
       ) fun k8 =>
      bif k8 then
       some ((w64 ((w64 (l8 + m8)) + (j3).Change)))
      else
       some ((w64 (l8 + m8)))
      ) fun o0 =>
     (rem64 (((d3)[4]).toNat : Int) (9 : Int)).bind fun i8 =>
     (rem64 (((d3)[5]).toNat : Int) (9 : Int)).bind fun cA =>
     (apnd 40 x6 (([(⟨(w64 ((1 : Int) + l6)), t5, (w64 ((1 : Int) + u3)), (max64 (0 : Int) (w64 (o0 - i8))), (w64 ((w64 (o0 + (w64 ((1 : Int) + u3)))) + cA))⟩ : LoomOrder)] : List LoomOrder))).bind fun uE =>
     (f46 u0 z2 o0).bind fun pD =>
     (apnd 24 y6 (([pD] : List LoomRun))).bind fun vE =>
     (idx (u5).toList z2).bind fun gJ =>
     (idx (d7).toList z2).bind fun iJ =>
     some (uE, vE, (vset u5 z2 ((w64 (o0 + (w64 ((1 : Int) + u3)))))), (vset d7 z2 t5))
     ) fun (x8, y8, n9, z8) =>
    tE (x8, y8, n9, z8, (w64 (u0 + (1 : Int))))
    ) fun xE =>
   Option.bind (α := Bool) (
    bif (decide (u0 < (((x0).Orders).length : Int))) then
     some ((decide (u0 < (7 : Int))))
    else
     some (false)
    ) fun o8 =>
   bif o8 then
    xE ()
   else
    some (x6, y6)
   ) big (([] : List LoomOrder), ([] : List LoomRun), (⟨List.toArray [0, 0, 0], rfl⟩ : Vector Int 3), (⟨List.toArray [(-1 : Int), (-1 : Int), (-1 : Int)], rfl⟩ : Vector Int 3), (0 : Int))
  ) fun (o9, p9) =>
 some (j3, o9, p9)
theorem en39 : Enters Try.prog 39 := enters_of Try.func39 (by kernel_rfl) rfl
def f52 (x0 : LoomLoomMill) : Option ((List Int)) :=
 (shl64 (1 : Int) ((((x0).LoomMill).Widths).length : Int)).bind fun y5 =>
 (f59 ((w64 (y5 - (1 : Int))))).bind fun y7 =>
 some (y7)
theorem en52 : Enters Try.prog 52 := enters_of Try.func52 (by kernel_rfl) rfl
theorem wk52 {gI : Gh} {wI : World} {x0 : LoomLoomMill} {up0 : Value} (rp0 : RV gI.m wI x0 up0) {r : (List Int)} (h : f52 x0 = some r) : Fn Try.prog 52 #[up0] gI wI (fun m w v => RV m w (r) v) := by
 unfold f52 at h
 refine fn_of_E Try.func52 rfl (Nat.le_of_ble_eq_true rfl) fun g0 hm hfr => ?_
 have rp0 : RV g0.m wI x0 up0 := hm ▸ rp0
 show E _ 10 none _ _ _ _ _
 refine E_seq (E_region (EL_do .plain rfl (D_box (g := g0) rfl rp0 fun g1 w1 p1 hs q1 => ?_)))
 have hfr := hfr.ext hs
 refine EL_at (.slice none 0 0) rfl rfl ?_
 refine EL_nil (thn_n (E_seq (E_region (EL_pur (v := fPtr p1 0) (P_fieldAddr at_96_0 rfl (PT.ptr q1)) .plain rfl ?_))))
 have q2 := PT_field (part_LoomLoomMill_0).1 q1
 refine EL_pur (v := fPtr (fPtr p1 0) 0) (P_fieldAddr at_24_0 rfl (PT.ptr q2)) .plain rfl ?_
 have q3 := PT_field (part_LoomMill_0).1 q2
 refine EL_do .plain rfl (D_load (g := g1) Try.isAgg22 Try.sizeOf22 rfl q3 fun v4 r4 => ?_)
 refine EL_pur (v := .int .i64 ((((x0).LoomMill).Widths).length : Int)) (P_len Try.underlying22 rfl r4) .plain rfl ?_
 obtain ⟨y5, hy5, h⟩ := bsome h
 refine EL_pur (v := .int .i64 (y5)) (P_int rfl rfl (congrArg (Option.map (Value.int .i64)) hy5)) .plain rfl ?_
 refine EL_in (.int .i64 ((w64 (y5 - (1 : Int))))) rfl rfl rfl rfl ?_
 obtain ⟨y7, o0, h⟩ := bsome h
 refine EL_do .plain rfl (D_call (g := g1) (vs := [.int .i64 ((w64 (y5 - (1 : Int))))]) en59 (.cons rfl .nil) (wk59  o0) fun g6 w6_ v6 hs hr => ?_)
 have hfr := hfr.ext hs
 have r6 := hr
 refine EL_at v6 rfl rfl ?_
 refine EL_nil (thn_n (E_ret ?_))
 obtain rfl := sinj h
 exact end1 rfl rfl (show _ = v6 from rfl) ⟨_, hfr, r6⟩
def f66 (x0 : LoomStill) (x1 : LoomRun) : Option (Bool) :=
 Option.bind (α := Bool) (
  bif (decide ((x1).From ≤ (((x0).LoomStop).Days).High)) then
   (f73 ((x0).mill) x1).bind fun j1 =>
   some ((decide (j1 > (((x0).LoomStop).Days).Low)))
  else
   some (false)
  ) fun u0 =>
 some (u0)
theorem en66 : Enters Try.prog 66 := enters_of Try.func66 (by kernel_rfl) rfl
theorem wk66 {gI : Gh} {wI : World} {x0 : LoomStill} {x1 : LoomRun} {up0 : Value} (rp0 : RV gI.m wI x0 up0) {up1 : Value} (rp1 : RV gI.m wI x1 up1) {r : Bool} (h : f66 x0 x1 = some r) : Fn Try.prog 66 #[up0, up1] gI wI (fun _ _ v => v = .bool (r)) := by
 unfold f66 at h
 refine fn_of_E Try.func66 rfl (Nat.le_of_ble_eq_true rfl) fun g0 hm hfr => ?_
 have rp0 : RV g0.m wI x0 up0 := hm ▸ rp0
 have rp1 : RV g0.m wI x1 up1 := hm ▸ rp1
 show E _ 23 none _ _ _ _ _
 refine E_seq (E_region (EL_do .plain rfl (D_box (g := g0) rfl rp0 fun g1 w1 p1 hs q1 => ?_)))
 have hfr := hfr.ext hs
 have rp1 := rp1.ext hs
 refine EL_do .plain rfl (D_box (g := g1) rfl rp1 fun g2 w2 p2 hs q2 => ?_)
 have hfr := hfr.ext hs
 have q1 := q1.ext hs
 refine EL_at (.bool false) rfl rfl ?_
 refine EL_nil (thn_n ?_)
 obtain ⟨u0, hx, h⟩ := bsome h
 refine E_join (fun e w => ∃ (g : Gh) , Fr gI wI g w ∧ e 4 = .bool (u0)) (fun Q' hQ => ?_) (fun l6 v6 hR => ?_)
 ·replace h := hx
  clear hx
  have o5 := PT_field (part_LoomRun_2).1 q2
  refine L_load (x := .tmp 5) Try.isAgg3 Try.sizeOf3 o5 fun z6 p5 z2 => ?_
  obtain rfl := RV_int.1 p5
  have d3 := PT_field (part_LoomStill_1).1 q1
  have i3 := PT_field (part_LoomStop_1).1 d3
  have q5 := PT_field (part_Span_1).1 i3
  refine L_load (x := .tmp 9) Try.isAgg3 Try.sizeOf3 q5 fun a7 t5 j3 => ?_
  obtain rfl := RV_int.1 t5
  rcases csome h with ⟨o0, h⟩ | ⟨o0, h⟩
  ·have u5 := PT_field (part_LoomStill_0).1 q1
   refine L_load (x := .tmp 13) Try.isAgg96 Try.sizeOf96 u5 fun u3 x5 p4 => ?_
   refine L_load (x := .tmp 3) Try.isAgg76 Try.sizeOf76 q2 fun z3 c6 z4 => ?_
   obtain ⟨j1, d5, h⟩ := bsome h
   have d4 := PT_field (part_LoomStill_1).1 q1
   have m4 := PT_field (part_LoomStop_1).1 d4
   have d6 := PT_field (part_Span_0).1 m4
   refine L_load (x := .tmp 19) Try.isAgg3 Try.sizeOf3 d6 fun b7 i6 i5 => ?_
   obtain rfl := RV_int.1 i6
   refine E_drawL (g := g2) (n := 19) [(11, (fun v g w => v = .int .i64 (j1)))] [0, 1, 2, 3, 4, 5, 6, 7, 8, 9, 10, 11, 12, 13, 14, 15, 16, 17, 18] rfl mixed (by kernel_rfl) (⟨fun _ => up_eq _, trivial⟩) ?_
   refine L_pur (c := fPtr p2 2) rfl rfl .plain (fun _ _ hd => P_fieldAddr at_76_2 rfl (PT.ptr q2)) ?_
   refine L_ld (c := .int .i64 ((x1).From)) rfl rfl .plain (fun _ _ h => h.ch) z2 rfl ?_
   refine L_pur (c := fPtr p1 3) rfl rfl .plain (fun _ _ hd => P_fieldAddr at_113_1 rfl (PT.ptr q1)) ?_
   refine L_pur (c := fPtr (fPtr p1 3) 1) rfl rfl .plain (fun _ _ hd => P_fieldAddr at_54_1 rfl (PT.ptr d3)) ?_
   refine L_pur (c := fPtr (fPtr (fPtr p1 3) 1) 1) rfl rfl .plain (fun _ _ hd => P_fieldAddr at_48_1 rfl (PT.ptr i3)) ?_
   refine L_ld (c := .int .i64 ((((x0).LoomStop).Days).High)) rfl rfl .plain (fun _ _ h => h.ch) j3 rfl ?_
   refine L_pur (c := .bool ((decide ((x1).From ≤ (((x0).LoomStop).Days).High)))) rfl rfl .plain (fun _ _ hd => P_int rfl rfl rfl) ?_
   refine L_pur (c := .bool ((decide ((x1).From ≤ (((x0).LoomStop).Days).High)))) rfl rfl .plain (fun _ _ hd => P_move rfl) ?_
   refine L_pur (c := fPtr p1 0) rfl rfl (.yes2 rfl rfl o0) (fun _ _ hd => P_fieldAddr at_113_0 rfl (PT.ptr q1)) ?_
   refine L_ld (c := u3) rfl rfl (.yes2 rfl rfl o0) (fun _ _ h => h.ch) p4 rfl ?_
   refine L_ld (c := z3) rfl rfl (.yes2 rfl rfl o0) (fun _ _ h => h.ch) z4 rfl ?_
   refine L_do (φ := fun v g w => v = .int .i64 (j1)) rfl rfl (.yes2 rfl rfl o0) (fun g w hd => D_call (g := g) (vs := [u3, z3]) en73 (.cons rfl (.cons rfl .nil)) (wk73 (x5.ext hd.1) (c6.ext hd.1) d5) fun g' w' v hs hr => ⟨g', hs, hr⟩) (fun c7 hv => ?_)
   obtain ⟨_, _, _, rfl⟩ := hv
   refine L_pur (c := fPtr p1 3) rfl rfl (.yes2 rfl rfl o0) (fun _ _ hd => P_fieldAddr at_113_1 rfl (PT.ptr q1)) ?_
   refine L_pur (c := fPtr (fPtr p1 3) 1) rfl rfl (.yes2 rfl rfl o0) (fun _ _ hd => P_fieldAddr at_54_1 rfl (PT.ptr d4)) ?_
   refine L_pur (c := fPtr (fPtr (fPtr p1 3) 1) 0) rfl rfl (.yes2 rfl rfl o0) (fun _ _ hd => P_fieldAddr at_48_0 rfl (PT.ptr m4)) ?_
   refine L_ld (c := .int .i64 ((((x0).LoomStop).Days).Low)) rfl rfl (.yes2 rfl rfl o0) (fun _ _ h => h.ch) i5 rfl ?_
   refine L_pur (c := .bool ((decide (j1 > (((x0).LoomStop).Days).Low)))) rfl rfl (.yes2 rfl rfl o0) (fun _ _ hd => P_int rfl rfl rfl) ?_
   refine L_pur (c := .bool ((decide (j1 > (((x0).LoomStop).Days).Low)))) rfl rfl .plain (fun _ _ hd => P_pick (b := (decide ((x1).From ≤ (((x0).LoomStop).Days).High))) rfl (pick_t o0 rfl)) ?_
   refine L_pur (c := .bool ((decide (j1 > (((x0).LoomStop).Days).Low)))) rfl rfl .plain (fun _ _ hd => P_assign rfl) ?_
   refine L_nil fun j6 d7 hall => ?_
   have hs := hall.1
   have hfr := hfr.ext hs
   clear hs hall
   refine EL_nil ?_
   obtain rfl := sinj h
   exact hQ _ _ ⟨j6, hfr, rfl⟩
  ·refine E_drawL (g := g2) (n := 19) [] [0, 1, 2, 3, 4, 5, 6, 7, 8, 9, 10, 11, 12, 13, 14, 15, 16, 17, 18] rfl mixed (by kernel_rfl) trivial ?_
   refine L_pur (c := fPtr p2 2) rfl rfl .plain (fun _ _ hd => P_fieldAddr at_76_2 rfl (PT.ptr q2)) ?_
   refine L_ld (c := .int .i64 ((x1).From)) rfl rfl .plain (fun _ _ h => h.ch) z2 rfl ?_
   refine L_pur (c := fPtr p1 3) rfl rfl .plain (fun _ _ hd => P_fieldAddr at_113_1 rfl (PT.ptr q1)) ?_
   refine L_pur (c := fPtr (fPtr p1 3) 1) rfl rfl .plain (fun _ _ hd => P_fieldAddr at_54_1 rfl (PT.ptr d3)) ?_
   refine L_pur (c := fPtr (fPtr (fPtr p1 3) 1) 1) rfl rfl .plain (fun _ _ hd => P_fieldAddr at_48_1 rfl (PT.ptr i3)) ?_
   refine L_ld (c := .int .i64 ((((x0).LoomStop).Days).High)) rfl rfl .plain (fun _ _ h => h.ch) j3 rfl ?_
   refine L_pur (c := .bool ((decide ((x1).From ≤ (((x0).LoomStop).Days).High)))) rfl rfl .plain (fun _ _ hd => P_int rfl rfl rfl) ?_
   refine L_pur (c := .bool ((decide ((x1).From ≤ (((x0).LoomStop).Days).High)))) rfl rfl .plain (fun _ _ hd => P_move rfl) ?_
   refine L_skip rfl (.no2 rfl rfl o0 rfl) ?_
   refine L_skip rfl (.no2 rfl rfl o0 rfl) ?_
   refine L_skip rfl (.no2 rfl rfl o0 rfl) ?_
   refine L_skip rfl (.no2 rfl rfl o0 rfl) ?_
   refine L_skip rfl (.no2 rfl rfl o0 rfl) ?_
   refine L_skip rfl (.no2 rfl rfl o0 rfl) ?_
   refine L_skip rfl (.no2 rfl rfl o0 rfl) ?_
   refine L_skip rfl (.no2 rfl rfl o0 rfl) ?_
   refine L_skip rfl (.no2 rfl rfl o0 rfl) ?_
   refine L_pur (c := .bool false) rfl rfl .plain (fun _ _ hd => P_pick (b := (decide ((x1).From ≤ (((x0).LoomStop).Days).High))) rfl (pick_f o0 rfl)) ?_
   refine L_pur (c := .bool false) rfl rfl .plain (fun _ _ hd => P_assign rfl) ?_
   refine L_nil fun l5 x6 hall => ?_
   have hs := hall.1
   have hfr := hfr.ext hs
   clear hs hall
   refine EL_nil ?_
   obtain rfl := sinj h
   exact hQ _ _ ⟨l5, hfr, rfl⟩
 ·clear hx
  obtain ⟨y6, hfr, o3⟩ := hR
  refine E_ret ?_
  obtain rfl := sinj h
  exact end1 rfl rfl (show _ = .bool (u0) from o3) ⟨_, hfr, rfl⟩
def f69 (x0 : LoomLoomMill) (x1 : LoomRun) (x2 : Int) : Option (Int) :=
 jn (σ := Unit) (fun (_ : Unit) =>
  (f73 x0 x1).bind fun o0 =>
  some ((w64 (o0 + ((x0).LoomMill).Change)))
  ) fun d5 =>
 (idx ((x0).orders) (x1).Order).bind fun z2 =>
 (idx ((x0).orders) x2).bind fun d3 =>
 bif ((z2).Chain == (d3).Chain) then
  (f73 x0 x1).bind fun i3 =>
  some (i3)
 else
  d5 ()
theorem en69 : Enters Try.prog 69 := enters_of Try.func69 (by kernel_rfl) rfl
theorem wk69 {gI : Gh} {wI : World} {x0 : LoomLoomMill} {x1 : LoomRun} {x2 : Int} {up0 : Value} (rp0 : RV gI.m wI x0 up0) {up1 : Value} (rp1 : RV gI.m wI x1 up1) {r : Int} (h : f69 x0 x1 x2 = some r) : Fn Try.prog 69 #[up0, up1, .int .i64 (x2)] gI wI (fun _ _ v => v = .int .i64 (r)) := by
 unfold f69 at h
 refine fn_of_E Try.func69 rfl (Nat.le_of_ble_eq_true rfl) fun g0 hm hfr => ?_
 have rp0 : RV g0.m wI x0 up0 := hm ▸ rp0
 have rp1 : RV g0.m wI x1 up1 := hm ▸ rp1
 show E _ 31 none _ _ _ _ _
 refine E_seq (E_region (EL_do .plain rfl (D_box (g := g0) rfl rp0 fun g1 w1 p1 hs q1 => ?_)))
 have hfr := hfr.ext hs
 have rp1 := rp1.ext hs
 refine EL_do .plain rfl (D_box (g := g1) rfl rp1 fun g2 w2 p2 hs q2 => ?_)
 have hfr := hfr.ext hs
 have q1 := q1.ext hs
 refine EL_at (.int .i64 (0)) rfl rfl ?_
 refine EL_nil (thn_n (E_joinC h (fun (s : Unit) e w => ∃ (g : Gh) , Fr gI wI g w ∧ e 3 = p1 ∧ PT g.m w (x0 : LoomLoomMill) p1 ∧ e 4 = p2 ∧ PT g.m w (x1 : LoomRun) p2) (fun X43 d5 x5 h => ?_) ?_))
 ·refine E_seq ?_
  have b7 := PT_field (part_LoomLoomMill_1).1 q1
  refine L_load (x := .tmp 7) Try.isAgg25 Try.sizeOf25 b7 fun u3 i5 c6 => ?_
  have c7 := PT_field (part_LoomRun_0).1 q2
  refine L_load (x := .tmp 9) Try.isAgg3 Try.sizeOf3 c7 fun k8 d7 d6 => ?_
  obtain rfl := RV_int.1 d7
  obtain ⟨z2, z3, h⟩ := bsome h
  have l5 := PT_idx i5 z3
  have e7 := PT_field (part_LoomOrder_1).1 l5
  refine L_load (x := .tmp 12) Try.isAgg3 Try.sizeOf3 e7 fun l8 g7 i6 => ?_
  obtain rfl := RV_int.1 g7
  have i7 := PT_field (part_LoomLoomMill_1).1 q1
  refine L_load (x := .tmp 14) Try.isAgg25 Try.sizeOf25 i7 fun d4 o5 j6 => ?_
  obtain ⟨d3, m4, h⟩ := bsome h
  have p5 := PT_idx o5 m4
  have j7 := PT_field (part_LoomOrder_1).1 p5
  refine L_load (x := .tmp 18) Try.isAgg3 Try.sizeOf3 j7 fun m8 m7 l6 => ?_
  obtain rfl := RV_int.1 m7
  refine E_drawL (g := g2) (n := 14) [] [0, 1, 2, 3, 4, 5, 6, 7, 8, 9, 10, 11, 12, 13] rfl mixed (by kernel_rfl) trivial ?_
  refine L_pur (c := fPtr p1 2) rfl rfl .plain (fun _ _ hd => P_fieldAddr at_96_1 rfl (PT.ptr q1)) ?_
  refine L_ld (c := u3) rfl rfl .plain (fun _ _ h => h.ch) c6 rfl ?_
  refine L_pur (c := fPtr p2 0) rfl rfl .plain (fun _ _ hd => P_fieldAddr at_76_0 rfl (PT.ptr q2)) ?_
  refine L_ld (c := .int .i64 ((x1).Order)) rfl rfl .plain (fun _ _ h => h.ch) d6 rfl ?_
  refine L_pur (c := ePtr u3 (x1).Order 5) rfl rfl .plain (fun _ _ hd => P_indexAddr (α := LoomOrder) Try.underlying25 Try.sizeOf82 rfl i5 rfl z3) ?_
  refine L_pur (c := fPtr (ePtr u3 (x1).Order 5) 1) rfl rfl .plain (fun _ _ hd => P_fieldAddr at_82_1 rfl (PT.ptr l5)) ?_
  refine L_ld (c := .int .i64 ((z2).Chain)) rfl rfl .plain (fun _ _ h => h.ch) i6 rfl ?_
  refine L_pur (c := fPtr p1 2) rfl rfl .plain (fun _ _ hd => P_fieldAddr at_96_1 rfl (PT.ptr q1)) ?_
  refine L_ld (c := d4) rfl rfl .plain (fun _ _ h => h.ch) j6 rfl ?_
  refine L_pur (c := .int .i64 (x2)) rfl rfl .plain (fun _ _ hd => P_move rfl) ?_
  refine L_pur (c := ePtr d4 x2 5) rfl rfl .plain (fun _ _ hd => P_indexAddr (α := LoomOrder) Try.underlying25 Try.sizeOf82 rfl o5 rfl m4) ?_
  refine L_pur (c := fPtr (ePtr d4 x2 5) 1) rfl rfl .plain (fun _ _ hd => P_fieldAddr at_82_1 rfl (PT.ptr p5)) ?_
  refine L_ld (c := .int .i64 ((d3).Chain)) rfl rfl .plain (fun _ _ h => h.ch) l6 rfl ?_
  refine L_pur (c := .bool (((z2).Chain == (d3).Chain))) rfl rfl .plain (fun _ _ hd => P_int rfl rfl rfl) ?_
  refine L_nil fun j3 n8 hall => ?_
  have hs := hall.1
  have hfr := hfr.ext hs
  have q1 := q1.ext hs
  have q2 := q2.ext hs
  clear hs hall
  refine EL_nil (thn_n ?_)
  rcases csome h with ⟨j1, h⟩ | ⟨j1, h⟩
  ·refine E_ct j1 rfl ?_
   refine E_seq (E_region (EL_do .plain rfl (D_load (g := j3) Try.isAgg96 Try.sizeOf96 rfl q1 fun n7 o7 => ?_)))
   refine EL_do .plain rfl (D_load (g := j3) Try.isAgg76 Try.sizeOf76 rfl q2 fun p7 q7 => ?_)
   obtain ⟨i3, v6, h⟩ := bsome h
   refine EL_do .plain rfl (D_call (g := j3) (vs := [n7, p7]) en73 (.cons rfl (.cons rfl .nil)) (wk73 o7 q7 v6) fun o8 g8 p8 hs hr => ?_)
   have hfr := hfr.ext hs
   subst hr
   refine EL_at (.int .i64 (i3)) rfl rfl ?_
   refine EL_nil (thn_n (E_ret (thn_r ?_)))
   obtain rfl := sinj h
   exact end1 rfl rfl (show _ = .int .i64 (i3) from rfl) ⟨_, hfr, rfl⟩
  ·refine E_cf j1 rfl ?_
   exact E_skip (thn_n (x5 () _ _ ⟨j3, hfr, rfl, q1, rfl, q2⟩ h))
 ·rintro _ i8 q8 ⟨t7, hfr, o3, u0, p4, z4⟩ h
  refine E_seq (L_load (x := .tmp 3) Try.isAgg96 Try.sizeOf96 u0 fun q5 u7 x6 => ?_)
  refine L_load (x := .tmp 4) Try.isAgg76 Try.sizeOf76 z4 fun t5 v7 y6 => ?_
  obtain ⟨o0, z6, h⟩ := bsome h
  have u5 := PT_field (part_LoomLoomMill_0).1 u0
  have c8 := PT_field (part_LoomMill_1).1 u5
  refine L_load (x := .tmp 28) Try.isAgg3 Try.sizeOf3 c8 fun r8 e8 a7 => ?_
  obtain rfl := RV_int.1 e8
  refine E_drawL (g := t7) (n := 8) [(2, (fun v g w => v = .int .i64 (o0)))] [0, 1, 2, 3, 4, 5, 6, 7] rfl mixed (by kernel_rfl) (⟨fun _ => up_eq _, trivial⟩) ?_
  refine L_ld (c := q5) rfl rfl .plain (fun _ _ h => h.ch) x6 o3 ?_
  refine L_ld (c := t5) rfl rfl .plain (fun _ _ h => h.ch) y6 p4 ?_
  refine L_do (φ := fun v g w => v = .int .i64 (o0)) rfl rfl .plain (fun g w hd => D_call (g := g) (vs := [q5, t5]) en73 (.cons rfl (.cons rfl .nil)) (wk73 (u7.ext hd.1) (v7.ext hd.1) z6) fun g' w' v hs hr => ⟨g', hs, hr⟩) (fun t8 hv => ?_)
  obtain ⟨_, _, _, rfl⟩ := hv
  refine L_pur (c := fPtr p1 0) rfl rfl .plain (fun _ _ hd => P_fieldAddr at_96_0 o3 (PT.ptr u0)) ?_
  refine L_pur (c := fPtr (fPtr p1 0) 1) rfl rfl .plain (fun _ _ hd => P_fieldAddr at_24_1 rfl (PT.ptr u5)) ?_
  refine L_ld (c := .int .i64 (((x0).LoomMill).Change)) rfl rfl .plain (fun _ _ h => h.ch) a7 rfl ?_
  refine L_pur (c := .int .i64 ((w64 (o0 + ((x0).LoomMill).Change)))) rfl rfl .plain (fun _ _ hd => P_int rfl rfl rfl) ?_
  refine L_pur (c := .int .i64 ((w64 (o0 + ((x0).LoomMill).Change)))) rfl rfl .plain (fun _ _ hd => P_assign rfl) ?_
  refine L_nil fun v8 x8 hall => ?_
  have hs := hall.1
  have hfr := hfr.ext hs
  clear hs hall
  refine EL_nil (thn_n (E_ret ?_))
  obtain rfl := sinj h
  exact end1 rfl rfl (show _ = .int .i64 ((w64 (o0 + ((x0).LoomMill).Change))) from rfl) ⟨_, hfr, rfl⟩
def f72 (x0 : List LoomRun) (x1 : LoomRun → Option Bool) : Option (Bool) :=
 (f91 x0 x1).bind fun y2 =>
 some ((decide (y2 ≥ (0 : Int))))
theorem en72 : Enters Try.prog 72 := enters_of Try.func72 (by kernel_rfl) rfl
theorem wk72 {gI : Gh} {wI : World} {x0 : List LoomRun} {x1 : LoomRun → Option Bool} {up0 : Value} (rp0 : RV gI.m wI x0 up0) {up1 : Value} (rp1 : FnV1 Try.prog x1 up1 gI wI) {r : Bool} (h : f72 x0 x1 = some r) : Fn Try.prog 72 #[up0, up1] gI wI (fun _ _ v => v = .bool (r)) := by
 unfold f72 at h
 refine fn_of_E Try.func72 rfl (Nat.le_of_ble_eq_true rfl) fun g0 hm hfr => ?_
 have rp0 : RV g0.m wI x0 up0 := hm ▸ rp0
 obtain ⟨ff1, fa1, fc1, rfl, fen1, fcl1⟩ := rp1
 show E _ 9 none _ _ _ _ _
 refine E_seq (E_region (EL_at (.bool false) rfl rfl ?_))
 refine EL_nil (thn_n (E_seq (E_region (EL_mw up0 rfl rfl ?_))))
 refine EL_mw ((.func (.func ff1) fa1 fc1)) rfl rfl ?_
 obtain ⟨y2, hy2, h⟩ := bsome h
 refine EL_do .plain rfl (D_call (g := g0) (vs := [up0, (.func (.func ff1) fa1 fc1)]) en91 (.cons rfl (.cons rfl .nil)) (wk91 rp0 (FnV1.ch ⟨_, _, _, rfl, fen1, fcl1⟩ hfr.ch) hy2) fun g1 w1_ v1 hs hr => ?_)
 have hfr := hfr.ext hs
 subst hr
 refine EL_in (.bool ((decide (y2 ≥ (0 : Int))))) rfl rfl rfl rfl ?_
 refine EL_at (.bool ((decide (y2 ≥ (0 : Int))))) rfl rfl ?_
 refine EL_nil (thn_n (E_ret ?_))
 obtain rfl := sinj h
 exact end1 rfl rfl (show _ = .bool ((decide (y2 ≥ (0 : Int)))) from rfl) ⟨_, hfr, rfl⟩
def f82 (x0 : List LoomOrder) (x1 : LoomOrder → Option Bool) : Option (Bool) :=
 (f97 x0 x1).bind fun y2 =>
 some ((decide (y2 ≥ (0 : Int))))
theorem en82 : Enters Try.prog 82 := enters_of Try.func82 (by kernel_rfl) rfl
theorem wk82 {gI : Gh} {wI : World} {x0 : List LoomOrder} {x1 : LoomOrder → Option Bool} {up0 : Value} (rp0 : RV gI.m wI x0 up0) {up1 : Value} (rp1 : FnV1 Try.prog x1 up1 gI wI) {r : Bool} (h : f82 x0 x1 = some r) : Fn Try.prog 82 #[up0, up1] gI wI (fun _ _ v => v = .bool (r)) := by
 unfold f82 at h
 refine fn_of_E Try.func82 rfl (Nat.le_of_ble_eq_true rfl) fun g0 hm hfr => ?_
 have rp0 : RV g0.m wI x0 up0 := hm ▸ rp0
 obtain ⟨ff1, fa1, fc1, rfl, fen1, fcl1⟩ := rp1
 show E _ 9 none _ _ _ _ _
 refine E_seq (E_region (EL_at (.bool false) rfl rfl ?_))
 refine EL_nil (thn_n (E_seq (E_region (EL_mw up0 rfl rfl ?_))))
 refine EL_mw ((.func (.func ff1) fa1 fc1)) rfl rfl ?_
 obtain ⟨y2, hy2, h⟩ := bsome h
 refine EL_do .plain rfl (D_call (g := g0) (vs := [up0, (.func (.func ff1) fa1 fc1)]) en97 (.cons rfl (.cons rfl .nil)) (wk97 rp0 (FnV1.ch ⟨_, _, _, rfl, fen1, fcl1⟩ hfr.ch) hy2) fun g1 w1_ v1 hs hr => ?_)
 have hfr := hfr.ext hs
 subst hr
 refine EL_in (.bool ((decide (y2 ≥ (0 : Int))))) rfl rfl rfl rfl ?_
 refine EL_at (.bool ((decide (y2 ≥ (0 : Int))))) rfl rfl ?_
 refine EL_nil (thn_n (E_ret ?_))
 obtain rfl := sinj h
 exact end1 rfl rfl (show _ = .bool ((decide (y2 ≥ (0 : Int)))) from rfl) ⟨_, hfr, rfl⟩
def f84 (x0 : Int) : Option (It Int) :=
 some ((fun σ cons s => f99 x0 σ cons s))
theorem en84 : Enters Try.prog 84 := enters_of Try.func84 (by kernel_rfl) rfl
theorem wk84 {gI : Gh} {wI : World} {x0 : Int}  {r : It Int} (h : f84 x0 = some r) : Fn Try.prog 84 #[.int .i64 (x0)] gI wI (fun m w v => ItV Try.prog (RA1 (α := Int)) (r) v m w) := by
 unfold f84 at h
 refine fn_of_E Try.func84 rfl (Nat.le_of_ble_eq_true rfl) fun g0 hm hfr => ?_
 show E _ 4 none _ _ _ _ _
 refine E_seq (E_region (EL_do .plain rfl (D_box (g := g0) rfl (RV_int.2 rfl) fun g1 w1 p1 hs q1 => ?_)))
 have hfr := hfr.ext hs
 refine EL_at (.nilFunc) rfl rfl ?_
 refine EL_nil (thn_n (E_seq (E_region (EL_pur (v := (.func (.func 99) #[] #[p1])) (P_makeFunc (capf_0_1 (show ev _ _ = p1 from rfl))) .plain rfl ?_))))
 refine EL_at ((.func (.func 99) #[] #[p1])) rfl rfl ?_
 refine EL_nil (thn_n (E_ret ?_))
 obtain rfl := sinj h
 exact end1 rfl rfl (show _ = (.func (.func 99) #[] #[p1]) from rfl) ⟨_, hfr, (show ItV Try.prog (RA1 (α := Int)) (fun σ cons s => f99 x0 σ cons s) ((.func (.func 99) #[] #[p1])) g1.m w1 from ⟨99, #[], #[p1], rfl, en99, fun g' w' hch σ cons s s' h => wk99  (q1.ch hch) h⟩)⟩
def f90 (x0 : Int) (x1 : Int) : Option (Int) :=
 (f102 x0).bind fun y2 =>
 (f102 x1).bind fun y4 =>
 jn (σ := Unit) (fun (_ : Unit) =>
  jn (σ := Unit) (fun (_ : Unit) =>
   jn (σ := Unit) (fun (_ : Unit) =>
    jn (σ := Unit) (fun (_ : Unit) =>
     some ((0 : Int))
     ) fun p4 =>
    bif (decide (x0 > x1)) then
     some ((1 : Int))
    else
     p4 ()
    ) fun z4 =>
   bif (decide (x0 < x1)) then
    some ((-1 : Int))
   else
    z4 ()
   ) fun k18 =>
  bif y4 then
   some ((1 : Int))
  else
   k18 ()
  ) fun d5 =>
 bif y2 then
  jn (σ := Unit) (fun (_ : Unit) =>
   some ((-1 : Int))
   ) fun i5 =>
  bif y4 then
   some ((0 : Int))
  else
   i5 ()
 else
  d5 ()
theorem en90 : Enters Try.prog 90 := enters_of Try.func90 (by kernel_rfl) rfl
theorem wk90 {gI : Gh} {wI : World} {x0 : Int} {x1 : Int}  {r : Int} (h : f90 x0 x1 = some r) : Fn Try.prog 90 #[.int .i64 (x0), .int .i64 (x1)] gI wI (fun _ _ v => v = .int .i64 (r)) := by
 unfold f90 at h
 refine fn_of_E Try.func90 rfl (Nat.le_of_ble_eq_true rfl) fun g0 hm hfr => ?_
 show E _ 20 none _ _ _ _ _
 refine E_seq (E_region (EL_at (.int .i64 (0)) rfl rfl ?_))
 refine EL_nil (thn_n (E_seq (E_region (EL_mw (.int .i64 (x0)) rfl rfl ?_))))
 obtain ⟨y2, hy2, h⟩ := bsome h
 refine EL_do .plain rfl (D_call (g := g0) (vs := [.int .i64 (x0)]) en102 (.cons rfl .nil) (wk102  hy2) fun g1 w1_ v1 hs hr => ?_)
 have hfr := hfr.ext hs
 subst hr
 refine EL_at (.bool (y2)) rfl rfl ?_
 refine EL_nil (thn_n (E_seq (E_region (EL_mw (.int .i64 (x1)) rfl rfl ?_))))
 obtain ⟨y4, u5, h⟩ := bsome h
 refine EL_do .plain rfl (D_call (g := g1) (vs := [.int .i64 (x1)]) en102 (.cons rfl .nil) (wk102  u5) fun g3 w3_ v3 hs hr => ?_)
 have hfr := hfr.ext hs
 subst hr
 refine EL_at (.bool (y4)) rfl rfl ?_
 refine EL_nil (thn_n (E_joinC h (fun (s : Unit) e w => ∃ (g : Gh) , Fr gI wI g w ∧ e 0 = .int .i64 (x0) ∧ e 1 = .int .i64 (x1) ∧ e 6 = .bool (y4)) (fun X10 d5 l5 h => ?_) ?_))
 ·refine E_seq (E_region (EL_mw (.bool (y2)) rfl rfl ?_))
  refine EL_nil (thn_n ?_)
  rcases csome h with ⟨o0, h⟩ | ⟨o0, h⟩
  ·refine E_ct o0 rfl ?_
   refine E_joinC h (fun (s : Unit) e w => ∃ (g : Gh) , Fr gI wI g w) (fun X13 i5 o5 h => ?_) ?_
   ·refine E_seq (E_region (EL_mw (.bool (y4)) rfl rfl ?_))
    refine EL_nil (thn_n ?_)
    rcases csome h with ⟨u0, h⟩ | ⟨u0, h⟩
    ·refine E_ct u0 rfl ?_
     refine E_seq (E_region (EL_at (.int .i64 (0)) rfl rfl ?_))
     refine EL_nil (thn_n (E_ret (thn_r ?_)))
     refine thn_r ?_
     obtain rfl := sinj h
     exact end1 rfl rfl (show _ = .int .i64 (0) from rfl) ⟨_, hfr, rfl⟩
    ·refine E_cf u0 rfl ?_
     exact E_skip (thn_n (o5 () _ _ ⟨g3, hfr⟩ h))
   ·rintro _ i6 w15 ⟨y6, hfr⟩ h
    refine E_seq (E_region (EL_at (.int .i64 (-1)) rfl rfl ?_))
    refine EL_nil (thn_n (E_ret (thn_r ?_)))
    obtain rfl := sinj h
    exact end1 rfl rfl (show _ = .int .i64 (-1) from rfl) ⟨_, hfr, rfl⟩
  ·refine E_cf o0 rfl ?_
   exact E_skip (thn_n (l5 () _ _ ⟨g3, hfr, rfl, rfl, rfl⟩ h))
 ·rintro _ j6 z6 ⟨x5, hfr, o3, u3, z3⟩ h
  refine E_joinC h (fun (s : Unit) e w => ∃ (g : Gh) , Fr gI wI g w ∧ e 0 = .int .i64 (x0) ∧ e 1 = .int .i64 (x1)) (fun X18 k18 p5 h => ?_) ?_
  ·refine E_seq (E_region (EL_mv z3 rfl ?_))
   refine EL_nil (thn_n ?_)
   rcases csome h with ⟨j1, h⟩ | ⟨j1, h⟩
   ·refine E_ct j1 rfl ?_
    refine E_seq (E_region (EL_at (.int .i64 (1)) rfl rfl ?_))
    refine EL_nil (thn_n (E_ret (thn_r ?_)))
    obtain rfl := sinj h
    exact end1 rfl rfl (show _ = .int .i64 (1) from rfl) ⟨_, hfr, rfl⟩
   ·refine E_cf j1 rfl ?_
    exact E_skip (thn_n (p5 () _ _ ⟨x5, hfr, o3, u3⟩ h))
  ·rintro _ l6 a7 ⟨c6, hfr, i3, j3⟩ h
   refine E_joinC h (fun (s : Unit) e w => ∃ (g : Gh) , Fr gI wI g w ∧ e 0 = .int .i64 (x0) ∧ e 1 = .int .i64 (x1)) (fun X22 z4 q5 h => ?_) ?_
   ·refine E_seq (E_region (EL_mv i3 rfl ?_))
    refine EL_mv j3 rfl ?_
    refine EL_in (.bool ((decide (x0 < x1)))) rfl rfl rfl rfl ?_
    refine EL_nil (thn_n ?_)
    rcases csome h with ⟨z2, h⟩ | ⟨z2, h⟩
    ·refine E_ct z2 rfl ?_
     refine E_seq (E_region (EL_at (.int .i64 (-1)) rfl rfl ?_))
     refine EL_nil (thn_n (E_ret (thn_r ?_)))
     obtain rfl := sinj h
     exact end1 rfl rfl (show _ = .int .i64 (-1) from rfl) ⟨_, hfr, rfl⟩
    ·refine E_cf z2 rfl ?_
     exact E_skip (thn_n (q5 () _ _ ⟨c6, hfr, i3, j3⟩ h))
   ·rintro _ v6 b7 ⟨d6, hfr, d4, m4⟩ h
    refine E_joinC h (fun (s : Unit) e w => ∃ (g : Gh) , Fr gI wI g w) (fun X26 p4 t5 h => ?_) ?_
    ·refine E_seq (E_region (EL_mv d4 rfl ?_))
     refine EL_mv m4 rfl ?_
     refine EL_in (.bool ((decide (x0 > x1)))) rfl rfl rfl rfl ?_
     refine EL_nil (thn_n ?_)
     rcases csome h with ⟨d3, h⟩ | ⟨d3, h⟩
     ·refine E_ct d3 rfl ?_
      refine E_seq (E_region (EL_at (.int .i64 (1)) rfl rfl ?_))
      refine EL_nil (thn_n (E_ret (thn_r ?_)))
      obtain rfl := sinj h
      exact end1 rfl rfl (show _ = .int .i64 (1) from rfl) ⟨_, hfr, rfl⟩
     ·refine E_cf d3 rfl ?_
      exact E_skip (thn_n (t5 () _ _ ⟨d6, hfr⟩ h))
    ·rintro _ x6 c7 ⟨d7, hfr⟩ h
     refine E_seq (E_region (EL_at (.int .i64 (0)) rfl rfl ?_))
     refine EL_nil (thn_n (E_ret ?_))
     obtain rfl := sinj h
     exact end1 rfl rfl (show _ = .int .i64 (0) from rfl) ⟨_, hfr, rfl⟩
def f95 (x0 : List Int) (x1 : Int → Option Bool) : Option (Bool) :=
 (f104 x0 x1).bind fun y2 =>
 some ((decide (y2 ≥ (0 : Int))))
theorem en95 : Enters Try.prog 95 := enters_of Try.func95 (by kernel_rfl) rfl
theorem wk95 {gI : Gh} {wI : World} {x0 : List Int} {x1 : Int → Option Bool} {up0 : Value} (rp0 : RV gI.m wI x0 up0) {up1 : Value} (rp1 : FnV1 Try.prog x1 up1 gI wI) {r : Bool} (h : f95 x0 x1 = some r) : Fn Try.prog 95 #[up0, up1] gI wI (fun _ _ v => v = .bool (r)) := by
 unfold f95 at h
 refine fn_of_E Try.func95 rfl (Nat.le_of_ble_eq_true rfl) fun g0 hm hfr => ?_
 have rp0 : RV g0.m wI x0 up0 := hm ▸ rp0
 obtain ⟨ff1, fa1, fc1, rfl, fen1, fcl1⟩ := rp1
 show E _ 9 none _ _ _ _ _
 refine E_seq (E_region (EL_at (.bool false) rfl rfl ?_))
 refine EL_nil (thn_n (E_seq (E_region (EL_mw up0 rfl rfl ?_))))
 refine EL_mw ((.func (.func ff1) fa1 fc1)) rfl rfl ?_
 obtain ⟨y2, hy2, h⟩ := bsome h
 refine EL_do .plain rfl (D_call (g := g0) (vs := [up0, (.func (.func ff1) fa1 fc1)]) en104 (.cons rfl (.cons rfl .nil)) (wk104 rp0 (FnV1.ch ⟨_, _, _, rfl, fen1, fcl1⟩ hfr.ch) hy2) fun g1 w1_ v1 hs hr => ?_)
 have hfr := hfr.ext hs
 subst hr
 refine EL_in (.bool ((decide (y2 ≥ (0 : Int))))) rfl rfl rfl rfl ?_
 refine EL_at (.bool ((decide (y2 ≥ (0 : Int))))) rfl rfl ?_
 refine EL_nil (thn_n (E_ret ?_))
 obtain rfl := sinj h
 exact end1 rfl rfl (show _ = .bool ((decide (y2 ≥ (0 : Int)))) from rfl) ⟨_, hfr, rfl⟩
def f98 (x0 : LoomLoomMill) (x1 : Vector (Vector Int 7) 128) (x2 : Int) (x3 : Int) (x4 : Int) (x5 : List (Int × LoomRun)) : Option (Int) :=
 (shl64 (1 : Int) x3).bind fun y2 =>
 jn (σ := Unit) (fun (_ : Unit) =>
  Option.bind (α := Int) (
   lp (σ := Int × Int) (fun gA (j1, o0) =>
    bif (decide (o0 < (((x0).orders).length : Int))) then
     Option.bind (α := Int) (
      jn (σ := Unit) (fun (_ : Unit) =>
       (idx (x1).toList (bit64 .andNot x2 y2)).bind fun iA =>
       (idx (iA).toList o0).bind fun d5 =>
       Option.bind (α := Int) (
        (idx ((x0).orders) o0).bind fun d7 =>
        (idx ((x0).orders) x3).bind fun e7 =>
        bif ((d7).Chain != (e7).Chain) then
         some ((w64 (d5 + ((x0).LoomMill).Change)))
        else
         some (d5)
        ) fun d4 =>
       (f105 x0 x3 x4 d4 x5).bind fun g7 =>
       some ((min64 j1 g7))
       ) fun jA =>
      Option.bind (α := Bool) (
       (shr64 (bit64 .andNot x2 y2) o0).bind fun o3 =>
       bif ((bit64 .and o3 (1 : Int)) == (0 : Int)) then
        some (true)
       else
        (idx (x1).toList (bit64 .andNot x2 y2)).bind fun kA =>
        (idx (kA).toList o0).bind fun i7 =>
        some ((decide (i7 ≥ (1048576 : Int))))
       ) fun i3 =>
      bif i3 then
       some (j1)
      else
       jA ()
      ) fun m4 =>
     gA (m4, (w64 (o0 + (1 : Int))))
    else
     some (j1)
    ) big ((1048576 : Int), (0 : Int))
   ) fun j3 =>
  some (j3)
  ) fun k7 =>
 bif ((bit64 .andNot x2 y2) == (0 : Int)) then
  (f105 x0 x3 x4 ((0 : Int)) x5).bind fun y11 =>
  some (y11)
 else
  k7 ()
theorem en98 : Enters Try.prog 98 := enters_of Try.func98 (by kernel_rfl) rfl
theorem wk98 {gI : Gh} {wI : World} {x0 : LoomLoomMill} {x1 : Vector (Vector Int 7) 128} {x2 : Int} {x3 : Int} {x4 : Int} {x5 : List (Int × LoomRun)} {up0 : Value} (rp0 : RV gI.m wI x0 up0) {up1 : Value} (rp1 : PT gI.m wI x1 up1) {up5 : Value} (mq5 : MR (Value.int .i64) gI wI x5 up5) {r : Int} (h : f98 x0 x1 x2 x3 x4 x5 = some r) : Fn Try.prog 98 #[up0, up1, .int .i64 (x2), .int .i64 (x3), .int .i64 (x4), up5] gI wI (fun _ _ v => v = .int .i64 (r)) := by
 unfold f98 at h
 refine fn_of_E Try.func98 rfl (Nat.le_of_ble_eq_true rfl) fun g0 hm hfr => ?_
 have rp0 : RV g0.m wI x0 up0 := hm ▸ rp0
 have rp1 : PT g0.m wI x1 up1 := hm ▸ rp1
 have mq5 := MQ.enter mq5 hm hfr
 show E _ 84 none _ _ _ _ _
 refine E_seq (E_region (EL_do .plain rfl (D_box (g := g0) rfl rp0 fun g1 w1 p1 hs q1 => ?_)))
 have hfr := hfr.ext hs
 have rp1 := rp1.ext hs
 have mq5 := mq5.ext hs
 refine EL_at (.int .i64 (0)) rfl rfl ?_
 refine EL_nil (thn_n (E_seq (E_region (EL_mw (.int .i64 (x2)) rfl rfl ?_))))
 refine EL_mw (.int .i64 (x3)) rfl rfl ?_
 obtain ⟨y2, hy2, h⟩ := bsome h
 refine EL_pur (v := .int .i64 (y2)) (P_int rfl rfl (congrArg (Option.map (Value.int .i64)) hy2)) .plain rfl ?_
 refine EL_in (.int .i64 ((bit64 .andNot x2 y2))) rfl rfl rfl rfl ?_
 refine EL_at (.int .i64 ((bit64 .andNot x2 y2))) rfl rfl ?_
 refine EL_nil (thn_n (E_joinC h (fun (s : Unit) e w => ∃ (g : Gh) , Fr gI wI g w ∧ e 1 = up1 ∧ PT g.m w (x1 : Vector (Vector Int 7) 128) up1 ∧ e 3 = .int .i64 (x3) ∧ e 4 = .int .i64 (x4) ∧ e 5 = up5 ∧ MQ (Value.int .i64) wI.heap.size g w (x5 : List (Int × LoomRun)) up5 ∧ e 6 = p1 ∧ PT g.m w (x0 : LoomLoomMill) p1 ∧ e 13 = .int .i64 ((bit64 .andNot x2 y2))) (fun X7 k7 hk7 h => ?_) ?_))
 ·refine E_seq (E_region (EL_mw (.int .i64 ((bit64 .andNot x2 y2))) rfl rfl ?_))
  refine EL_in (.bool (((bit64 .andNot x2 y2) == (0 : Int)))) rfl rfl rfl rfl ?_
  refine EL_nil (thn_n ?_)
  rcases csome h with ⟨hc8, h⟩ | ⟨hc8, h⟩
  ·refine E_ct hc8 rfl ?_
   refine E_seq (E_region (EL_do .plain rfl (D_load (g := g1) Try.isAgg96 Try.sizeOf96 rfl q1 fun v9 r9 => ?_)))
   refine EL_mw (.int .i64 (x3)) rfl rfl ?_
   refine EL_mw (.int .i64 (x4)) rfl rfl ?_
   refine EL_mw up5 rfl rfl ?_
   obtain ⟨y11, zB, h⟩ := bsome h
   refine EL_do .plain rfl (D_call (g := g1) (vs := [v9, .int .i64 (x3), .int .i64 (x4), .int .i64 (0), up5]) en105 (.cons rfl (.cons rfl (.cons rfl (.cons rfl (.cons rfl .nil))))) (wk105 r9 mq5.r zB) fun yD eD zD hs hr => ?_)
   have hfr := hfr.ext hs
   subst hr
   refine EL_at (.int .i64 (y11)) rfl rfl ?_
   refine EL_nil (thn_n (E_ret (thn_r ?_)))
   obtain rfl := sinj h
   exact end1 rfl rfl (show _ = .int .i64 (y11) from rfl) ⟨_, hfr, rfl⟩
  ·refine E_cf hc8 rfl ?_
   exact E_skip (thn_n (hk7 () _ _ ⟨g1, hfr, rfl, rp1, rfl, rfl, rfl, mq5, rfl, q1, rfl⟩ h))
 ·rintro _ gD aE ⟨yB, hfr, jB, kB, lB, mB, nB, oB, e9, j7, lA⟩ h
  refine E_seq (E_region (EL_at (.int .i64 (1048576)) rfl rfl ?_))
  refine EL_nil (thn_n ?_)
  obtain ⟨j3, hx, h⟩ := bsome h
  refine E_join (fun e w => ∃ (g : Gh) , Fr gI wI g w ∧ e 14 = .int .i64 (j3)) (fun Q' hQ => ?_) (fun xC iD hR => ?_)
  ·replace h := hx
   clear hx
   refine E_seq (E_region (EL_pur (v := fPtr p1 2) (P_fieldAddr at_96_1 e9 (PT.ptr j7)) .plain rfl ?_))
   have aC := PT_field (part_LoomLoomMill_1).1 j7
   refine EL_do .plain rfl (D_load (g := yB) Try.isAgg25 Try.sizeOf25 rfl aC fun jD bC => ?_)
   refine EL_pur (v := .int .i64 (((x0).orders).length : Int)) (P_len Try.underlying25 rfl bC) .plain rfl ?_
   refine EL_mw (.int .i64 (0)) rfl rfl ?_
   refine EL_nil (thn_n (E_block ?_))
   refine E_lp h (fun (s : Int × Int) e w => ∃ (g : Gh) , Fr gI wI g w ∧ e 1 = up1 ∧ PT g.m w (x1 : Vector (Vector Int 7) 128) up1 ∧ e 3 = .int .i64 (x3) ∧ e 4 = .int .i64 (x4) ∧ e 5 = up5 ∧ MQ (Value.int .i64) wI.heap.size g w (x5 : List (Int × LoomRun)) up5 ∧ e 6 = p1 ∧ PT g.m w (x0 : LoomLoomMill) p1 ∧ e 13 = .int .i64 ((bit64 .andNot x2 y2)) ∧ e 14 = .int .i64 (s.1) ∧ e 30 = .int .i64 ((((x0).orders).length : Int)) ∧ e 31 = .int .i64 (s.2)) ⟨yB, hfr, jB, kB, lB, mB, nB, oB, e9, j7, lA, rfl, rfl, rfl⟩ (fun X309 gA pB => ?_)
   rintro ⟨j1, o0⟩ yC kD ⟨m7, hfr, u5, u3, q7, t7, u7, v7, c8, e8, p4, p5, q5, z4⟩ h
   refine E_seq (E_region (EL_pur (v := .bool ((decide (o0 < (((x0).orders).length : Int))))) (P_int z4 q5 rfl) .plain rfl ?_))
   refine EL_nil (thn_n (E_seq ?_))
   rcases csome h with ⟨n7, h⟩ | ⟨n7, h⟩
   ·refine E_ct n7 rfl ?_
    refine E_skip (thn_n ?_)
    obtain ⟨m4, hx, h⟩ := bsome h
    refine E_join (fun e w => ∃ (g : Gh) , Fr gI wI g w ∧ e 1 = up1 ∧ PT g.m w (x1 : Vector (Vector Int 7) 128) up1 ∧ e 3 = .int .i64 (x3) ∧ e 4 = .int .i64 (x4) ∧ e 5 = up5 ∧ MQ (Value.int .i64) wI.heap.size g w (x5 : List (Int × LoomRun)) up5 ∧ e 6 = p1 ∧ PT g.m w (x0 : LoomLoomMill) p1 ∧ e 13 = .int .i64 ((bit64 .andNot x2 y2)) ∧ e 14 = .int .i64 (m4) ∧ e 30 = .int .i64 ((((x0).orders).length : Int)) ∧ e 31 = .int .i64 (o0)) (fun Q' hQ => ?_) (fun zC lD hR => ?_)
    ·replace h := hx
     clear hx
     refine E_block ?_
     refine E_seq (E_region (EL_mv z4 rfl ?_))
     refine EL_at (.int .i64 (o0)) rfl rfl ?_
     refine EL_nil (thn_n (E_joinC h (fun (s : Unit) e w => ∃ (g : Gh) , Fr gI wI g w ∧ e 1 = up1 ∧ PT g.m w (x1 : Vector (Vector Int 7) 128) up1 ∧ e 3 = .int .i64 (x3) ∧ e 4 = .int .i64 (x4) ∧ e 5 = up5 ∧ MQ (Value.int .i64) wI.heap.size g w (x5 : List (Int × LoomRun)) up5 ∧ e 6 = p1 ∧ PT g.m w (x0 : LoomLoomMill) p1 ∧ e 13 = .int .i64 ((bit64 .andNot x2 y2)) ∧ e 14 = .int .i64 (j1) ∧ e 15 = .int .i64 (o0) ∧ e 30 = .int .i64 ((((x0).orders).length : Int)) ∧ e 31 = .int .i64 (o0)) (fun X474 jA qB h => ?_) ?_))
     ·obtain ⟨i3, hx, h⟩ := bsome h
      refine E_join (fun e w => ∃ (g : Gh) , Fr gI wI g w ∧ e 1 = up1 ∧ PT g.m w (x1 : Vector (Vector Int 7) 128) up1 ∧ e 3 = .int .i64 (x3) ∧ e 4 = .int .i64 (x4) ∧ e 5 = up5 ∧ MQ (Value.int .i64) wI.heap.size g w (x5 : List (Int × LoomRun)) up5 ∧ e 6 = p1 ∧ PT g.m w (x0 : LoomLoomMill) p1 ∧ e 13 = .int .i64 ((bit64 .andNot x2 y2)) ∧ e 14 = .int .i64 (j1) ∧ e 15 = .int .i64 (o0) ∧ e 30 = .int .i64 ((((x0).orders).length : Int)) ∧ e 31 = .int .i64 (o0) ∧ e 48 = .bool (i3)) (fun Q' hQ => ?_) (fun aD mD hR => ?_)
      ·replace h := hx
       clear hx
       refine E_region (EL_mv p4 rfl ?_)
       refine EL_mw (.int .i64 (o0)) rfl rfl ?_
       obtain ⟨o3, rB, h⟩ := bsome h
       refine EL_pur (v := .int .i64 (o3)) (P_int rfl rfl (congrArg (Option.map (Value.int .i64)) rB)) .plain rfl ?_
       refine EL_in (.int .i64 ((bit64 .and o3 (1 : Int)))) rfl rfl rfl rfl ?_
       refine EL_in (.bool (((bit64 .and o3 (1 : Int)) == (0 : Int)))) rfl rfl rfl rfl ?_
       refine EL_mw (.bool (((bit64 .and o3 (1 : Int)) == (0 : Int)))) rfl rfl ?_
       rcases csome h with ⟨u0, h⟩ | ⟨u0, h⟩
       ·refine EL_skip (.no2 rfl rfl u0 rfl) rfl ?_
        refine EL_skip (.no2 rfl rfl u0 rfl) rfl ?_
        refine EL_skip (.no2 rfl rfl u0 rfl) rfl ?_
        refine EL_skip (.no2 rfl rfl u0 rfl) rfl ?_
        refine EL_skip (.no2 rfl rfl u0 rfl) rfl ?_
        refine EL_skip (.no2 rfl rfl u0 rfl) rfl ?_
        refine EL_skip (.no2 rfl rfl u0 rfl) rfl ?_
        refine EL_skip (.no2 rfl rfl u0 rfl) rfl ?_
        refine EL_pur (v := .bool true) (P_pick (b := ((bit64 .and o3 (1 : Int)) == (0 : Int))) rfl (pick_t u0 rfl)) .plain rfl ?_
        refine EL_nil ?_
        obtain rfl := sinj h
        exact hQ _ _ ⟨m7, hfr, u5, u3, q7, t7, u7, v7, c8, e8, p4, p5, rfl, q5, z4, rfl⟩
       ·refine EL_pur (v := up1) (P_move u5) (.yes2 rfl rfl u0) rfl ?_
        refine EL_pur (v := .int .i64 ((bit64 .andNot x2 y2))) (P_move p4) (.yes2 rfl rfl u0) rfl ?_
        refine EL_pur (v := .int .i64 (o0)) (P_move rfl) (.yes2 rfl rfl u0) rfl ?_
        obtain ⟨pb485, po485, pe485⟩ := PT.ptr u3
        refine EL_pur (v := up1) (P_nilCk rfl pe485) (.yes2 rfl rfl u0) rfl ?_
        obtain ⟨kA, g9, h⟩ := bsome h
        refine EL_pur (v := fPtr up1 (((bit64 .andNot x2 y2) : Int).toNat * 7)) (P_indexAddrA (α := Vector Int 7) Try.underlying150 Try.sizeOf148 rfl (PT.ptr u3) rfl g9) (.yes2 rfl rfl u0) rfl ?_
        have mA := PT_idxA u3 g9
        obtain ⟨i7, i9, h⟩ := bsome h
        refine EL_pur (v := fPtr (fPtr up1 (((bit64 .andNot x2 y2) : Int).toNat * 7)) ((o0 : Int).toNat * 1)) (P_indexAddrA (α := Int) Try.underlying148 Try.sizeOf3 rfl (PT.ptr mA) rfl i9) (.yes2 rfl rfl u0) rfl ?_
        have cC := PT_idxA mA i9
        refine EL_do (.yes2 rfl rfl u0) rfl (D_load (g := m7) Try.isAgg3 Try.sizeOf3 rfl cC fun nD dC => ?_)
        obtain rfl := RV_int.1 dC
        refine EL_pur (v := .bool ((decide (i7 ≥ (1048576 : Int))))) (P_int rfl rfl rfl) (.yes2 rfl rfl u0) rfl ?_
        refine EL_pur (v := .bool ((decide (i7 ≥ (1048576 : Int))))) (P_pick (b := ((bit64 .and o3 (1 : Int)) == (0 : Int))) rfl (pick_f u0 rfl)) .plain rfl ?_
        refine EL_nil ?_
        obtain rfl := sinj h
        exact hQ _ _ ⟨m7, hfr, u5, u3, q7, t7, u7, v7, c8, e8, p4, p5, rfl, q5, z4, rfl⟩
      ·clear hx
       obtain ⟨nA, hfr, g8, i8, k8, l8, m8, n8, o8, p8, j6, l6, o9, v6, x6, y6⟩ := hR
       rcases csome h with ⟨o7, h⟩ | ⟨o7, h⟩
       ·refine E_cond_true (Eq.trans (show ev _ _ = .bool (i3) from y6) (congrArg Value.bool o7)) ?_
        refine E_exit ?_
        refine thn_e ?_
        refine blk_hit ?_
        obtain rfl := sinj h
        exact hQ _ _ ⟨nA, hfr, g8, i8, k8, l8, m8, n8, o8, p8, j6, l6, v6, x6⟩
       ·refine E_cond_false (Eq.trans (show ev _ _ = .bool (i3) from y6) (congrArg Value.bool o7)) ?_
        exact E_skip (thn_n (qB () _ _ ⟨nA, hfr, g8, i8, k8, l8, m8, n8, o8, p8, j6, l6, o9, v6, x6⟩ h))
     ·rintro _ bD oD ⟨oA, hfr, c6, d3, d6, q8, r8, i5, z3, z2, t5, z6, a7, b7, c7⟩ h
      refine E_seq (E_region (EL_mv c6 rfl ?_))
      refine EL_mv t5 rfl ?_
      refine EL_mv a7 rfl ?_
      obtain ⟨pb494, po494, pe494⟩ := PT.ptr d3
      refine EL_pur (v := up1) (P_nilCk rfl pe494) .plain rfl ?_
      obtain ⟨iA, j9, h⟩ := bsome h
      refine EL_pur (v := fPtr up1 (((bit64 .andNot x2 y2) : Int).toNat * 7)) (P_indexAddrA (α := Vector Int 7) Try.underlying150 Try.sizeOf148 rfl (PT.ptr d3) rfl j9) .plain rfl ?_
      have pA := PT_idxA d3 j9
      obtain ⟨d5, k9, h⟩ := bsome h
      refine EL_pur (v := fPtr (fPtr up1 (((bit64 .andNot x2 y2) : Int).toNat * 7)) ((o0 : Int).toNat * 1)) (P_indexAddrA (α := Int) Try.underlying148 Try.sizeOf3 rfl (PT.ptr pA) rfl k9) .plain rfl ?_
      have eC := PT_idxA pA k9
      refine EL_do .plain rfl (D_load (g := oA) Try.isAgg3 Try.sizeOf3 rfl eC fun pD iC => ?_)
      obtain rfl := RV_int.1 iC
      refine EL_at (.int .i64 (d5)) rfl rfl ?_
      refine EL_nil (thn_n ?_)
      obtain ⟨d4, hx, h⟩ := bsome h
      refine E_join (fun e w => ∃ (g : Gh) , Fr gI wI g w ∧ e 1 = up1 ∧ PT g.m w (x1 : Vector (Vector Int 7) 128) up1 ∧ e 3 = .int .i64 (x3) ∧ e 4 = .int .i64 (x4) ∧ e 5 = up5 ∧ MQ (Value.int .i64) wI.heap.size g w (x5 : List (Int × LoomRun)) up5 ∧ e 6 = p1 ∧ PT g.m w (x0 : LoomLoomMill) p1 ∧ e 13 = .int .i64 ((bit64 .andNot x2 y2)) ∧ e 14 = .int .i64 (j1) ∧ e 16 = .int .i64 (d4) ∧ e 30 = .int .i64 ((((x0).orders).length : Int)) ∧ e 31 = .int .i64 (o0)) (fun Q' hQ => ?_) (fun cD qD hR => ?_)
      ·replace h := hx
       clear hx
       refine E_seq ?_
       have jC := PT_field (part_LoomLoomMill_1).1 z2
       refine L_load (x := .tmp 56) Try.isAgg25 Try.sizeOf25 jC fun z8 qA sB => ?_
       obtain ⟨d7, l9, h⟩ := bsome h
       have rA := PT_idx qA l9
       have kC := PT_field (part_LoomOrder_1).1 rA
       refine L_load (x := .tmp 60) Try.isAgg3 Try.sizeOf3 kC fun rD lC tB => ?_
       obtain rfl := RV_int.1 lC
       have mC := PT_field (part_LoomLoomMill_1).1 z2
       refine L_load (x := .tmp 62) Try.isAgg25 Try.sizeOf25 mC fun a9 sA uB => ?_
       obtain ⟨e7, n9, h⟩ := bsome h
       have tA := PT_idx sA n9
       have nC := PT_field (part_LoomOrder_1).1 tA
       refine L_load (x := .tmp 66) Try.isAgg3 Try.sizeOf3 nC fun sD oC vB => ?_
       obtain rfl := RV_int.1 oC
       refine E_drawL (g := oA) (n := 13) [] [0, 1, 2, 3, 4, 5, 6, 7, 8, 9, 10, 11, 12] rfl mixed (by kernel_rfl) trivial ?_
       refine L_pur (c := fPtr p1 2) rfl rfl .plain (fun _ _ hd => P_fieldAddr at_96_1 z3 (PT.ptr z2)) ?_
       refine L_ld (c := z8) rfl rfl .plain (fun _ _ h => h.ch) sB rfl ?_
       refine L_pur (c := .int .i64 (o0)) rfl rfl .plain (fun _ _ hd => P_move a7) ?_
       refine L_pur (c := ePtr z8 o0 5) rfl rfl .plain (fun _ _ hd => P_indexAddr (α := LoomOrder) Try.underlying25 Try.sizeOf82 rfl qA rfl l9) ?_
       refine L_pur (c := fPtr (ePtr z8 o0 5) 1) rfl rfl .plain (fun _ _ hd => P_fieldAddr at_82_1 rfl (PT.ptr rA)) ?_
       refine L_ld (c := .int .i64 ((d7).Chain)) rfl rfl .plain (fun _ _ h => h.ch) tB rfl ?_
       refine L_pur (c := fPtr p1 2) rfl rfl .plain (fun _ _ hd => P_fieldAddr at_96_1 z3 (PT.ptr z2)) ?_
       refine L_ld (c := a9) rfl rfl .plain (fun _ _ h => h.ch) uB rfl ?_
       refine L_pur (c := .int .i64 (x3)) rfl rfl .plain (fun _ _ hd => P_move d6) ?_
       refine L_pur (c := ePtr a9 x3 5) rfl rfl .plain (fun _ _ hd => P_indexAddr (α := LoomOrder) Try.underlying25 Try.sizeOf82 rfl sA rfl n9) ?_
       refine L_pur (c := fPtr (ePtr a9 x3 5) 1) rfl rfl .plain (fun _ _ hd => P_fieldAddr at_82_1 rfl (PT.ptr tA)) ?_
       refine L_ld (c := .int .i64 ((e7).Chain)) rfl rfl .plain (fun _ _ h => h.ch) vB rfl ?_
       refine L_pur (c := .bool (((d7).Chain != (e7).Chain))) rfl rfl .plain (fun _ _ hd => P_int rfl rfl rfl) ?_
       refine L_nil fun d9 tD hall => ?_
       have hs := hall.1
       have hfr := hfr.ext hs
       have d3 := d3.ext hs
       have i5 := i5.ext hs
       have z2 := z2.ext hs
       clear hs hall
       refine EL_nil (thn_n ?_)
       rcases csome h with ⟨p7, h⟩ | ⟨p7, h⟩
       ·refine E_ct p7 rfl ?_
        refine E_region (EL_mw (.int .i64 (d5)) rfl rfl ?_)
        refine EL_pur (v := fPtr p1 0) (P_fieldAddr at_96_0 z3 (PT.ptr z2)) .plain rfl ?_
        have uA := PT_field (part_LoomLoomMill_0).1 z2
        refine EL_pur (v := fPtr (fPtr p1 0) 1) (P_fieldAddr at_24_1 rfl (PT.ptr uA)) .plain rfl ?_
        have qC := PT_field (part_LoomMill_1).1 uA
        refine EL_do .plain rfl (D_load (g := d9) Try.isAgg3 Try.sizeOf3 rfl qC fun uD rC => ?_)
        obtain rfl := RV_int.1 rC
        refine EL_in (.int .i64 ((w64 (d5 + ((x0).LoomMill).Change)))) rfl rfl rfl rfl ?_
        refine EL_at (.int .i64 ((w64 (d5 + ((x0).LoomMill).Change)))) rfl rfl ?_
        refine EL_nil ?_
        obtain rfl := sinj h
        exact hQ _ _ ⟨d9, hfr, c6, d3, d6, q8, r8, i5, z3, z2, t5, z6, rfl, b7, c7⟩
       ·refine E_cf p7 rfl ?_
        refine E_skip ?_
        obtain rfl := sinj h
        exact hQ _ _ ⟨d9, hfr, c6, d3, d6, q8, r8, i5, z3, z2, t5, z6, rfl, b7, c7⟩
      ·clear hx
       obtain ⟨vA, hfr, xA, i6, t8, v8, x8, l5, y8, o5, p9, q9, t9, u9, y9⟩ := hR
       refine E_region (EL_mv q9 rfl ?_)
       refine EL_do .plain rfl (D_load (g := vA) Try.isAgg96 Try.sizeOf96 y8 o5 fun sC tC => ?_)
       refine EL_mv t8 rfl ?_
       refine EL_mv v8 rfl ?_
       refine EL_mv t9 rfl ?_
       refine EL_mv x8 rfl ?_
       obtain ⟨g7, xB, h⟩ := bsome h
       refine EL_do .plain rfl (D_call (g := vA) (vs := [sC, .int .i64 (x3), .int .i64 (x4), .int .i64 (d4), up5]) en105 (.cons rfl (.cons rfl (.cons rfl (.cons rfl (.cons rfl .nil))))) (wk105 tC l5.r xB) fun uC dD vD hs hr => ?_)
       have hfr := hfr.ext hs
       have i6 := i6.ext hs
       have l5 := l5.ext hs
       have o5 := o5.ext hs
       subst hr
       refine EL_pur (v := .int .i64 (min64 j1 g7)) (P_min rfl rfl) .plain rfl ?_
       refine EL_at (.int .i64 (min64 j1 g7)) rfl rfl ?_
       refine EL_nil (blk_n ?_)
       obtain rfl := sinj h
       exact hQ _ _ ⟨uC, hfr, xA, i6, t8, v8, x8, l5, y8, o5, p9, rfl, u9, y9⟩
    ·clear hx
     obtain ⟨vC, hfr, yA, zA, aB, bB, cB, dB, eB, iB, z9, bA, cA, dA⟩ := hR
     refine E_region (EL_in (.int .i64 ((w64 (o0 + (1 : Int))))) dA rfl rfl rfl ?_)
     refine EL_mw (.int .i64 ((w64 (o0 + (1 : Int))))) rfl rfl ?_
     exact EL_nil (thn_n (pB (m4, (w64 (o0 + (1 : Int)))) _ _ ⟨vC, hfr, yA, zA, aB, bB, cB, dB, eB, iB, z9, bA, cA, rfl⟩ h))
   ·refine E_cf n7 rfl ?_
    refine E_exit ?_
    refine thn_e ?_
    refine thn_e ?_
    refine blk_hit ?_
    obtain rfl := sinj h
    exact hQ _ _ ⟨m7, hfr, p5⟩
  ·clear hx
   obtain ⟨xD, hfr, eA⟩ := hR
   refine E_seq (E_region (EL_mv eA rfl ?_))
   refine EL_at (.int .i64 (j3)) rfl rfl ?_
   refine EL_nil (thn_n (E_ret ?_))
   obtain rfl := sinj h
   exact end1 rfl rfl (show _ = .int .i64 (j3) from rfl) ⟨_, hfr, rfl⟩
def f100 : Nat → (List Int) → (Int) → (Int) → (Int) → (Int → Int → Option Int) → Option ((List Int))
 | 0, _, _, _, _, _ => none
 | n + 1, x0, x1, x2, x3, x4 =>
  lp (σ := (List Int) × Int × Int × Int × Bool × Bool) (fun k1 (i3, o0, u0, z2, j1, d3) =>
   jn (σ := (List Int)) (fun j3 =>
    jn (σ := Unit) (fun (_ : Unit) =>
     Option.bind (α := Int) (
      bif (!j1) then
       none
      else
       some (z2)
      ) fun p4 =>
     none
     ) fun n7 =>
    bif (z2 == (0 : Int)) then
     none
    else
     n7 ()
    ) fun k6 =>
   bif (decide ((w64 (u0 - o0)) ≤ (12 : Int))) then
    (f106 i3 o0 u0 x4).bind fun y9 =>
    some (y9)
   else
    k6 (i3)
   ) big (x0, x1, x2, x3, true, true)
theorem en100 : Enters Try.prog 100 := enters_of Try.func100 (by kernel_rfl) rfl
theorem wk100 (n : Nat) : ∀ {iI : Nat} {gI : Gh} {wI : World} {x0 : List Int} {x1 : Int} {x2 : Int} {x3 : Int} {x4 : Int → Int → Option Int} {up0 : Value} (mp0 : OM iI gI wI 3 x0 up0) {up4 : Value} (rp4 : FnV2 Try.prog x4 up4 gI wI) {r : (List Int)} (h : f100 n x0 x1 x2 x3 x4 = some r), FnM Try.prog 100 #[up0, .int .i64 (x1), .int .i64 (x2), .int .i64 (x3), up4] iI gI wI (fun g w v => v = .tuple #[] ∧ OM iI g w 3 r up0) := by
 induction n with
 | zero => intros; rename_i h; cases h
 | succ n ih =>
 intro iI gI wI x0 x1 x2 x3 x4 up0 mp0 up4 rp4 r h
 simp only [f100] at h
 refine fnM_of_E Try.func100 rfl (Nat.le_of_ble_eq_true rfl) fun g0 hm hfr => ?_
 have z6 := mp0
 replace mp0 := mp0.enter
 rw [← hm] at mp0
 replace hm : g0.m = gI.m := by rw [hm]
 obtain ⟨ff4, fa4, fc4, rfl, fen4, fcl4⟩ := rp4
 show E _ 148 none _ _ _ _ _
 refine E_seq (E_region (EL_at (.bool true) rfl rfl ?_))
 refine EL_nil (thn_n (E_seq (E_region (EL_at (.bool true) rfl rfl ?_))))
 refine EL_nil (thn_n (E_block ?_))
 refine E_lp h (fun (s : (List Int) × Int × Int × Int × Bool × Bool) e w => ∃ (g : Gh) , FrM iI gI wI g w ∧ e 0 = up0 ∧ OM 1 g w 3 (s.1 : List Int) up0 ∧ e 1 = .int .i64 (s.2.1) ∧ e 2 = .int .i64 (s.2.2.1) ∧ e 3 = .int .i64 (s.2.2.2.1) ∧ e 4 = (.func (.func ff4) fa4 fc4) ∧ e 10 = .bool (s.2.2.2.2.1) ∧ e 11 = .bool (s.2.2.2.2.2)) ⟨g0, hfr, rfl, mp0, rfl, rfl, rfl, rfl, rfl, rfl⟩ (fun X1 k1 hk1 => ?_)
 rintro ⟨i3, o0, u0, z2, j1, d3⟩ o8 w2 ⟨g2, hfr, x5, c6, u3, z3, o7, d6, a7, b7⟩ h
 refine E_block ?_
 refine E_seq (E_region (EL_mv z3 rfl ?_))
 refine EL_mv u3 rfl ?_
 refine EL_in (.int .i64 ((w64 (u0 - o0)))) rfl rfl rfl rfl ?_
 refine EL_at (.int .i64 ((w64 (u0 - o0)))) rfl rfl ?_
 refine EL_nil (thn_n (E_joinC h (fun (s : (List Int)) e w => ∃ (g : Gh) , FrM iI gI wI g w ∧ e 0 = up0 ∧ OM 1 g w 3 (s : List Int) up0 ∧ e 1 = .int .i64 (o0) ∧ e 2 = .int .i64 (u0) ∧ e 3 = .int .i64 (z2) ∧ e 4 = (.func (.func ff4) fa4 fc4) ∧ e 10 = .bool (j1) ∧ e 11 = .bool (d3) ∧ e 12 = .int .i64 ((w64 (u0 - o0)))) (fun X6 k6 hk6 h => ?_) ?_))
 ·refine E_seq (E_region (EL_mw (.int .i64 ((w64 (u0 - o0)))) rfl rfl ?_))
  refine EL_in (.bool ((decide ((w64 (u0 - o0)) ≤ (12 : Int))))) rfl rfl rfl rfl ?_
  refine EL_nil (thn_n ?_)
  rcases csome h with ⟨i6, h⟩ | ⟨i6, h⟩
  ·refine E_ct i6 rfl ?_
   refine E_seq (E_region (EL_mv x5 rfl ?_))
   refine EL_mv u3 rfl ?_
   refine EL_mv z3 rfl ?_
   refine EL_mv d6 rfl ?_
   obtain ⟨y9, q7, h⟩ := bsome h
   refine EL_do .plain rfl (D_callM (g := g2) (i := 1) (vs := [up0, .int .i64 (o0), .int .i64 (u0), (.func (.func ff4) fa4 fc4)]) en106 (.cons rfl (.cons rfl (.cons rfl (.cons rfl .nil)))) (wk106 c6 (FnV2.ch ⟨_, _, _, rfl, fen4, fcl4⟩ hfr.ch) q7) fun g8 w8_ v8 hs hr => ?_)
   obtain ⟨hrv, b8⟩ := hr
   have hfr := hfr.stp hs
   subst hrv
   refine EL_nil (thn_n (E_ret (thn_r ?_)))
   refine blk_r ?_
   refine thn_r ?_
   refine blk_r ?_
   obtain rfl := sinj h
   exact end0 rfl rfl ⟨_, hfr, rfl, z6.back b8⟩
  ·refine E_cf i6 rfl ?_
   exact E_skip (thn_n (hk6 (i3) _ _ ⟨g2, hfr, x5, c6, u3, z3, o7, d6, a7, b7, rfl⟩ h))
 ·rintro j3 l8 p8 ⟨t7, hfr, z4, c7, d5, i5, l5, o5, j6, l6, v6⟩ h
  refine E_joinC h (fun (s : Unit) e w => ∃ (g : Gh) , FrM iI gI wI g w ∧ e 0 = up0 ∧ OM 1 g w 3 (j3 : List Int) up0 ∧ e 1 = .int .i64 (o0) ∧ e 2 = .int .i64 (u0) ∧ e 3 = .int .i64 (z2) ∧ e 4 = (.func (.func ff4) fa4 fc4) ∧ e 10 = .bool (j1) ∧ e 11 = .bool (d3) ∧ e 12 = .int .i64 ((w64 (u0 - o0)))) (fun X12 n7 p7 h => ?_) ?_
  ·refine E_seq (E_region (EL_mv l5 rfl ?_))
   refine EL_in (.bool ((z2 == (0 : Int)))) rfl rfl rfl rfl ?_
   refine EL_nil (thn_n ?_)
   rcases csome h with ⟨d4, h⟩ | ⟨d4, h⟩
   ·refine E_ct d4 rfl ?_
    refine E_seq (E_region (EL_mv z4 rfl ?_))
    refine EL_mv d5 rfl ?_
    refine EL_mv i5 rfl ?_
    refine EL_mv o5 rfl ?_
    cases h
   ·refine E_cf d4 rfl ?_
    exact E_skip (thn_n (p7 () _ _ ⟨t7, hfr, z4, c7, d5, i5, l5, o5, j6, l6, v6⟩ h))
  ·rintro _ m8 q8 ⟨u7, hfr, p5, d7, q5, t5, e7, u5, o3, x6, y6⟩ h
   obtain ⟨p4, hx, h⟩ := bsome h
   refine E_join (fun e w => ∃ (g : Gh) , FrM iI gI wI g w ∧ e 0 = up0 ∧ OM 1 g w 3 (j3 : List Int) up0 ∧ e 1 = .int .i64 (o0) ∧ e 2 = .int .i64 (u0) ∧ e 3 = .int .i64 (p4) ∧ e 4 = (.func (.func ff4) fa4 fc4) ∧ e 10 = .bool (j1) ∧ e 11 = .bool (d3) ∧ e 12 = .int .i64 ((w64 (u0 - o0)))) (fun Q' hQ => ?_) (fun n8 r8 hR => ?_)
   ·replace h := hx
    clear hx
    refine E_seq (E_region (EL_mv o3 rfl ?_))
    refine EL_pur (v := .bool (!j1)) (P_not rfl) .plain rfl ?_
    refine EL_nil (thn_n ?_)
    rcases csome h with ⟨m4, h⟩ | ⟨m4, h⟩
    ·refine E_ct m4 rfl ?_
     refine E_seq (E_region (EL_mv p5 rfl ?_))
     refine EL_mv q5 rfl ?_
     refine EL_mv t5 rfl ?_
     refine EL_mv u5 rfl ?_
     cases h
    ·refine E_cf m4 rfl ?_
     refine E_skip ?_
     obtain rfl := sinj h
     exact hQ _ _ ⟨u7, hfr, p5, d7, q5, t5, e7, u5, o3, x6, y6⟩
   ·clear hx
    obtain ⟨t8, hfr, g7, i8, i7, j7, k8, m7, v7, c8, e8⟩ := hR
    refine E_seq (E_region (EL_mv g7 rfl ?_))
    refine EL_mv i7 rfl ?_
    refine EL_mv j7 rfl ?_
    refine EL_mv m7 rfl ?_
    cases h
end Go.Proofs.Ytnfjhdagbknlbaa
