import Derived.Test.YtnfjhdagbknlbaaCode2
set_option maxRecDepth 8000
set_option maxHeartbeats 4000000
namespace Go.Proofs.Ytnfjhdagbknlbaa
open Go.RowKit
def f39 (x0 : Hall) : Option (LoomMill × (List LoomOrder) × (List LoomRun)) :=
 (rem64 (((x0).Change).toNat : Int) (6 : Int)).bind fun y5 =>
 Option.bind (α := LoomMill) (
  lp (σ := LoomMill × Int) (fun dR (zD, oB) =>
   jn (σ := Unit) (fun _ =>
    Option.bind (α := LoomMill) (
     (idx ((x0).Widths).toList oB).bind fun nI =>
     (rem64 ((nI).toNat : Int) (20 : Int)).bind fun tB =>
     (apnd 8 ((zD).Widths) (([(w64 ((10 : Int) + tB))] : List Int))).bind fun y140 =>
     some ({ zD with Widths := y140 })
     ) fun xD =>
    dR (xD, (w64 (oB + (1 : Int))))
    ) fun eR =>
   (rem64 (((x0).Looms).toNat : Int) (3 : Int)).bind fun sJ =>
   bif (decide (oB ≤ sJ)) then
    eR ()
   else
    some (zD)
   ) big ((⟨[], y5⟩ : LoomMill), (0 : Int))
  ) fun j6 =>
 Option.bind (α := (List LoomOrder) × (List LoomRun)) (
  lp (σ := (List LoomOrder) × (List LoomRun) × (Vector Int 3) × (Vector Int 3) × Int) (fun vJ (iA, rA, l9, iB, u3) =>
   jn (σ := Unit) (fun _ =>
    Option.bind (α := (List LoomOrder) × (List LoomRun) × (Vector Int 3) × (Vector Int 3)) (
     (idx ((x0).Orders) u3).bind fun x5 =>
     (rem64 (((x5)[0]).toNat : Int) (((j6).Widths).length : Int)).bind fun l5 =>
     (idx ((j6).Widths) l5).bind fun pI =>
     (rem64 (((x5)[1]).toNat : Int) pI).bind fun bA =>
     (rem64 (((x5)[2]).toNat : Int) (3 : Int)).bind fun k9 =>
     (rem64 (((x5)[3]).toNat : Int) (15 : Int)).bind fun y6 =>
     (idx (l9).toList l5).bind fun uC =>
     (quo64 (((x5)[0]).toNat : Int) (3 : Int)).bind fun qI =>
     (rem64 qI (3 : Int)).bind fun vC =>
     Option.bind (α := Int) (
      Option.bind (α := Bool) (
       (idx (iB).toList l5).bind fun mC =>
       bif (decide (mC ≥ (0 : Int))) then
        (idx (iB).toList l5).bind fun lE =>
        some ((lE != k9))
       else
        some (false)
       ) fun rC =>
      bif rC then
       some ((w64 ((w64 (uC + vC)) + (j6).Change)))
      else
       some ((w64 (uC + vC)))
      ) fun o0 =>
     (rem64 (((x5)[4]).toNat : Int) (9 : Int)).bind fun qC =>
     (rem64 (((x5)[5]).toNat : Int) (9 : Int)).bind fun mE =>
     (apnd 40 iA (([(⟨(w64 ((1 : Int) + bA)), k9, (w64 ((1 : Int) + y6)), (max64 (0 : Int) (w64 (o0 - qC))), (w64 ((w64 (o0 + (w64 ((1 : Int) + y6)))) + mE))⟩ : LoomOrder)] : List LoomOrder))).bind fun xJ =>
     (f46 u3 l5 o0).bind fun sI =>
     (apnd 24 rA (([sI] : List LoomRun))).bind fun yJ =>
     (idx (l9).toList l5).bind fun rO =>
     (idx (iB).toList l5).bind fun sO =>
     some (xJ, yJ, (vset l9 l5 ((w64 (o0 + (w64 ((1 : Int) + y6)))))), (vset iB l5 k9))
     ) fun (jD, lD, aE, mD) =>
    vJ (jD, lD, aE, mD, (w64 (u3 + (1 : Int))))
    ) fun zJ =>
   Option.bind (α := Bool) (
    bif (decide (u3 < (((x0).Orders).length : Int))) then
     some ((decide (u3 < (7 : Int))))
    else
     some (false)
    ) fun bD =>
   bif bD then
    zJ ()
   else
    some (iA, rA)
   ) big (([] : List LoomOrder), ([] : List LoomRun), (⟨List.toArray [0, 0, 0], rfl⟩ : Vector Int 3), (⟨List.toArray [(-1 : Int), (-1 : Int), (-1 : Int)], rfl⟩ : Vector Int 3), (0 : Int))
  ) fun (bE, cE) =>
 some (j6, bE, cE)
theorem en39 : Enters Try.prog 39 := enters_of Try.func39 (by kernel_rfl) rfl
def f52 (x0 : LoomLoomMill) : Option ((List Int)) :=
 (shl64 (1 : Int) ((((x0).LoomMill).Widths).length : Int)).bind fun y5 =>
 (f59 ((w64 (y5 - (1 : Int))))).bind fun y7 =>
 some (y7)
theorem en52 : Enters Try.prog 52 := enters_of Try.func52 (by kernel_rfl) rfl
theorem wk52 {gI : Gh} {wI : World} {x0 : LoomLoomMill} {up0 : Value} (rp0 : RV gI.m wI x0 up0) {r : (List Int)} (h : f52 x0 = some r) : Fn Try.prog 52 #[up0] gI wI (fun m w v => RV m w (r) v) := by
 unfold f52 at h
 refine fn_of_E Try.func52 rfl (Nat.le_of_ble_eq_true rfl) fun g0 hm hfr => ?_
 have rp0 : RV g0.m wI x0 up0 := hm ▸ rp0
 show E _ 10 none _ _ _ _ _
 refine E_seq (E_region (EL_do .plain rfl (D_box (g := g0) rfl rp0 fun g1 w1 p1 hs q1 => ?_)))
 have hfr := hfr.ext hs
 refine EL_at (.slice none 0 0) rfl rfl ?_
 refine EL_nil (thn_n (E_seq (E_region (EL_p (fPtr p1 0) (P_fieldAddr at_96_0 rfl (PT.ptr q1)) rfl ?_))))
 have q2 := PT_field (part_LoomLoomMill_0).1 q1
 refine EL_p (fPtr (fPtr p1 0) 0) (P_fieldAddr at_24_0 rfl (PT.ptr q2)) rfl ?_
 have q3 := PT_field (part_LoomMill_0).1 q2
 refine EL_do .plain rfl (D_load (g := g1) Try.isAgg22 Try.sizeOf22 rfl q3 fun v4 r4 => ?_)
 refine EL_p (.int .i64 ((((x0).LoomMill).Widths).length : Int)) (P_len Try.underlying22 rfl r4) rfl ?_
 obtain ⟨y5, hy5, h⟩ := bsome h
 refine EL_p (.int .i64 (y5)) (P_int rfl rfl (congrArg (Option.map (Value.int .i64)) hy5)) rfl ?_
 refine EL_in (.int .i64 ((w64 (y5 - (1 : Int))))) rfl rfl rfl rfl ?_
 obtain ⟨y7, o0, h⟩ := bsome h
 refine EL_do .plain rfl (D_call (g := g1) (vs := [.int .i64 ((w64 (y5 - (1 : Int))))]) en59 (.cons rfl .nil) (wk59  o0) fun g6 w6_ v6 hs hr => ?_)
 have hfr := hfr.ext hs
 have r6 := hr
 refine EL_at v6 rfl rfl ?_
 refine EL_nil (thn_n (E_ret ?_))
 obtain rfl := sinj h
 exact end1 rfl rfl (show _ = v6 from rfl) ⟨_, hfr, r6⟩
def f66 (x0 : LoomStill) (x1 : LoomRun) : Option (Bool) :=
 Option.bind (α := Bool) (
  bif (decide ((x1).From ≤ (((x0).LoomStop).Days).High)) then
   (f73 ((x0).mill) x1).bind fun y79 =>
   some ((decide (y79 > (((x0).LoomStop).Days).Low)))
  else
   some (false)
  ) fun u3 =>
 some (u3)
theorem en66 : Enters Try.prog 66 := enters_of Try.func66 (by kernel_rfl) rfl
theorem wk66 {gI : Gh} {wI : World} {x0 : LoomStill} {x1 : LoomRun} {up0 : Value} (rp0 : RV gI.m wI x0 up0) {up1 : Value} (rp1 : RV gI.m wI x1 up1) {r : Bool} (h : f66 x0 x1 = some r) : Fn Try.prog 66 #[up0, up1] gI wI (fun _ _ v => v = .bool (r)) := by
 unfold f66 at h
 refine fn_of_E Try.func66 rfl (Nat.le_of_ble_eq_true rfl) fun g0 hm hfr => ?_
 have rp0 : RV g0.m wI x0 up0 := hm ▸ rp0
 have rp1 : RV g0.m wI x1 up1 := hm ▸ rp1
 show E _ 23 none _ _ _ _ _
 refine E_seq (E_region (EL_do .plain rfl (D_box (g := g0) rfl rp0 fun g1 w1 p1 hs q1 => ?_)))
 have hfr := hfr.ext hs
 have rp1 := rp1.ext hs
 refine EL_do .plain rfl (D_box (g := g1) rfl rp1 fun g2 w2 p2 hs q2 => ?_)
 have hfr := hfr.ext hs
 have q1 := q1.ext hs
 refine EL_at (.bool false) rfl rfl ?_
 refine EL_nil (thn_n ?_)
 obtain ⟨u3, hx, h⟩ := bsome h
 refine E_join (fun e w => ∃ (g : Gh) , Fr gI wI g w ∧ e 4 = .bool (u3)) (fun Q' hQ => ?_) (fun y9 z9 hR => ?_)
 ·replace h := hx
  clear hx
  have n8 := PT_field (part_LoomRun_2).1 q2
  refine L_load (x := .tmp 5) Try.isAgg3 Try.sizeOf3 n8 fun rA r8 l5 => ?_
  obtain rfl := RV_int.1 r8
  have t5 := PT_field (part_LoomStill_1).1 q1
  have x5 := PT_field (part_LoomStop_1).1 t5
  have v8 := PT_field (part_Span_1).1 x5
  refine L_load (x := .tmp 9) Try.isAgg3 Try.sizeOf3 v8 fun yA x8 i6 => ?_
  obtain rfl := RV_int.1 x8
  rcases csome h with ⟨o0, h⟩ | ⟨o0, h⟩
  ·have a9 := PT_field (part_LoomStill_0).1 q1
   refine L_load (x := .tmp 13) Try.isAgg96 Try.sizeOf96 a9 fun x6 d9 m7 => ?_
   refine L_load (x := .tmp 3) Try.isAgg76 Try.sizeOf76 q2 fun y6 k9 g8 => ?_
   obtain ⟨y79, k8, h⟩ := bsome h
   have d7 := PT_field (part_LoomStill_1).1 q1
   have i7 := PT_field (part_LoomStop_1).1 d7
   have l9 := PT_field (part_Span_0).1 i7
   refine L_load (x := .tmp 19) Try.isAgg3 Try.sizeOf3 l9 fun aB n9 l8 => ?_
   obtain rfl := RV_int.1 n9
   refine E_drawL (g := g2) (n := 19) [(11, (fun v g w => v = .int .i64 (y79)))] [0, 1, 2, 3, 4, 5, 6, 7, 8, 9, 10, 11, 12, 13, 14, 15, 16, 17, 18] rfl mixed (by kernel_rfl) (⟨fun _ => up_eq _, trivial⟩) ?_
   refine L_p (fPtr p2 2) rfl rfl (P_fieldAddr at_76_2 rfl (PT.ptr q2)) ?_
   refine L_ld (c := .int .i64 ((x1).From)) rfl rfl .plain (fun _ _ h => h.ch) l5 rfl ?_
   refine L_p (fPtr p1 3) rfl rfl (P_fieldAddr at_113_1 rfl (PT.ptr q1)) ?_
   refine L_p (fPtr (fPtr p1 3) 1) rfl rfl (P_fieldAddr at_54_1 rfl (PT.ptr t5)) ?_
   refine L_p (fPtr (fPtr (fPtr p1 3) 1) 1) rfl rfl (P_fieldAddr at_48_1 rfl (PT.ptr x5)) ?_
   refine L_ld (c := .int .i64 ((((x0).LoomStop).Days).High)) rfl rfl .plain (fun _ _ h => h.ch) i6 rfl ?_
   refine L_p (.bool ((decide ((x1).From ≤ (((x0).LoomStop).Days).High)))) rfl rfl (P_int rfl rfl rfl) ?_
   refine L_p (.bool ((decide ((x1).From ≤ (((x0).LoomStop).Days).High)))) rfl rfl (P_move rfl) ?_
   refine L_y (fPtr p1 0) rfl rfl rfl rfl o0 (P_fieldAddr at_113_0 rfl (PT.ptr q1)) ?_
   refine L_ld (c := x6) rfl rfl (.yes2 rfl rfl o0) (fun _ _ h => h.ch) m7 rfl ?_
   refine L_ld (c := y6) rfl rfl (.yes2 rfl rfl o0) (fun _ _ h => h.ch) g8 rfl ?_
   refine L_do (φ := fun v g w => v = .int .i64 (y79)) rfl rfl (.yes2 rfl rfl o0) (fun g w hd => D_call (g := g) (vs := [x6, y6]) en73 (.cons rfl (.cons rfl .nil)) (wk73 (d9.ext hd.1) (k9.ext hd.1) k8) fun g' w' v hs hr => ⟨g', hs, hr⟩) (fun dB hv => ?_)
   obtain ⟨_, _, _, rfl⟩ := hv
   refine L_y (fPtr p1 3) rfl rfl rfl rfl o0 (P_fieldAddr at_113_1 rfl (PT.ptr q1)) ?_
   refine L_y (fPtr (fPtr p1 3) 1) rfl rfl rfl rfl o0 (P_fieldAddr at_54_1 rfl (PT.ptr d7)) ?_
   refine L_y (fPtr (fPtr (fPtr p1 3) 1) 0) rfl rfl rfl rfl o0 (P_fieldAddr at_48_0 rfl (PT.ptr i7)) ?_
   refine L_ld (c := .int .i64 ((((x0).LoomStop).Days).Low)) rfl rfl (.yes2 rfl rfl o0) (fun _ _ h => h.ch) l8 rfl ?_
   refine L_y (.bool ((decide (y79 > (((x0).LoomStop).Days).Low)))) rfl rfl rfl rfl o0 (P_int rfl rfl rfl) ?_
   refine L_p (.bool ((decide (y79 > (((x0).LoomStop).Days).Low)))) rfl rfl (P_pick (b := (decide ((x1).From ≤ (((x0).LoomStop).Days).High))) rfl (pick_t o0 rfl)) ?_
   refine L_p (.bool ((decide (y79 > (((x0).LoomStop).Days).Low)))) rfl rfl (P_assign rfl) ?_
   refine L_nl fun u9 iB hs => ?_
   have hfr := hfr.ext hs
   clear hs
   refine EL_nil ?_
   obtain rfl := sinj h
   exact hQ _ _ ⟨u9, hfr, rfl⟩
  ·refine E_drawL (g := g2) (n := 19) [] [0, 1, 2, 3, 4, 5, 6, 7, 8, 9, 10, 11, 12, 13, 14, 15, 16, 17, 18] rfl mixed (by kernel_rfl) trivial ?_
   refine L_p (fPtr p2 2) rfl rfl (P_fieldAddr at_76_2 rfl (PT.ptr q2)) ?_
   refine L_ld (c := .int .i64 ((x1).From)) rfl rfl .plain (fun _ _ h => h.ch) l5 rfl ?_
   refine L_p (fPtr p1 3) rfl rfl (P_fieldAddr at_113_1 rfl (PT.ptr q1)) ?_
   refine L_p (fPtr (fPtr p1 3) 1) rfl rfl (P_fieldAddr at_54_1 rfl (PT.ptr t5)) ?_
   refine L_p (fPtr (fPtr (fPtr p1 3) 1) 1) rfl rfl (P_fieldAddr at_48_1 rfl (PT.ptr x5)) ?_
   refine L_ld (c := .int .i64 ((((x0).LoomStop).Days).High)) rfl rfl .plain (fun _ _ h => h.ch) i6 rfl ?_
   refine L_p (.bool ((decide ((x1).From ≤ (((x0).LoomStop).Days).High)))) rfl rfl (P_int rfl rfl rfl) ?_
   refine L_p (.bool ((decide ((x1).From ≤ (((x0).LoomStop).Days).High)))) rfl rfl (P_move rfl) ?_
   iterate 9 refine L_s rfl rfl rfl o0 rfl ?_
   refine L_p (.bool false) rfl rfl (P_pick (b := (decide ((x1).From ≤ (((x0).LoomStop).Days).High))) rfl (pick_f o0 rfl)) ?_
   refine L_p (.bool false) rfl rfl (P_assign rfl) ?_
   refine L_nl fun m8 bA hs => ?_
   have hfr := hfr.ext hs
   clear hs
   refine EL_nil ?_
   obtain rfl := sinj h
   exact hQ _ _ ⟨m8, hfr, rfl⟩
 ·clear hx
  obtain ⟨iA, hfr, j6⟩ := hR
  refine E_ret ?_
  obtain rfl := sinj h
  exact end1 rfl rfl (show _ = .bool (u3) from j6) ⟨_, hfr, rfl⟩
def f69 (x0 : LoomLoomMill) (x1 : LoomRun) (x2 : Int) : Option (Int) :=
 jn (σ := Unit) (fun _ =>
  (f73 x0 x1).bind fun o0 =>
  some ((w64 (o0 + ((x0).LoomMill).Change)))
  ) fun k8 =>
 (idx ((x0).orders) (x1).Order).bind fun t5 =>
 (idx ((x0).orders) x2).bind fun x5 =>
 bif ((t5).Chain == (x5).Chain) then
  (f73 x0 x1).bind fun y84 =>
  some (y84)
 else
  k8 ()
theorem en69 : Enters Try.prog 69 := enters_of Try.func69 (by kernel_rfl) rfl
theorem wk69 {gI : Gh} {wI : World} {x0 : LoomLoomMill} {x1 : LoomRun} {x2 : Int} {up0 : Value} (rp0 : RV gI.m wI x0 up0) {up1 : Value} (rp1 : RV gI.m wI x1 up1) {r : Int} (h : f69 x0 x1 x2 = some r) : Fn Try.prog 69 #[up0, up1, .int .i64 (x2)] gI wI (fun _ _ v => v = .int .i64 (r)) := by
 unfold f69 at h
 refine fn_of_E Try.func69 rfl (Nat.le_of_ble_eq_true rfl) fun g0 hm hfr => ?_
 have rp0 : RV g0.m wI x0 up0 := hm ▸ rp0
 have rp1 : RV g0.m wI x1 up1 := hm ▸ rp1
 show E _ 31 none _ _ _ _ _
 refine E_seq (E_region (EL_do .plain rfl (D_box (g := g0) rfl rp0 fun g1 w1 p1 hs q1 => ?_)))
 have hfr := hfr.ext hs
 have rp1 := rp1.ext hs
 refine EL_do .plain rfl (D_box (g := g1) rfl rp1 fun g2 w2 p2 hs q2 => ?_)
 have hfr := hfr.ext hs
 have q1 := q1.ext hs
 refine EL_at (.int .i64 (0)) rfl rfl ?_
 refine EL_nil (thn_n (E_joinC h (fun (s : Unit) e w => ∃ (g : Gh) , Fr gI wI g w ∧ e 3 = p1 ∧ PT g.m w (x0 : LoomLoomMill) p1 ∧ e 4 = p2 ∧ PT g.m w (x1 : LoomRun) p2) (fun X43 k8 d9 h => ?_) ?_))
 ·refine E_seq ?_
  have aB := PT_field (part_LoomLoomMill_1).1 q1
  refine L_load (x := .tmp 7) Try.isAgg25 Try.sizeOf25 aB fun x6 l8 k9 => ?_
  have dB := PT_field (part_LoomRun_0).1 q2
  refine L_load (x := .tmp 9) Try.isAgg3 Try.sizeOf3 dB fun aD iB l9 => ?_
  obtain rfl := RV_int.1 iB
  obtain ⟨t5, y6, h⟩ := bsome h
  have m8 := PT_idx l8 y6
  have jB := PT_field (part_LoomOrder_1).1 m8
  refine L_load (x := .tmp 12) Try.isAgg3 Try.sizeOf3 jB fun bD lB n9 => ?_
  obtain rfl := RV_int.1 lB
  have mB := PT_field (part_LoomLoomMill_1).1 q1
  refine L_load (x := .tmp 14) Try.isAgg25 Try.sizeOf25 mB fun d7 n8 u9 => ?_
  obtain ⟨x5, i7, h⟩ := bsome h
  have r8 := PT_idx n8 i7
  have nB := PT_field (part_LoomOrder_1).1 r8
  refine L_load (x := .tmp 18) Try.isAgg3 Try.sizeOf3 nB fun cD oB y9 => ?_
  obtain rfl := RV_int.1 oB
  refine E_drawL (g := g2) (n := 14) [] [0, 1, 2, 3, 4, 5, 6, 7, 8, 9, 10, 11, 12, 13] rfl mixed (by kernel_rfl) trivial ?_
  refine L_p (fPtr p1 2) rfl rfl (P_fieldAddr at_96_1 rfl (PT.ptr q1)) ?_
  refine L_ld (c := x6) rfl rfl .plain (fun _ _ h => h.ch) k9 rfl ?_
  refine L_p (fPtr p2 0) rfl rfl (P_fieldAddr at_76_0 rfl (PT.ptr q2)) ?_
  refine L_ld (c := .int .i64 ((x1).Order)) rfl rfl .plain (fun _ _ h => h.ch) l9 rfl ?_
  refine L_p (ePtr x6 (x1).Order 5) rfl rfl (P_indexAddr (α := LoomOrder) Try.underlying25 Try.sizeOf82 rfl l8 rfl y6) ?_
  refine L_p (fPtr (ePtr x6 (x1).Order 5) 1) rfl rfl (P_fieldAddr at_82_1 rfl (PT.ptr m8)) ?_
  refine L_ld (c := .int .i64 ((t5).Chain)) rfl rfl .plain (fun _ _ h => h.ch) n9 rfl ?_
  refine L_p (fPtr p1 2) rfl rfl (P_fieldAddr at_96_1 rfl (PT.ptr q1)) ?_
  refine L_ld (c := d7) rfl rfl .plain (fun _ _ h => h.ch) u9 rfl ?_
  refine L_p (.int .i64 (x2)) rfl rfl (P_move rfl) ?_
  refine L_p (ePtr d7 x2 5) rfl rfl (P_indexAddr (α := LoomOrder) Try.underlying25 Try.sizeOf82 rfl n8 rfl i7) ?_
  refine L_p (fPtr (ePtr d7 x2 5) 1) rfl rfl (P_fieldAddr at_82_1 rfl (PT.ptr r8)) ?_
  refine L_ld (c := .int .i64 ((x5).Chain)) rfl rfl .plain (fun _ _ h => h.ch) y9 rfl ?_
  refine L_p (.bool (((t5).Chain == (x5).Chain))) rfl rfl (P_int rfl rfl rfl) ?_
  refine L_nl fun i6 eD hs => ?_
  have hfr := hfr.ext hs
  have q1 := q1.ext hs
  have q2 := q2.ext hs
  clear hs
  refine EL_nil (thn_n ?_)
  rcases csome h with ⟨l5, h⟩ | ⟨l5, h⟩
  ·refine E_ct l5 rfl ?_
   refine E_seq (E_region (EL_do .plain rfl (D_load (g := i6) Try.isAgg96 Try.sizeOf96 rfl q1 fun tB vB => ?_)))
   refine EL_do .plain rfl (D_load (g := i6) Try.isAgg76 Try.sizeOf76 rfl q2 fun yB zB => ?_)
   obtain ⟨y84, z9, h⟩ := bsome h
   refine EL_do .plain rfl (D_call (g := i6) (vs := [tB, yB]) en73 (.cons rfl (.cons rfl .nil)) (wk73 vB zB z9) fun gD uC iD hs hr => ?_)
   have hfr := hfr.ext hs
   subst hr
   refine EL_at (.int .i64 (y84)) rfl rfl ?_
   refine EL_nil (thn_n (E_ret (thn_r ?_)))
   obtain rfl := sinj h
   exact end1 rfl rfl (show _ = .int .i64 (y84) from rfl) ⟨_, hfr, rfl⟩
  ·refine E_cf l5 rfl ?_
   exact E_skip (thn_n (d9 () _ _ ⟨i6, hfr, rfl, q1, rfl, q2⟩ h))
 ·rintro _ vC jD ⟨cC, hfr, j6, u3, m7, g8⟩ h
  refine E_seq (L_load (x := .tmp 3) Try.isAgg96 Try.sizeOf96 u3 fun v8 eC bA => ?_)
  refine L_load (x := .tmp 4) Try.isAgg76 Try.sizeOf76 g8 fun x8 mC iA => ?_
  obtain ⟨o0, rA, h⟩ := bsome h
  have a9 := PT_field (part_LoomLoomMill_0).1 u3
  have qC := PT_field (part_LoomMill_1).1 a9
  refine L_load (x := .tmp 28) Try.isAgg3 Try.sizeOf3 qC fun lD rC yA => ?_
  obtain rfl := RV_int.1 rC
  refine E_drawL (g := cC) (n := 8) [(2, (fun v g w => v = .int .i64 (o0)))] [0, 1, 2, 3, 4, 5, 6, 7] rfl mixed (by kernel_rfl) (⟨fun _ => up_eq _, trivial⟩) ?_
  refine L_ld (c := v8) rfl rfl .plain (fun _ _ h => h.ch) bA j6 ?_
  refine L_ld (c := x8) rfl rfl .plain (fun _ _ h => h.ch) iA m7 ?_
  refine L_do (φ := fun v g w => v = .int .i64 (o0)) rfl rfl .plain (fun g w hd => D_call (g := g) (vs := [v8, x8]) en73 (.cons rfl (.cons rfl .nil)) (wk73 (eC.ext hd.1) (mC.ext hd.1) rA) fun g' w' v hs hr => ⟨g', hs, hr⟩) (fun mD hv => ?_)
  obtain ⟨_, _, _, rfl⟩ := hv
  refine L_p (fPtr p1 0) rfl rfl (P_fieldAddr at_96_0 j6 (PT.ptr u3)) ?_
  refine L_p (fPtr (fPtr p1 0) 1) rfl rfl (P_fieldAddr at_24_1 rfl (PT.ptr a9)) ?_
  refine L_ld (c := .int .i64 (((x0).LoomMill).Change)) rfl rfl .plain (fun _ _ h => h.ch) yA rfl ?_
  refine L_p (.int .i64 ((w64 (o0 + ((x0).LoomMill).Change)))) rfl rfl (P_int rfl rfl rfl) ?_
  refine L_p (.int .i64 ((w64 (o0 + ((x0).LoomMill).Change)))) rfl rfl (P_assign rfl) ?_
  refine L_nl fun nD oD hs => ?_
  have hfr := hfr.ext hs
  clear hs
  refine EL_nil (thn_n (E_ret ?_))
  obtain rfl := sinj h
  exact end1 rfl rfl (show _ = .int .i64 ((w64 (o0 + ((x0).LoomMill).Change))) from rfl) ⟨_, hfr, rfl⟩
def f72 (x0 : List LoomRun) (x1 : LoomRun → Option Bool) : Option (Bool) :=
 (f91 x0 x1).bind fun y2 =>
 some ((decide (y2 ≥ (0 : Int))))
theorem en72 : Enters Try.prog 72 := enters_of Try.func72 (by kernel_rfl) rfl
theorem wk72 {gI : Gh} {wI : World} {x0 : List LoomRun} {x1 : LoomRun → Option Bool} {up0 : Value} (rp0 : RV gI.m wI x0 up0) {up1 : Value} (rp1 : FnV1 Try.prog x1 up1 gI wI) {r : Bool} (h : f72 x0 x1 = some r) : Fn Try.prog 72 #[up0, up1] gI wI (fun _ _ v => v = .bool (r)) := by
 unfold f72 at h
 refine fn_of_E Try.func72 rfl (Nat.le_of_ble_eq_true rfl) fun g0 hm hfr => ?_
 have rp0 : RV g0.m wI x0 up0 := hm ▸ rp0
 obtain ⟨ff1, fa1, fc1, rfl, fen1, fcl1⟩ := rp1
 show E _ 9 none _ _ _ _ _
 refine E_seq (E_region (EL_at (.bool false) rfl rfl ?_))
 refine EL_nil (thn_n (E_seq (E_region (EL_mw up0 rfl rfl ?_))))
 refine EL_mw ((.func (.func ff1) fa1 fc1)) rfl rfl ?_
 obtain ⟨y2, hy2, h⟩ := bsome h
 refine EL_do .plain rfl (D_call (g := g0) (vs := [up0, (.func (.func ff1) fa1 fc1)]) en91 (.cons rfl (.cons rfl .nil)) (wk91 rp0 (FnV1.ch ⟨_, _, _, rfl, fen1, fcl1⟩ hfr.ch) hy2) fun g1 w1_ v1 hs hr => ?_)
 have hfr := hfr.ext hs
 subst hr
 refine EL_in (.bool ((decide (y2 ≥ (0 : Int))))) rfl rfl rfl rfl ?_
 refine EL_at (.bool ((decide (y2 ≥ (0 : Int))))) rfl rfl ?_
 refine EL_nil (thn_n (E_ret ?_))
 obtain rfl := sinj h
 exact end1 rfl rfl (show _ = .bool ((decide (y2 ≥ (0 : Int)))) from rfl) ⟨_, hfr, rfl⟩
def f82 (x0 : List LoomOrder) (x1 : LoomOrder → Option Bool) : Option (Bool) :=
 (f97 x0 x1).bind fun y2 =>
 some ((decide (y2 ≥ (0 : Int))))
theorem en82 : Enters Try.prog 82 := enters_of Try.func82 (by kernel_rfl) rfl
theorem wk82 {gI : Gh} {wI : World} {x0 : List LoomOrder} {x1 : LoomOrder → Option Bool} {up0 : Value} (rp0 : RV gI.m wI x0 up0) {up1 : Value} (rp1 : FnV1 Try.prog x1 up1 gI wI) {r : Bool} (h : f82 x0 x1 = some r) : Fn Try.prog 82 #[up0, up1] gI wI (fun _ _ v => v = .bool (r)) := by
 unfold f82 at h
 refine fn_of_E Try.func82 rfl (Nat.le_of_ble_eq_true rfl) fun g0 hm hfr => ?_
 have rp0 : RV g0.m wI x0 up0 := hm ▸ rp0
 obtain ⟨ff1, fa1, fc1, rfl, fen1, fcl1⟩ := rp1
 show E _ 9 none _ _ _ _ _
 refine E_seq (E_region (EL_at (.bool false) rfl rfl ?_))
 refine EL_nil (thn_n (E_seq (E_region (EL_mw up0 rfl rfl ?_))))
 refine EL_mw ((.func (.func ff1) fa1 fc1)) rfl rfl ?_
 obtain ⟨y2, hy2, h⟩ := bsome h
 refine EL_do .plain rfl (D_call (g := g0) (vs := [up0, (.func (.func ff1) fa1 fc1)]) en97 (.cons rfl (.cons rfl .nil)) (wk97 rp0 (FnV1.ch ⟨_, _, _, rfl, fen1, fcl1⟩ hfr.ch) hy2) fun g1 w1_ v1 hs hr => ?_)
 have hfr := hfr.ext hs
 subst hr
 refine EL_in (.bool ((decide (y2 ≥ (0 : Int))))) rfl rfl rfl rfl ?_
 refine EL_at (.bool ((decide (y2 ≥ (0 : Int))))) rfl rfl ?_
 refine EL_nil (thn_n (E_ret ?_))
 obtain rfl := sinj h
 exact end1 rfl rfl (show _ = .bool ((decide (y2 ≥ (0 : Int)))) from rfl) ⟨_, hfr, rfl⟩
def f84 (x0 : Int) : Option (It Int) :=
 some ((fun σ cons s => f99 x0 σ cons s))
theorem en84 : Enters Try.prog 84 := enters_of Try.func84 (by kernel_rfl) rfl
theorem wk84 {gI : Gh} {wI : World} {x0 : Int}  {r : It Int} (h : f84 x0 = some r) : Fn Try.prog 84 #[.int .i64 (x0)] gI wI (fun m w v => ItV Try.prog (RA1 (α := Int)) (r) v m w) := by
 unfold f84 at h
 refine fn_of_E Try.func84 rfl (Nat.le_of_ble_eq_true rfl) fun g0 hm hfr => ?_
 show E _ 4 none _ _ _ _ _
 refine E_seq (E_region (EL_do .plain rfl (D_box (g := g0) rfl (RV_int.2 rfl) fun g1 w1 p1 hs q1 => ?_)))
 have hfr := hfr.ext hs
 refine EL_at (.nilFunc) rfl rfl ?_
 refine EL_nil (thn_n (E_seq (E_region (EL_p ((.func (.func 99) #[] #[p1])) (P_makeFunc (capf_0_1 (show ev _ _ = p1 from rfl))) rfl ?_))))
 refine EL_at ((.func (.func 99) #[] #[p1])) rfl rfl ?_
 refine EL_nil (thn_n (E_ret ?_))
 obtain rfl := sinj h
 exact end1 rfl rfl (show _ = (.func (.func 99) #[] #[p1]) from rfl) ⟨_, hfr, (show ItV Try.prog (RA1 (α := Int)) (fun σ cons s => f99 x0 σ cons s) ((.func (.func 99) #[] #[p1])) g1.m w1 from ⟨99, #[], #[p1], rfl, en99, fun g' w' hch σ cons s s' h => wk99  (q1.ch hch) h⟩)⟩
def f90 (x0 : Int) (x1 : Int) : Option (Int) :=
 (f102 x0).bind fun y2 =>
 (f102 x1).bind fun y4 =>
 jn (σ := Unit) (fun _ =>
  jn (σ := Unit) (fun _ =>
   jn (σ := Unit) (fun _ =>
    jn (σ := Unit) (fun _ =>
     some ((0 : Int))
     ) fun g8 =>
    bif (decide (x0 > x1)) then
     some ((1 : Int))
    else
     g8 ()
    ) fun k8 =>
   bif (decide (x0 < x1)) then
    some ((-1 : Int))
   else
    k8 ()
   ) fun k18 =>
  bif y4 then
   some ((1 : Int))
  else
   k18 ()
  ) fun l8 =>
 bif y2 then
  jn (σ := Unit) (fun _ =>
   some ((-1 : Int))
   ) fun m8 =>
  bif y4 then
   some ((0 : Int))
  else
   m8 ()
 else
  l8 ()
theorem en90 : Enters Try.prog 90 := enters_of Try.func90 (by kernel_rfl) rfl
theorem wk90 {gI : Gh} {wI : World} {x0 : Int} {x1 : Int}  {r : Int} (h : f90 x0 x1 = some r) : Fn Try.prog 90 #[.int .i64 (x0), .int .i64 (x1)] gI wI (fun _ _ v => v = .int .i64 (r)) := by
 unfold f90 at h
 refine fn_of_E Try.func90 rfl (Nat.le_of_ble_eq_true rfl) fun g0 hm hfr => ?_
 show E _ 20 none _ _ _ _ _
 refine E_seq (E_region (EL_at (.int .i64 (0)) rfl rfl ?_))
 refine EL_nil (thn_n (E_seq (E_region (EL_mw (.int .i64 (x0)) rfl rfl ?_))))
 obtain ⟨y2, hy2, h⟩ := bsome h
 refine EL_do .plain rfl (D_call (g := g0) (vs := [.int .i64 (x0)]) en102 (.cons rfl .nil) (wk102  hy2) fun g1 w1_ v1 hs hr => ?_)
 have hfr := hfr.ext hs
 subst hr
 refine EL_at (.bool (y2)) rfl rfl ?_
 refine EL_nil (thn_n (E_seq (E_region (EL_mw (.int .i64 (x1)) rfl rfl ?_))))
 obtain ⟨y4, d9, h⟩ := bsome h
 refine EL_do .plain rfl (D_call (g := g1) (vs := [.int .i64 (x1)]) en102 (.cons rfl .nil) (wk102  d9) fun g3 w3_ v3 hs hr => ?_)
 have hfr := hfr.ext hs
 subst hr
 refine EL_at (.bool (y4)) rfl rfl ?_
 refine EL_nil (thn_n (E_joinC h (fun (s : Unit) e w => ∃ (g : Gh) , Fr gI wI g w ∧ e 0 = .int .i64 (x0) ∧ e 1 = .int .i64 (x1) ∧ e 6 = .bool (y4)) (fun X10 l8 n8 h => ?_) ?_))
 ·refine E_seq (E_region (EL_mw (.bool (y2)) rfl rfl ?_))
  refine EL_nil (thn_n ?_)
  rcases csome h with ⟨o0, h⟩ | ⟨o0, h⟩
  ·refine E_ct o0 rfl ?_
   refine E_joinC h (fun (s : Unit) e w => ∃ (g : Gh) , Fr gI wI g w) (fun X13 m8 r8 h => ?_) ?_
   ·refine E_seq (E_region (EL_mw (.bool (y4)) rfl rfl ?_))
    refine EL_nil (thn_n ?_)
    rcases csome h with ⟨u3, h⟩ | ⟨u3, h⟩
    ·refine E_ct u3 rfl ?_
     refine E_seq (E_region (EL_at (.int .i64 (0)) rfl rfl ?_))
     refine EL_nil (thn_n (E_ret (thn_r ?_)))
     refine thn_r ?_
     obtain rfl := sinj h
     exact end1 rfl rfl (show _ = .int .i64 (0) from rfl) ⟨_, hfr, rfl⟩
    ·refine E_cf u3 rfl ?_
     exact E_skip (thn_n (r8 () _ _ ⟨g3, hfr⟩ h))
   ·rintro _ u9 w15 ⟨rA, hfr⟩ h
    refine E_seq (E_region (EL_at (.int .i64 (-1)) rfl rfl ?_))
    refine EL_nil (thn_n (E_ret (thn_r ?_)))
    obtain rfl := sinj h
    exact end1 rfl rfl (show _ = .int .i64 (-1) from rfl) ⟨_, hfr, rfl⟩
  ·refine E_cf o0 rfl ?_
   exact E_skip (thn_n (n8 () _ _ ⟨g3, hfr, rfl, rfl, rfl⟩ h))
 ·rintro _ y9 yA ⟨k9, hfr, x6, y6, d7⟩ h
  refine E_joinC h (fun (s : Unit) e w => ∃ (g : Gh) , Fr gI wI g w ∧ e 0 = .int .i64 (x0) ∧ e 1 = .int .i64 (x1)) (fun X18 k18 v8 h => ?_) ?_
  ·refine E_seq (E_region (EL_mv d7 rfl ?_))
   refine EL_nil (thn_n ?_)
   rcases csome h with ⟨l5, h⟩ | ⟨l5, h⟩
   ·refine E_ct l5 rfl ?_
    refine E_seq (E_region (EL_at (.int .i64 (1)) rfl rfl ?_))
    refine EL_nil (thn_n (E_ret (thn_r ?_)))
    obtain rfl := sinj h
    exact end1 rfl rfl (show _ = .int .i64 (1) from rfl) ⟨_, hfr, rfl⟩
   ·refine E_cf l5 rfl ?_
    exact E_skip (thn_n (v8 () _ _ ⟨k9, hfr, x6, y6⟩ h))
  ·rintro _ z9 aB ⟨l9, hfr, i6, j6⟩ h
   refine E_joinC h (fun (s : Unit) e w => ∃ (g : Gh) , Fr gI wI g w ∧ e 0 = .int .i64 (x0) ∧ e 1 = .int .i64 (x1)) (fun X22 k8 x8 h => ?_) ?_
   ·refine E_seq (E_region (EL_mv i6 rfl ?_))
    refine EL_mv j6 rfl ?_
    refine EL_in (.bool ((decide (x0 < x1)))) rfl rfl rfl rfl ?_
    refine EL_nil (thn_n ?_)
    rcases csome h with ⟨t5, h⟩ | ⟨t5, h⟩
    ·refine E_ct t5 rfl ?_
     refine E_seq (E_region (EL_at (.int .i64 (-1)) rfl rfl ?_))
     refine EL_nil (thn_n (E_ret (thn_r ?_)))
     obtain rfl := sinj h
     exact end1 rfl rfl (show _ = .int .i64 (-1) from rfl) ⟨_, hfr, rfl⟩
    ·refine E_cf t5 rfl ?_
     exact E_skip (thn_n (x8 () _ _ ⟨l9, hfr, i6, j6⟩ h))
   ·rintro _ bA dB ⟨n9, hfr, i7, m7⟩ h
    refine E_joinC h (fun (s : Unit) e w => ∃ (g : Gh) , Fr gI wI g w) (fun X26 g8 a9 h => ?_) ?_
    ·refine E_seq (E_region (EL_mv i7 rfl ?_))
     refine EL_mv m7 rfl ?_
     refine EL_in (.bool ((decide (x0 > x1)))) rfl rfl rfl rfl ?_
     refine EL_nil (thn_n ?_)
     rcases csome h with ⟨x5, h⟩ | ⟨x5, h⟩
     ·refine E_ct x5 rfl ?_
      refine E_seq (E_region (EL_at (.int .i64 (1)) rfl rfl ?_))
      refine EL_nil (thn_n (E_ret (thn_r ?_)))
      obtain rfl := sinj h
      exact end1 rfl rfl (show _ = .int .i64 (1) from rfl) ⟨_, hfr, rfl⟩
     ·refine E_cf x5 rfl ?_
      exact E_skip (thn_n (a9 () _ _ ⟨n9, hfr⟩ h))
    ·rintro _ iA iB ⟨jB, hfr⟩ h
     refine E_seq (E_region (EL_at (.int .i64 (0)) rfl rfl ?_))
     refine EL_nil (thn_n (E_ret ?_))
     obtain rfl := sinj h
     exact end1 rfl rfl (show _ = .int .i64 (0) from rfl) ⟨_, hfr, rfl⟩
def f95 (x0 : List Int) (x1 : Int → Option Bool) : Option (Bool) :=
 (f104 x0 x1).bind fun y2 =>
 some ((decide (y2 ≥ (0 : Int))))
theorem en95 : Enters Try.prog 95 := enters_of Try.func95 (by kernel_rfl) rfl
theorem wk95 {gI : Gh} {wI : World} {x0 : List Int} {x1 : Int → Option Bool} {up0 : Value} (rp0 : RV gI.m wI x0 up0) {up1 : Value} (rp1 : FnV1 Try.prog x1 up1 gI wI) {r : Bool} (h : f95 x0 x1 = some r) : Fn Try.prog 95 #[up0, up1] gI wI (fun _ _ v => v = .bool (r)) := by
 unfold f95 at h
 refine fn_of_E Try.func95 rfl (Nat.le_of_ble_eq_true rfl) fun g0 hm hfr => ?_
 have rp0 : RV g0.m wI x0 up0 := hm ▸ rp0
 obtain ⟨ff1, fa1, fc1, rfl, fen1, fcl1⟩ := rp1
 show E _ 9 none _ _ _ _ _
 refine E_seq (E_region (EL_at (.bool false) rfl rfl ?_))
 refine EL_nil (thn_n (E_seq (E_region (EL_mw up0 rfl rfl ?_))))
 refine EL_mw ((.func (.func ff1) fa1 fc1)) rfl rfl ?_
 obtain ⟨y2, hy2, h⟩ := bsome h
 refine EL_do .plain rfl (D_call (g := g0) (vs := [up0, (.func (.func ff1) fa1 fc1)]) en104 (.cons rfl (.cons rfl .nil)) (wk104 rp0 (FnV1.ch ⟨_, _, _, rfl, fen1, fcl1⟩ hfr.ch) hy2) fun g1 w1_ v1 hs hr => ?_)
 have hfr := hfr.ext hs
 subst hr
 refine EL_in (.bool ((decide (y2 ≥ (0 : Int))))) rfl rfl rfl rfl ?_
 refine EL_at (.bool ((decide (y2 ≥ (0 : Int))))) rfl rfl ?_
 refine EL_nil (thn_n (E_ret ?_))
 obtain rfl := sinj h
 exact end1 rfl rfl (show _ = .bool ((decide (y2 ≥ (0 : Int)))) from rfl) ⟨_, hfr, rfl⟩
def f98 (x0 : LoomLoomMill) (x1 : Vector (Vector Int 7) 128) (x2 : Int) (x3 : Int) (x4 : Int) (x5 : List (Int × LoomRun)) : Option (Int) :=
 (shl64 (1 : Int) x3).bind fun y2 =>
 jn (σ := Unit) (fun _ =>
  Option.bind (α := Int) (
   lp (σ := Int × Int) (fun vE (u3, o0) =>
    bif (decide (o0 < (((x0).orders).length : Int))) then
     Option.bind (α := Int) (
      jn (σ := Unit) (fun _ =>
       (idx (x1).toList (bit64 .andNot x2 y2)).bind fun xE =>
       (idx (xE).toList o0).bind fun m8 =>
       Option.bind (α := Int) (
        (idx ((x0).orders) o0).bind fun jB =>
        (idx ((x0).orders) x3).bind fun lB =>
        bif ((jB).Chain != (lB).Chain) then
         some ((w64 (m8 + ((x0).LoomMill).Change)))
        else
         some (m8)
        ) fun m7 =>
       (f105 x0 x3 x4 m7 x5).bind fun mB =>
       some ((min64 u3 mB))
       ) fun yE =>
      Option.bind (α := Bool) (
       (shr64 (bit64 .andNot x2 y2) o0).bind fun y6 =>
       bif ((bit64 .and y6 (1 : Int)) == (0 : Int)) then
        some (true)
       else
        (idx (x1).toList (bit64 .andNot x2 y2)).bind fun zE =>
        (idx (zE).toList o0).bind fun nB =>
        some ((decide (nB ≥ (1048576 : Int))))
       ) fun j6 =>
      bif j6 then
       some (u3)
      else
       yE ()
      ) fun g8 =>
     vE (g8, (w64 (o0 + (1 : Int))))
    else
     some (u3)
    ) big ((1048576 : Int), (0 : Int))
   ) fun x6 =>
  some (x6)
  ) fun k7 =>
 bif ((bit64 .andNot x2 y2) == (0 : Int)) then
  (f105 x0 x3 x4 ((0 : Int)) x5).bind fun y11 =>
  some (y11)
 else
  k7 ()
theorem en98 : Enters Try.prog 98 := enters_of Try.func98 (by kernel_rfl) rfl
theorem wk98 {gI : Gh} {wI : World} {x0 : LoomLoomMill} {x1 : Vector (Vector Int 7) 128} {x2 : Int} {x3 : Int} {x4 : Int} {x5 : List (Int × LoomRun)} {up0 : Value} (rp0 : RV gI.m wI x0 up0) {up1 : Value} (rp1 : PT gI.m wI x1 up1) {up5 : Value} (mq5 : MR (Value.int .i64) gI wI x5 up5) {r : Int} (h : f98 x0 x1 x2 x3 x4 x5 = some r) : Fn Try.prog 98 #[up0, up1, .int .i64 (x2), .int .i64 (x3), .int .i64 (x4), up5] gI wI (fun _ _ v => v = .int .i64 (r)) := by
 unfold f98 at h
 refine fn_of_E Try.func98 rfl (Nat.le_of_ble_eq_true rfl) fun g0 hm hfr => ?_
 have rp0 : RV g0.m wI x0 up0 := hm ▸ rp0
 have rp1 : PT g0.m wI x1 up1 := hm ▸ rp1
 have mq5 := MQ.enter mq5 hm hfr
 show E _ 84 none _ _ _ _ _
 refine E_seq (E_region (EL_do .plain rfl (D_box (g := g0) rfl rp0 fun g1 w1 p1 hs q1 => ?_)))
 have hfr := hfr.ext hs
 have rp1 := rp1.ext hs
 have mq5 := mq5.ext hs
 refine EL_at (.int .i64 (0)) rfl rfl ?_
 refine EL_nil (thn_n (E_seq (E_region (EL_mw (.int .i64 (x2)) rfl rfl ?_))))
 refine EL_mw (.int .i64 (x3)) rfl rfl ?_
 obtain ⟨y2, hy2, h⟩ := bsome h
 refine EL_p (.int .i64 (y2)) (P_int rfl rfl (congrArg (Option.map (Value.int .i64)) hy2)) rfl ?_
 refine EL_in (.int .i64 ((bit64 .andNot x2 y2))) rfl rfl rfl rfl ?_
 refine EL_at (.int .i64 ((bit64 .andNot x2 y2))) rfl rfl ?_
 refine EL_nil (thn_n (E_joinC h (fun (s : Unit) e w => ∃ (g : Gh) , Fr gI wI g w ∧ e 1 = up1 ∧ PT g.m w (x1 : Vector (Vector Int 7) 128) up1 ∧ e 3 = .int .i64 (x3) ∧ e 4 = .int .i64 (x4) ∧ e 5 = up5 ∧ MQ (Value.int .i64) wI.heap.size g w (x5 : List (Int × LoomRun)) up5 ∧ e 6 = p1 ∧ PT g.m w (x0 : LoomLoomMill) p1 ∧ e 13 = .int .i64 ((bit64 .andNot x2 y2))) (fun X7 k7 hk7 h => ?_) ?_))
 ·refine E_seq (E_region (EL_mw (.int .i64 ((bit64 .andNot x2 y2))) rfl rfl ?_))
  refine EL_in (.bool (((bit64 .andNot x2 y2) == (0 : Int)))) rfl rfl rfl rfl ?_
  refine EL_nil (thn_n ?_)
  rcases csome h with ⟨hc8, h⟩ | ⟨hc8, h⟩
  ·refine E_ct hc8 rfl ?_
   refine E_seq (E_region (EL_do .plain rfl (D_load (g := g1) Try.isAgg96 Try.sizeOf96 rfl q1 fun v9 r9 => ?_)))
   refine EL_mw (.int .i64 (x3)) rfl rfl ?_
   refine EL_mw (.int .i64 (x4)) rfl rfl ?_
   refine EL_mw up5 rfl rfl ?_
   obtain ⟨y11, zG, h⟩ := bsome h
   refine EL_do .plain rfl (D_call (g := g1) (vs := [v9, .int .i64 (x3), .int .i64 (x4), .int .i64 (0), up5]) en105 (.cons rfl (.cons rfl (.cons rfl (.cons rfl (.cons rfl .nil))))) (wk105 r9 mq5.r zG) fun gJ lI iJ hs hr => ?_)
   have hfr := hfr.ext hs
   subst hr
   refine EL_at (.int .i64 (y11)) rfl rfl ?_
   refine EL_nil (thn_n (E_ret (thn_r ?_)))
   obtain rfl := sinj h
   exact end1 rfl rfl (show _ = .int .i64 (y11) from rfl) ⟨_, hfr, rfl⟩
  ·refine E_cf hc8 rfl ?_
   exact E_skip (thn_n (hk7 () _ _ ⟨g1, hfr, rfl, rp1, rfl, rfl, rfl, mq5, rfl, q1, rfl⟩ h))
 ·rintro _ mI jJ ⟨yG, hfr, gG, hG, iG, jG, kG, lG, yD, oB, cF⟩ h
  refine E_seq (E_region (EL_at (.int .i64 (1048576)) rfl rfl ?_))
  refine EL_nil (thn_n ?_)
  obtain ⟨x6, hx, h⟩ := bsome h
  refine E_join (fun e w => ∃ (g : Gh) , Fr gI wI g w ∧ e 14 = .int .i64 (x6)) (fun Q' hQ => ?_) (fun zH nI hR => ?_)
  ·replace h := hx
   clear hx
   refine E_seq (E_region (EL_p (fPtr p1 2) (P_fieldAddr at_96_1 yD (PT.ptr oB)) rfl ?_))
   have aH := PT_field (part_LoomLoomMill_1).1 oB
   refine EL_do .plain rfl (D_load (g := yG) Try.isAgg25 Try.sizeOf25 rfl aH fun pI cH => ?_)
   refine EL_p (.int .i64 (((x0).orders).length : Int)) (P_len Try.underlying25 rfl cH) rfl ?_
   refine EL_mw (.int .i64 (0)) rfl rfl ?_
   refine EL_nil (thn_n (E_block ?_))
   refine E_lp h (fun (s : Int × Int) e w => ∃ (g : Gh) , Fr gI wI g w ∧ e 1 = up1 ∧ PT g.m w (x1 : Vector (Vector Int 7) 128) up1 ∧ e 3 = .int .i64 (x3) ∧ e 4 = .int .i64 (x4) ∧ e 5 = up5 ∧ MQ (Value.int .i64) wI.heap.size g w (x5 : List (Int × LoomRun)) up5 ∧ e 6 = p1 ∧ PT g.m w (x0 : LoomLoomMill) p1 ∧ e 13 = .int .i64 ((bit64 .andNot x2 y2)) ∧ e 14 = .int .i64 (s.1) ∧ e 30 = .int .i64 ((((x0).orders).length : Int)) ∧ e 31 = .int .i64 (s.2)) ⟨yG, hfr, gG, hG, iG, jG, kG, lG, yD, oB, cF, rfl, rfl, rfl⟩ (fun X310 vE mG => ?_)
   rintro ⟨u3, o0⟩ aI qI ⟨tB, hfr, k9, d7, cC, eC, mC, qC, rC, uC, k8, x8, a9, l8⟩ h
   refine E_seq (E_region (EL_p (.bool ((decide (o0 < (((x0).orders).length : Int))))) (P_int l8 a9 rfl) rfl ?_))
   refine EL_nil (thn_n (E_seq ?_))
   rcases csome h with ⟨vB, h⟩ | ⟨vB, h⟩
   ·refine E_ct vB rfl ?_
    refine E_skip (thn_n ?_)
    obtain ⟨g8, hx, h⟩ := bsome h
    refine E_join (fun e w => ∃ (g : Gh) , Fr gI wI g w ∧ e 1 = up1 ∧ PT g.m w (x1 : Vector (Vector Int 7) 128) up1 ∧ e 3 = .int .i64 (x3) ∧ e 4 = .int .i64 (x4) ∧ e 5 = up5 ∧ MQ (Value.int .i64) wI.heap.size g w (x5 : List (Int × LoomRun)) up5 ∧ e 6 = p1 ∧ PT g.m w (x0 : LoomLoomMill) p1 ∧ e 13 = .int .i64 ((bit64 .andNot x2 y2)) ∧ e 14 = .int .i64 (g8) ∧ e 30 = .int .i64 ((((x0).orders).length : Int)) ∧ e 31 = .int .i64 (o0)) (fun Q' hQ => ?_) (fun bI sI hR => ?_)
    ·replace h := hx
     clear hx
     refine E_block ?_
     refine E_seq (E_region (EL_mv l8 rfl ?_))
     refine EL_at (.int .i64 (o0)) rfl rfl ?_
     refine EL_nil (thn_n (E_joinC h (fun (s : Unit) e w => ∃ (g : Gh) , Fr gI wI g w ∧ e 1 = up1 ∧ PT g.m w (x1 : Vector (Vector Int 7) 128) up1 ∧ e 3 = .int .i64 (x3) ∧ e 4 = .int .i64 (x4) ∧ e 5 = up5 ∧ MQ (Value.int .i64) wI.heap.size g w (x5 : List (Int × LoomRun)) up5 ∧ e 6 = p1 ∧ PT g.m w (x0 : LoomLoomMill) p1 ∧ e 13 = .int .i64 ((bit64 .andNot x2 y2)) ∧ e 14 = .int .i64 (u3) ∧ e 15 = .int .i64 (o0) ∧ e 30 = .int .i64 ((((x0).orders).length : Int)) ∧ e 31 = .int .i64 (o0)) (fun X475 yE nG h => ?_) ?_))
     ·obtain ⟨j6, hx, h⟩ := bsome h
      refine E_join (fun e w => ∃ (g : Gh) , Fr gI wI g w ∧ e 1 = up1 ∧ PT g.m w (x1 : Vector (Vector Int 7) 128) up1 ∧ e 3 = .int .i64 (x3) ∧ e 4 = .int .i64 (x4) ∧ e 5 = up5 ∧ MQ (Value.int .i64) wI.heap.size g w (x5 : List (Int × LoomRun)) up5 ∧ e 6 = p1 ∧ PT g.m w (x0 : LoomLoomMill) p1 ∧ e 13 = .int .i64 ((bit64 .andNot x2 y2)) ∧ e 14 = .int .i64 (u3) ∧ e 15 = .int .i64 (o0) ∧ e 30 = .int .i64 ((((x0).orders).length : Int)) ∧ e 31 = .int .i64 (o0) ∧ e 48 = .bool (j6)) (fun Q' hQ => ?_) (fun dI tI hR => ?_)
      ·replace h := hx
       clear hx
       refine E_region (EL_mv k8 rfl ?_)
       refine EL_mw (.int .i64 (o0)) rfl rfl ?_
       obtain ⟨y6, oG, h⟩ := bsome h
       refine EL_p (.int .i64 (y6)) (P_int rfl rfl (congrArg (Option.map (Value.int .i64)) oG)) rfl ?_
       refine EL_in (.int .i64 ((bit64 .and y6 (1 : Int)))) rfl rfl rfl rfl ?_
       refine EL_in (.bool (((bit64 .and y6 (1 : Int)) == (0 : Int)))) rfl rfl rfl rfl ?_
       refine EL_mw (.bool (((bit64 .and y6 (1 : Int)) == (0 : Int)))) rfl rfl ?_
       rcases csome h with ⟨l5, h⟩ | ⟨l5, h⟩
       ·refine EL_s rfl rfl l5 rfl rfl ?_
        iterate 7 refine EL_s rfl rfl l5 rfl rfl ?_
        refine EL_p (.bool true) (P_pick (b := ((bit64 .and y6 (1 : Int)) == (0 : Int))) rfl (pick_t l5 rfl)) rfl ?_
        refine EL_nil ?_
        obtain rfl := sinj h
        exact hQ _ _ ⟨tB, hfr, k9, d7, cC, eC, mC, qC, rC, uC, k8, x8, rfl, a9, l8, rfl⟩
       ·refine EL_y up1 (P_move k9) rfl rfl l5 rfl ?_
        refine EL_y (.int .i64 ((bit64 .andNot x2 y2))) (P_move k8) rfl rfl l5 rfl ?_
        refine EL_y (.int .i64 (o0)) (P_move rfl) rfl rfl l5 rfl ?_
        obtain ⟨pb486, po486, pe486⟩ := PT.ptr d7
        refine EL_y up1 (P_nilCk rfl pe486) rfl rfl l5 rfl ?_
        obtain ⟨zE, zD, h⟩ := bsome h
        refine EL_y (fPtr up1 (((bit64 .andNot x2 y2) : Int).toNat * 7)) (P_indexAddrA (α := Vector Int 7) Try.underlying150 Try.sizeOf148 rfl (PT.ptr d7) rfl zD) rfl rfl l5 rfl ?_
        have dF := PT_idxA d7 zD
        obtain ⟨nB, aE, h⟩ := bsome h
        refine EL_y (fPtr (fPtr up1 (((bit64 .andNot x2 y2) : Int).toNat * 7)) ((o0 : Int).toNat * 1)) (P_indexAddrA (α := Int) Try.underlying148 Try.sizeOf3 rfl (PT.ptr dF) rfl aE) rfl rfl l5 rfl ?_
        have dH := PT_idxA dF aE
        refine EL_do (.yes2 rfl rfl l5) rfl (D_load (g := tB) Try.isAgg3 Try.sizeOf3 rfl dH fun uI gH => ?_)
        obtain rfl := RV_int.1 gH
        refine EL_y (.bool ((decide (nB ≥ (1048576 : Int))))) (P_int rfl rfl rfl) rfl rfl l5 rfl ?_
        refine EL_p (.bool ((decide (nB ≥ (1048576 : Int))))) (P_pick (b := ((bit64 .and y6 (1 : Int)) == (0 : Int))) rfl (pick_f l5 rfl)) rfl ?_
        refine EL_nil ?_
        obtain rfl := sinj h
        exact hQ _ _ ⟨tB, hfr, k9, d7, cC, eC, mC, qC, rC, uC, k8, x8, rfl, a9, l8, rfl⟩
      ·clear hx
       obtain ⟨eF, hfr, vC, aD, bD, cD, eD, gD, iD, jD, y9, z9, iE, bA, iA, rA⟩ := hR
       rcases csome h with ⟨yB, h⟩ | ⟨yB, h⟩
       ·refine E_cond_true (Eq.trans (show ev _ _ = .bool (j6) from rA) (congrArg Value.bool yB)) ?_
        refine E_exit ?_
        refine thn_e ?_
        refine blk_hit ?_
        obtain rfl := sinj h
        exact hQ _ _ ⟨eF, hfr, vC, aD, bD, cD, eD, gD, iD, jD, y9, z9, bA, iA⟩
       ·refine E_cond_false (Eq.trans (show ev _ _ = .bool (j6) from rA) (congrArg Value.bool yB)) ?_
        exact E_skip (thn_n (nG () _ _ ⟨eF, hfr, vC, aD, bD, cD, eD, gD, iD, jD, y9, z9, iE, bA, iA⟩ h))
     ·rintro _ iI vI ⟨iF, hfr, l9, i6, n9, lD, mD, n8, i7, t5, d9, yA, aB, dB, iB⟩ h
      refine E_seq (E_region (EL_mv l9 rfl ?_))
      refine EL_mv d9 rfl ?_
      refine EL_mv aB rfl ?_
      obtain ⟨pb495, po495, pe495⟩ := PT.ptr i6
      refine EL_p up1 (P_nilCk rfl pe495) rfl ?_
      obtain ⟨xE, bE, h⟩ := bsome h
      refine EL_p (fPtr up1 (((bit64 .andNot x2 y2) : Int).toNat * 7)) (P_indexAddrA (α := Vector Int 7) Try.underlying150 Try.sizeOf148 rfl (PT.ptr i6) rfl bE) rfl ?_
      have nF := PT_idxA i6 bE
      obtain ⟨m8, cE, h⟩ := bsome h
      refine EL_p (fPtr (fPtr up1 (((bit64 .andNot x2 y2) : Int).toNat * 7)) ((o0 : Int).toNat * 1)) (P_indexAddrA (α := Int) Try.underlying148 Try.sizeOf3 rfl (PT.ptr nF) rfl cE) rfl ?_
      have iH := PT_idxA nF cE
      refine EL_do .plain rfl (D_load (g := iF) Try.isAgg3 Try.sizeOf3 rfl iH fun xI jH => ?_)
      obtain rfl := RV_int.1 jH
      refine EL_at (.int .i64 (m8)) rfl rfl ?_
      refine EL_nil (thn_n ?_)
      obtain ⟨m7, hx, h⟩ := bsome h
      refine E_join (fun e w => ∃ (g : Gh) , Fr gI wI g w ∧ e 1 = up1 ∧ PT g.m w (x1 : Vector (Vector Int 7) 128) up1 ∧ e 3 = .int .i64 (x3) ∧ e 4 = .int .i64 (x4) ∧ e 5 = up5 ∧ MQ (Value.int .i64) wI.heap.size g w (x5 : List (Int × LoomRun)) up5 ∧ e 6 = p1 ∧ PT g.m w (x0 : LoomLoomMill) p1 ∧ e 13 = .int .i64 ((bit64 .andNot x2 y2)) ∧ e 14 = .int .i64 (u3) ∧ e 16 = .int .i64 (m7) ∧ e 30 = .int .i64 ((((x0).orders).length : Int)) ∧ e 31 = .int .i64 (o0)) (fun Q' hQ => ?_) (fun jI yI hR => ?_)
      ·replace h := hx
       clear hx
       refine E_seq ?_
       have kH := PT_field (part_LoomLoomMill_1).1 t5
       refine L_load (x := .tmp 56) Try.isAgg25 Try.sizeOf25 kH fun uD oF sG => ?_
       obtain ⟨jB, dE, h⟩ := bsome h
       have pF := PT_idx oF dE
       have lH := PT_field (part_LoomOrder_1).1 pF
       refine L_load (x := .tmp 60) Try.isAgg3 Try.sizeOf3 lH fun zI mH tG => ?_
       obtain rfl := RV_int.1 mH
       have nH := PT_field (part_LoomLoomMill_1).1 t5
       refine L_load (x := .tmp 62) Try.isAgg25 Try.sizeOf25 nH fun vD qF uG => ?_
       obtain ⟨lB, eE, h⟩ := bsome h
       have rF := PT_idx qF eE
       have oH := PT_field (part_LoomOrder_1).1 rF
       refine L_load (x := .tmp 66) Try.isAgg3 Try.sizeOf3 oH fun aJ pH vG => ?_
       obtain rfl := RV_int.1 pH
       refine E_drawL (g := iF) (n := 13) [] [0, 1, 2, 3, 4, 5, 6, 7, 8, 9, 10, 11, 12] rfl mixed (by kernel_rfl) trivial ?_
       refine L_p (fPtr p1 2) rfl rfl (P_fieldAddr at_96_1 i7 (PT.ptr t5)) ?_
       refine L_ld (c := uD) rfl rfl .plain (fun _ _ h => h.ch) sG rfl ?_
       refine L_p (.int .i64 (o0)) rfl rfl (P_move aB) ?_
       refine L_p (ePtr uD o0 5) rfl rfl (P_indexAddr (α := LoomOrder) Try.underlying25 Try.sizeOf82 rfl oF rfl dE) ?_
       refine L_p (fPtr (ePtr uD o0 5) 1) rfl rfl (P_fieldAddr at_82_1 rfl (PT.ptr pF)) ?_
       refine L_ld (c := .int .i64 ((jB).Chain)) rfl rfl .plain (fun _ _ h => h.ch) tG rfl ?_
       refine L_p (fPtr p1 2) rfl rfl (P_fieldAddr at_96_1 i7 (PT.ptr t5)) ?_
       refine L_ld (c := vD) rfl rfl .plain (fun _ _ h => h.ch) uG rfl ?_
       refine L_p (.int .i64 (x3)) rfl rfl (P_move n9) ?_
       refine L_p (ePtr vD x3 5) rfl rfl (P_indexAddr (α := LoomOrder) Try.underlying25 Try.sizeOf82 rfl qF rfl eE) ?_
       refine L_p (fPtr (ePtr vD x3 5) 1) rfl rfl (P_fieldAddr at_82_1 rfl (PT.ptr rF)) ?_
       refine L_ld (c := .int .i64 ((lB).Chain)) rfl rfl .plain (fun _ _ h => h.ch) vG rfl ?_
       refine L_p (.bool (((jB).Chain != (lB).Chain))) rfl rfl (P_int rfl rfl rfl) ?_
       refine L_nl fun xD bJ hs => ?_
       have hfr := hfr.ext hs
       have i6 := i6.ext hs
       have n8 := n8.ext hs
       have t5 := t5.ext hs
       clear hs
       refine EL_nil (thn_n ?_)
       rcases csome h with ⟨zB, h⟩ | ⟨zB, h⟩
       ·refine E_ct zB rfl ?_
        refine E_region (EL_mw (.int .i64 (m8)) rfl rfl ?_)
        refine EL_p (fPtr p1 0) (P_fieldAddr at_96_0 i7 (PT.ptr t5)) rfl ?_
        have sF := PT_field (part_LoomLoomMill_0).1 t5
        refine EL_p (fPtr (fPtr p1 0) 1) (P_fieldAddr at_24_1 rfl (PT.ptr sF)) rfl ?_
        have qH := PT_field (part_LoomMill_1).1 sF
        refine EL_do .plain rfl (D_load (g := xD) Try.isAgg3 Try.sizeOf3 rfl qH fun cJ sH => ?_)
        obtain rfl := RV_int.1 sH
        refine EL_in (.int .i64 ((w64 (m8 + ((x0).LoomMill).Change)))) rfl rfl rfl rfl ?_
        refine EL_at (.int .i64 ((w64 (m8 + ((x0).LoomMill).Change)))) rfl rfl ?_
        refine EL_nil ?_
        obtain rfl := sinj h
        exact hQ _ _ ⟨xD, hfr, l9, i6, n9, lD, mD, n8, i7, t5, d9, yA, rfl, dB, iB⟩
       ·refine E_cf zB rfl ?_
        refine E_skip ?_
        obtain rfl := sinj h
        exact hQ _ _ ⟨xD, hfr, l9, i6, n9, lD, mD, n8, i7, t5, d9, yA, rfl, dB, iB⟩
      ·clear hx
       obtain ⟨tF, hfr, uF, u9, nD, oD, sD, r8, tD, v8, jE, kE, lE, mE, nE⟩ := hR
       refine E_region (EL_mv kE rfl ?_)
       refine EL_do .plain rfl (D_load (g := tF) Try.isAgg96 Try.sizeOf96 tD v8 fun tH uH => ?_)
       refine EL_mv nD rfl ?_
       refine EL_mv oD rfl ?_
       refine EL_mv lE rfl ?_
       refine EL_mv sD rfl ?_
       obtain ⟨mB, xG, h⟩ := bsome h
       refine EL_do .plain rfl (D_call (g := tF) (vs := [tH, .int .i64 (x3), .int .i64 (x4), .int .i64 (m7), up5]) en105 (.cons rfl (.cons rfl (.cons rfl (.cons rfl (.cons rfl .nil))))) (wk105 uH r8.r xG) fun xH kI dJ hs hr => ?_)
       have hfr := hfr.ext hs
       have u9 := u9.ext hs
       have r8 := r8.ext hs
       have v8 := v8.ext hs
       subst hr
       refine EL_p (.int .i64 (min64 u3 mB)) (P_min rfl rfl) rfl ?_
       refine EL_at (.int .i64 (min64 u3 mB)) rfl rfl ?_
       refine EL_nil (blk_n ?_)
       obtain rfl := sinj h
       exact hQ _ _ ⟨xH, hfr, uF, u9, nD, oD, sD, r8, tD, v8, jE, rfl, mE, nE⟩
    ·clear hx
     obtain ⟨yH, hfr, vF, xF, yF, zF, aG, bG, cG, eG, oE, rE, sE, tE⟩ := hR
     refine E_region (EL_in (.int .i64 ((w64 (o0 + (1 : Int))))) tE rfl rfl rfl ?_)
     refine EL_mw (.int .i64 ((w64 (o0 + (1 : Int))))) rfl rfl ?_
     exact EL_nil (thn_n (mG (g8, (w64 (o0 + (1 : Int)))) _ _ ⟨yH, hfr, vF, xF, yF, zF, aG, bG, cG, eG, oE, rE, sE, rfl⟩ h))
   ·refine E_cf vB rfl ?_
    refine E_exit ?_
    refine thn_e ?_
    refine thn_e ?_
    refine blk_hit ?_
    obtain rfl := sinj h
    exact hQ _ _ ⟨tB, hfr, x8⟩
  ·clear hx
   obtain ⟨eJ, hfr, uE⟩ := hR
   refine E_seq (E_region (EL_mv uE rfl ?_))
   refine EL_at (.int .i64 (x6)) rfl rfl ?_
   refine EL_nil (thn_n (E_ret ?_))
   obtain rfl := sinj h
   exact end1 rfl rfl (show _ = .int .i64 (x6) from rfl) ⟨_, hfr, rfl⟩
def f100 : Nat → (List Int) → (Int) → (Int) → (Int) → (Int → Int → Option Int) → Option ((List Int))
 | 0, _, _, _, _, _ => none
 | n + 1, x0, x1, x2, x3, x4 =>
  lp (σ := (List Int) × Int × Int × Int × Bool × Bool) (fun k1 (i6, o0, u3, t5, l5, x5) =>
   jn (σ := (List Int)) (fun j6 =>
    jn (σ := Unit) (fun _ =>
     Option.bind (α := Int) (
      bif (!l5) then
       none
      else
       some (t5)
      ) fun k8 =>
     none
     ) fun cC =>
    bif (t5 == (0 : Int)) then
     none
    else
     cC ()
    ) fun k6 =>
   bif (decide ((w64 (u3 - o0)) ≤ (12 : Int))) then
    (f106 i6 o0 u3 x4).bind fun y9 =>
    some (y9)
   else
    k6 (i6)
   ) big (x0, x1, x2, x3, true, true)
theorem en100 : Enters Try.prog 100 := enters_of Try.func100 (by kernel_rfl) rfl
theorem wk100 (n : Nat) : ∀ {iI : Nat} {gI : Gh} {wI : World} {x0 : List Int} {x1 : Int} {x2 : Int} {x3 : Int} {x4 : Int → Int → Option Int} {up0 : Value} (mp0 : OM iI gI wI 3 x0 up0) {up4 : Value} (rp4 : FnV2 Try.prog x4 up4 gI wI) {r : (List Int)} (h : f100 n x0 x1 x2 x3 x4 = some r), FnM Try.prog 100 #[up0, .int .i64 (x1), .int .i64 (x2), .int .i64 (x3), up4] iI gI wI (fun g w v => v = .tuple #[] ∧ OM iI g w 3 r up0) := by
 induction n with
 | zero => intros; rename_i h; cases h
 | succ n ih =>
 intro iI gI wI x0 x1 x2 x3 x4 up0 mp0 up4 rp4 r h
 simp only [f100] at h
 refine fnM_of_E Try.func100 rfl (Nat.le_of_ble_eq_true rfl) fun g0 hm hfr => ?_
 have iB := mp0
 replace mp0 := mp0.enter
 rw [← hm] at mp0
 replace hm : g0.m = gI.m := by rw [hm]
 obtain ⟨ff4, fa4, fc4, rfl, fen4, fcl4⟩ := rp4
 show E _ 148 none _ _ _ _ _
 refine E_seq (E_region (EL_at (.bool true) rfl rfl ?_))
 refine EL_nil (thn_n (E_seq (E_region (EL_at (.bool true) rfl rfl ?_))))
 refine EL_nil (thn_n (E_block ?_))
 refine E_lp h (fun (s : (List Int) × Int × Int × Int × Bool × Bool) e w => ∃ (g : Gh) , FrM iI gI wI g w ∧ e 0 = up0 ∧ OM 1 g w 3 (s.1 : List Int) up0 ∧ e 1 = .int .i64 (s.2.1) ∧ e 2 = .int .i64 (s.2.2.1) ∧ e 3 = .int .i64 (s.2.2.2.1) ∧ e 4 = (.func (.func ff4) fa4 fc4) ∧ e 10 = .bool (s.2.2.2.2.1) ∧ e 11 = .bool (s.2.2.2.2.2)) ⟨g0, hfr, rfl, mp0, rfl, rfl, rfl, rfl, rfl, rfl⟩ (fun X1 k1 hk1 => ?_)
 rintro ⟨i6, o0, u3, t5, l5, x5⟩ lD w2 ⟨g2, hfr, n9, u9, y6, d7, eC, z9, jB, lB⟩ h
 refine E_block ?_
 refine E_seq (E_region (EL_mv d7 rfl ?_))
 refine EL_mv y6 rfl ?_
 refine EL_in (.int .i64 ((w64 (u3 - o0)))) rfl rfl rfl rfl ?_
 refine EL_at (.int .i64 ((w64 (u3 - o0)))) rfl rfl ?_
 refine EL_nil (thn_n (E_joinC h (fun (s : (List Int)) e w => ∃ (g : Gh) , FrM iI gI wI g w ∧ e 0 = up0 ∧ OM 1 g w 3 (s : List Int) up0 ∧ e 1 = .int .i64 (o0) ∧ e 2 = .int .i64 (u3) ∧ e 3 = .int .i64 (t5) ∧ e 4 = (.func (.func ff4) fa4 fc4) ∧ e 10 = .bool (l5) ∧ e 11 = .bool (x5) ∧ e 12 = .int .i64 ((w64 (u3 - o0)))) (fun X6 k6 hk6 h => ?_) ?_))
 ·refine E_seq (E_region (EL_mw (.int .i64 ((w64 (u3 - o0)))) rfl rfl ?_))
  refine EL_in (.bool ((decide ((w64 (u3 - o0)) ≤ (12 : Int))))) rfl rfl rfl rfl ?_
  refine EL_nil (thn_n ?_)
  rcases csome h with ⟨bA, h⟩ | ⟨bA, h⟩
  ·refine E_ct bA rfl ?_
   refine E_seq (E_region (EL_mv n9 rfl ?_))
   refine EL_mv y6 rfl ?_
   refine EL_mv d7 rfl ?_
   refine EL_mv z9 rfl ?_
   obtain ⟨y9, qC, h⟩ := bsome h
   refine EL_do .plain rfl (D_callM (g := g2) (i := 1) (vs := [up0, .int .i64 (o0), .int .i64 (u3), (.func (.func ff4) fa4 fc4)]) en106 (.cons rfl (.cons rfl (.cons rfl (.cons rfl .nil)))) (wk106 u9 (FnV2.ch ⟨_, _, _, rfl, fen4, fcl4⟩ hfr.ch) qC) fun g8 w8_ v8 hs hr => ?_)
   obtain ⟨hrv, b8⟩ := hr
   have hfr := hfr.stp hs
   subst hrv
   refine EL_nil (thn_n (E_ret (thn_r ?_)))
   refine blk_r ?_
   refine thn_r ?_
   refine blk_r ?_
   obtain rfl := sinj h
   exact end0 rfl rfl ⟨_, hfr, rfl, iB.back b8⟩
  ·refine E_cf bA rfl ?_
   exact E_skip (thn_n (hk6 (i6) _ _ ⟨g2, hfr, n9, u9, y6, d7, eC, z9, jB, lB, rfl⟩ h))
 ·rintro j6 gD mD ⟨rC, hfr, l8, mB, m8, n8, r8, x8, iA, rA, yA⟩ h
  refine E_joinC h (fun (s : Unit) e w => ∃ (g : Gh) , FrM iI gI wI g w ∧ e 0 = up0 ∧ OM 1 g w 3 (j6 : List Int) up0 ∧ e 1 = .int .i64 (o0) ∧ e 2 = .int .i64 (u3) ∧ e 3 = .int .i64 (t5) ∧ e 4 = (.func (.func ff4) fa4 fc4) ∧ e 10 = .bool (l5) ∧ e 11 = .bool (x5) ∧ e 12 = .int .i64 ((w64 (u3 - o0)))) (fun X12 cC mC h => ?_) ?_
  ·refine E_seq (E_region (EL_mv r8 rfl ?_))
   refine EL_in (.bool ((t5 == (0 : Int)))) rfl rfl rfl rfl ?_
   refine EL_nil (thn_n ?_)
   rcases csome h with ⟨i7, h⟩ | ⟨i7, h⟩
   ·refine E_ct i7 rfl ?_
    refine E_seq (E_region (EL_mv l8 rfl ?_))
    refine EL_mv m8 rfl ?_
    refine EL_mv n8 rfl ?_
    refine EL_mv x8 rfl ?_
    cases h
   ·refine E_cf i7 rfl ?_
    exact E_skip (thn_n (mC () _ _ ⟨rC, hfr, l8, mB, m8, n8, r8, x8, iA, rA, yA⟩ h))
  ·rintro _ iD nD ⟨uC, hfr, a9, nB, d9, k9, oB, l9, x6, aB, dB⟩ h
   obtain ⟨k8, hx, h⟩ := bsome h
   refine E_join (fun e w => ∃ (g : Gh) , FrM iI gI wI g w ∧ e 0 = up0 ∧ OM 1 g w 3 (j6 : List Int) up0 ∧ e 1 = .int .i64 (o0) ∧ e 2 = .int .i64 (u3) ∧ e 3 = .int .i64 (k8) ∧ e 4 = (.func (.func ff4) fa4 fc4) ∧ e 10 = .bool (l5) ∧ e 11 = .bool (x5) ∧ e 12 = .int .i64 ((w64 (u3 - o0)))) (fun Q' hQ => ?_) (fun jD oD hR => ?_)
   ·replace h := hx
    clear hx
    refine E_seq (E_region (EL_mv x6 rfl ?_))
    refine EL_p (.bool (!l5)) (P_not rfl) rfl ?_
    refine EL_nil (thn_n ?_)
    rcases csome h with ⟨m7, h⟩ | ⟨m7, h⟩
    ·refine E_ct m7 rfl ?_
     refine E_seq (E_region (EL_mv a9 rfl ?_))
     refine EL_mv d9 rfl ?_
     refine EL_mv k9 rfl ?_
     refine EL_mv l9 rfl ?_
     cases h
    ·refine E_cf m7 rfl ?_
     refine E_skip ?_
     obtain rfl := sinj h
     exact hQ _ _ ⟨uC, hfr, a9, nB, d9, k9, oB, l9, x6, aB, dB⟩
   ·clear hx
    obtain ⟨sD, hfr, tB, cD, vB, yB, eD, zB, vC, aD, bD⟩ := hR
    refine E_seq (E_region (EL_mv tB rfl ?_))
    refine EL_mv vB rfl ?_
    refine EL_mv yB rfl ?_
    refine EL_mv zB rfl ?_
    cases h
theorem v39_1 {iO : Nat} {gI : Gh} {wI : World} {x0 : Hall} {up0 : Value} (rp0 : RV gI.m wI x0 up0) {r : LoomMill × (List LoomOrder) × (List LoomRun)} (h : f39 x0 = some r) : FnG Try.prog 39 #[up0] gI wI (fun g w v => ∃ y0 y1 y2, v = .tuple #[y0, y1, y2] ∧ RV g.m w (r.1) y0 ∧ OM iO g w 82 (r.2.1) y1 ∧ RV g.m w (r.2.2) y2) := by
 unfold f39 at h
 refine fnG_of_E Try.func39 rfl (Nat.le_of_ble_eq_true rfl) fun g0 hm hfr => ?_
 have rp0 : RV g0.m wI x0 up0 := hm ▸ rp0
 show E _ 155 none _ _ _ _ _
 refine E_seq (E_region (EL_do .plain rfl (D_box (g := g0) rfl rp0 fun g1 w1 p1 hs q1 => ?_)))
 have hfr := hfr.ext hs
 refine EL_do .plain rfl (D_allocOc (g := g1) 2002 (⟨[], 0⟩ : LoomMill) Try.zeroValue24 (fun m w => ⟨_, (rep_two rep_nil rep_int), rfl⟩) fun g2 w2 p2 hs b2 cb => ?_)
 have hfr := hfr.stp hs
 have q1 := q1.stp hs
 have oE : OSF 2002 60200 0 g2 w2 3 24 ([] : List Int) p2 := cb.osf (by rfl)
 clear cb
 refine EL_at (.slice none 0 0) rfl rfl ?_
 have b3 : OA 4003 g2 w2 82 ([] : List LoomOrder) (.slice none 0 0) := OA.nil
 refine EL_at (.slice none 0 0) rfl rfl ?_
 refine EL_nil (thn_n (E_seq (E_region (EL_p (fPtr p1 4) (P_fieldAddr at_71_2 rfl (PT.ptr q1)) rfl ?_))))
 have q4 := PT_field (part_Hall_2).1 q1
 refine EL_do .plain rfl (D_load (g := g2) Try.isAgg5 Try.sizeOf5 rfl q4 fun v5 r5 => ?_)
 obtain rfl := RV_u8.1 r5
 refine EL_p (.int .i64 ((((x0).Change).toNat : Int))) (P_u8int Try.underlying5 Try.underlying3 rfl) rfl ?_
 obtain ⟨y6, pR, h⟩ := bsome h
 refine EL_p (.int .i64 (y6)) (P_int rfl rfl (congrArg (Option.map (Value.int .i64)) pR)) rfl ?_
 have r7 : RV g2.m w2 (⟨[], y6⟩ : LoomMill) (.agg (setCh [[.slice none 0 0], [.int .i64 0]] [(1, .int .i64 (y6))]).flatten.toArray) := RV_build rfl (rep_pair (rep_nil) (rep_last (rfl)))
 generalize pQ : (Value.agg (setCh [[.slice none 0 0], [.int .i64 0]] [(1, .int .i64 (y6))]).flatten.toArray) = v7 at r7
 refine EL_p v7 (pQ ▸ P_build (vs := [(1, .int .i64 (y6))]) [[.slice none 0 0], [.int .i64 0]] lay_24 rfl rfl (.cons rfl .nil) ⟨⟨_, rfl, rfl⟩, trivial⟩) rfl ?_
 refine EL_do .plain rfl (D_allocOc (g := g2) 2005 (⟨[], 0⟩ : LoomMill) Try.zeroValue24 (fun m w => ⟨_, (rep_two rep_nil rep_int), rfl⟩) fun g8 w8 p8 hs b8 cb => ?_)
 have hfr := hfr.stp hs
 have q1 := q1.stp hs
 have oE := oE.stp hs rfl
 have b2 := b2.stp hs rfl
 have r7 := r7.stp hs
 have aV : OSF 2005 60500 0 g8 w8 3 24 ([] : List Int) p8 := cb.osf (by rfl)
 clear cb
 refine EL_do .plain rfl (D_storeOc (g := g8) (v := v7) Try.sizeOf24 rfl b8 rfl r7 fun g9 w9 hs b9 cb => ?_)
 have rQ : OSF 2005 60500 0 g9 w9 3 24 ([] : List Int) p8 := cb.osf (by rw [← pQ]; rfl)
 clear cb
 have hfr := hfr.stp hs
 have q1 := q1.stp hs
 have oE := oE.stp hs rfl
 have b2 := b2.stp hs rfl
 refine EL_nil (thn_n ?_)
 obtain ⟨l8, hx, h⟩ := bsome h
 refine E_join (fun e w => ∃ (g : Gh) , Fr gI wI g w ∧ e 1 = p1 ∧ PT g.m w (x0 : Hall) p1 ∧ e 2 = p2 ∧ OB 2002 g w 24 ((⟨[], 0⟩ : LoomMill) : LoomMill) p2 ∧ OSF 2002 60200 0 g w 3 24 (((⟨[], 0⟩ : LoomMill)).Widths) p2 ∧ e 5 = p8 ∧ OB 2005 g w 24 (l8 : LoomMill) p8 ∧ OSF 2005 60500 0 g w 3 24 ((l8).Widths) p8) (fun Q' hQ => ?_) (fun dS bV hR => ?_)
 ·replace h := hx
  clear hx
  refine E_seq (E_region (EL_at (.int .i64 (0)) rfl rfl ?_))
  refine EL_nil (thn_n (E_block ?_))
  refine E_lp h (fun (s : LoomMill × Int) e w => ∃ (g : Gh) , Fr gI wI g w ∧ e 1 = p1 ∧ PT g.m w (x0 : Hall) p1 ∧ e 2 = p2 ∧ OB 2002 g w 24 ((⟨[], 0⟩ : LoomMill) : LoomMill) p2 ∧ OSF 2002 60200 0 g w 3 24 (((⟨[], 0⟩ : LoomMill)).Widths) p2 ∧ e 5 = p8 ∧ OB 2005 g w 24 (s.1 : LoomMill) p8 ∧ OSF 2005 60500 0 g w 3 24 ((s.1).Widths) p8 ∧ e 6 = .int .i64 (s.2)) ⟨g9, hfr, rfl, q1, rfl, b2, oE, rfl, b9, rQ, rfl⟩ (fun X78 rV sQ => ?_)
  rintro ⟨eJ, cC⟩ cV sV ⟨uL, hfr, yH, lE, gJ, iJ, u2_0_79, jJ, kJ, u5_0_79, lJ⟩ h
  refine E_joinC h (fun (s : Unit) e w => ∃ (g : Gh) , Fr gI wI g w ∧ e 1 = p1 ∧ PT g.m w (x0 : Hall) p1 ∧ e 2 = p2 ∧ OB 2002 g w 24 ((⟨[], 0⟩ : LoomMill) : LoomMill) p2 ∧ OSF 2002 60200 0 g w 3 24 (((⟨[], 0⟩ : LoomMill)).Widths) p2 ∧ e 5 = p8 ∧ OB 2005 g w 24 (eJ : LoomMill) p8 ∧ OSF 2005 60500 0 g w 3 24 ((eJ).Widths) p8 ∧ e 6 = .int .i64 (cC)) (fun X84 tV tQ h => ?_) ?_
  ·refine E_seq (E_region (EL_mv lJ rfl ?_))
   refine EL_p (fPtr p1 3) (P_fieldAddr at_71_1 yH (PT.ptr lE)) rfl ?_
   have qR := PT_field (part_Hall_1).1 lE
   refine EL_do .plain rfl (D_load (g := uL) Try.isAgg5 Try.sizeOf5 rfl qR fun uV rR => ?_)
   obtain rfl := RV_u8.1 rR
   refine EL_p (.int .i64 ((((x0).Looms).toNat : Int))) (P_u8int Try.underlying5 Try.underlying3 rfl) rfl ?_
   obtain ⟨qQ, uQ, h⟩ := bsome h
   refine EL_p (.int .i64 (qQ)) (P_int rfl rfl (congrArg (Option.map (Value.int .i64)) uQ)) rfl ?_
   refine EL_in (.bool ((decide (cC ≤ qQ)))) rfl rfl rfl rfl ?_
   refine EL_nil (thn_n ?_)
   rcases csome h with ⟨uI, h⟩ | ⟨uI, h⟩
   ·refine E_ct uI rfl ?_
    exact E_skip (thn_n (tQ () _ _ ⟨uL, hfr, yH, lE, gJ, iJ, u2_0_79, jJ, kJ, u5_0_79, lJ⟩ h))
   ·refine E_cf uI rfl ?_
    refine E_exit ?_
    refine thn_e ?_
    refine thn_e ?_
    refine blk_hit ?_
    obtain rfl := sinj h
    exact hQ _ _ ⟨uL, hfr, yH, lE, gJ, iJ, u2_0_79, jJ, kJ, u5_0_79⟩
  ·rintro _ dV vV ⟨tR, hfr, mJ, vB, aO, rC, u2_0_89, zH, eC, u5_0_89, nJ⟩ h
   obtain ⟨rE, hx, h⟩ := bsome h
   refine E_join (fun e w => ∃ (g : Gh) , Fr gI wI g w ∧ e 1 = p1 ∧ PT g.m w (x0 : Hall) p1 ∧ e 2 = p2 ∧ OB 2002 g w 24 ((⟨[], 0⟩ : LoomMill) : LoomMill) p2 ∧ OSF 2002 60200 0 g w 3 24 (((⟨[], 0⟩ : LoomMill)).Widths) p2 ∧ e 5 = p8 ∧ OB 2005 g w 24 (rE : LoomMill) p8 ∧ OSF 2005 60500 0 g w 3 24 ((rE).Widths) p8 ∧ e 6 = .int .i64 (cC)) (fun Q' hQ => ?_) (fun eS eV hR => ?_)
   ·replace h := hx
    clear hx
    refine E_block ?_
    refine L_loadFS (x := .tmp 29) part_LoomMill_0.1 Try.isAgg22 Try.sizeOf22 eC u5_0_89 fun vQ vI o118 bO => ?_
    have vL := PT_field (part_Hall_0).1 vB
    obtain ⟨xL, oJ, h⟩ := bsome h
    have xQ := PT_idxA vL oJ
    refine L_load (x := .tmp 33) Try.isAgg5 Try.sizeOf5 xQ fun gV yQ cO => ?_
    obtain rfl := RV_u8.1 yQ
    obtain ⟨tB, dO, h⟩ := bsome h
    refine E_drawL (g := tR) (n := 10) [(9, (fun v g w => RV g.m w ([(w64 ((10 : Int) + tB))] : List Int) v ∧ OS 3038 g w 3 ([(w64 ((10 : Int) + tB))] : List Int) v ∧ FullV v))] [0, 1, 2, 3, 4, 5, 6, 7, 8, 9] rfl mixed (by kernel_rfl) (⟨fun _ => up_and up_rv (up_and up_os (up_eq _)), trivial⟩) ?_
    refine L_p (fPtr p8 0) rfl rfl (P_fieldAddr at_24_0 zH (OB.ptr eC)) ?_
    refine L_ld (c := vQ) rfl rfl .plain (fun _ _ h => ⟨h.ch, fun b hb _ => h.below.block b hb⟩) bO rfl ?_
    refine L_p (.int .i64 (cC)) rfl rfl (P_move nJ) ?_
    refine L_p (fPtr p1 0) rfl rfl (P_fieldAddr at_71_0 mJ (PT.ptr vB)) ?_
    refine L_p (fPtr (fPtr p1 0) ((cC : Int).toNat * 1)) rfl rfl (P_indexAddrA (α := UInt8) Try.underlying68 Try.sizeOf5 rfl (PT.ptr vL) rfl oJ) ?_
    refine L_ld (c := .int .u8 (UInt8.toNat (xL))) rfl rfl .plain (fun _ _ h => h.ch) cO rfl ?_
    refine L_p (.int .i64 (((xL).toNat : Int))) rfl rfl (P_u8int Try.underlying5 Try.underlying3 rfl) ?_
    refine L_p (.int .i64 (tB)) rfl rfl (P_int rfl rfl (congrArg (Option.map (Value.int .i64)) dO)) ?_
    refine L_p (.int .i64 ((w64 ((10 : Int) + tB)))) rfl rfl (P_int rfl rfl rfl) ?_
    refine L_do (φ := fun v g w => RV g.m w ([(w64 ((10 : Int) + tB))] : List Int) v ∧ OS 3038 g w 3 ([(w64 ((10 : Int) + tB))] : List Int) v ∧ FullV v) rfl rfl .plain (fun g w hd => D_buildSlice (g := g) 3038 (xs := ([(w64 ((10 : Int) + tB))] : List Int)) (vs := [.int .i64 ((w64 ((10 : Int) + tB)))]) Try.underlying22 Try.sizeOf3 Try.zeroValue3 rfl rfl (.cons rfl .nil) (RVs.cons (RV_int.2 rfl) RVs.nil) rfl rfl fun g' w' v hs o r hxt hfl => ⟨g', hxt, r, o, hfl⟩) (fun yD hv => ?_)
    clear hv
    refine L_nil fun zQ iV hall => ?_
    have hs := hall.1
    have hfr := hfr.ext hs
    have vB := vB.ext hs
    have u2_0_89 := u2_0_89.ext hs
    have rC := rC.ext hs
    have eC := eC.ext hs
    have vI := vI.ext hs
    have o118 := o118.ext hs
    have aR := (word_all (A := fun g w => RV g.m w ([(w64 ((10 : Int) + tB))] : List Int) yD ∧ OS 3038 g w 3 ([(w64 ((10 : Int) + tB))] : List Int) yD ∧ FullV yD) 9 rfl hall).1
    have o139 := (word_all (A := fun g w => RV g.m w ([(w64 ((10 : Int) + tB))] : List Int) yD ∧ OS 3038 g w 3 ([(w64 ((10 : Int) + tB))] : List Int) yD ∧ FullV yD) 9 rfl hall).2.1
    clear hs hall
    obtain ⟨bR, eO, h⟩ := bsome h
    refine EL_do .plain rfl (D_append (g := zQ) (i := 60500) Try.underlying22 info_3 rfl rfl o118 vI rfl aR eO fun cR jV kV hs o140 yL _ => ?_)
    have hfr := hfr.stp hs
    have vB := vB.stp hs
    have u2_0_89 := u2_0_89.stp hs rfl
    have rC := rC.stp hs rfl
    have eC := eC.stp hs rfl
    refine EL_p (fPtr p8 0) (P_fieldAddr at_24_0 zH (OB.ptr eC)) rfl ?_
    refine EL_do .plain rfl (D_storeFc (g := cR) part_LoomMill_0 Try.sizeOf22 rfl eC rfl yL fun dR lV hs b143 rst hos => ?_)
    have zL := hos _ _ 60500 3 (bR : List Int) (rv_cells1 yL) rfl o140
    clear rst hos
    have hfr := hfr.stp hs
    have vB := vB.stp hs
    have u2_0_89 := u2_0_89.stp hs rfl
    have rC := rC.stp hs rfl
    refine EL_nil (blk_n ?_)
    obtain rfl := sinj h
    exact hQ _ _ ⟨dR, hfr, mJ, vB, aO, rC, u2_0_89, zH, b143, zL, nJ⟩
   ·clear hx
    obtain ⟨eR, hfr, aM, bM, cM, dM, u2_0_144, eM, iM, u5_0_144, jM⟩ := hR
    refine E_region (EL_mv jM rfl ?_)
    refine EL_in (.int .i64 ((w64 (cC + (1 : Int))))) rfl rfl rfl rfl ?_
    refine EL_at (.int .i64 ((w64 (cC + (1 : Int))))) rfl rfl ?_
    exact EL_nil (thn_n (sQ (rE, (w64 (cC + (1 : Int)))) _ _ ⟨eR, hfr, aM, bM, cM, dM, u2_0_144, eM, iM, u5_0_144, rfl⟩ h))
 ·clear hx
  obtain ⟨gR, hfr, kM, y9, mM, z9, u2_0_145, nM, bA, u5_0_145⟩ := hR
  refine E_seq (E_region (EL_do .plain rfl (D_buildSliceA (g := gR) 4007 (xs := ([] : List LoomOrder)) (vs := []) Try.underlying25 Try.sizeOf82 Try.zeroValue82 rfl rfl .nil RVs.nil rfl rfl fun iR mV oM hs b146 _ => ?_)))
  have hfr := hfr.stp hs
  have y9 := y9.stp hs
  have u2_0_145 := u2_0_145.stp hs rfl
  have z9 := z9.stp hs rfl
  have u5_0_145 := u5_0_145.stp hs rfl
  have bA := bA.stp hs rfl
  refine EL_do .plain rfl (D_buildSlice (g := iR) 3042 (xs := ([] : List LoomRun)) (vs := []) Try.underlying31 Try.sizeOf76 Try.zeroValue76 rfl rfl .nil RVs.nil rfl rfl fun xI pM qM hs o147 uC hxt hfl => ?_)
  have hfr := hfr.stp hs
  have y9 := y9.stp hs
  have u2_0_145 := u2_0_145.stp hs rfl
  have z9 := z9.stp hs rfl
  have u5_0_145 := u5_0_145.stp hs rfl
  have bA := bA.stp hs rfl
  have b146 := b146.stp hs rfl
  refine EL_at oM rfl rfl ?_
  refine EL_at qM rfl rfl ?_
  refine EL_nil (thn_n (E_seq (E_region ?_)))
  have zD : RV xI.m pM (⟨List.toArray [0, 0, 0], rfl⟩ : Vector Int 3) (.agg (setCh [[.int .i64 0], [.int .i64 0], [.int .i64 0]] []).flatten.toArray) := RV_build rfl (rep_vec (flat_chunk rep_int (flat_chunk rep_int (flat_chunk rep_int flat_nil))) rfl)
  generalize gO : (Value.agg (setCh [[.int .i64 0], [.int .i64 0], [.int .i64 0]] []).flatten.toArray) = rM at zD
  refine EL_p rM (gO ▸ P_buildA (vs := []) [[.int .i64 0], [.int .i64 0], [.int .i64 0]] Try.underlying126 layA_126 szA_3 rfl (by simp) .nil trivial) rfl ?_
  have gD : RV xI.m pM (⟨List.toArray [(-1 : Int), (-1 : Int), (-1 : Int)], rfl⟩ : Vector Int 3) (.agg (setCh [[.int .i64 0], [.int .i64 0], [.int .i64 0]] [(0, .int .i64 (-1)), (1, .int .i64 (-1)), (2, .int .i64 (-1))]).flatten.toArray) := RV_build rfl (rep_vec (flat_chunk rfl (flat_chunk rfl (flat_chunk rfl flat_nil))) rfl)
  generalize jO : (Value.agg (setCh [[.int .i64 0], [.int .i64 0], [.int .i64 0]] [(0, .int .i64 (-1)), (1, .int .i64 (-1)), (2, .int .i64 (-1))]).flatten.toArray) = sM at gD
  refine EL_p sM (jO ▸ P_buildA (vs := [(0, .int .i64 (-1)), (1, .int .i64 (-1)), (2, .int .i64 (-1))]) [[.int .i64 0], [.int .i64 0], [.int .i64 0]] Try.underlying126 layA_126 szA_3 rfl (by simp) (.cons rfl (.cons rfl (.cons rfl .nil))) ⟨⟨_, rfl, rfl⟩, ⟨⟨_, rfl, rfl⟩, ⟨⟨_, rfl, rfl⟩, trivial⟩⟩⟩) rfl ?_
  refine EL_do .plain rfl (D_allocOc (g := xI) 2009 ((⟨List.toArray [0, 0, 0], rfl⟩ : Vector Int 3) : Vector Int 3) Try.zeroValue126 (fun m w => ⟨_, (rep_vec (flat_chunk rep_int (flat_chunk rep_int (flat_chunk rep_int flat_nil))) rfl), rfl⟩) fun jR nV yA hs b150 cb => ?_)
  have hfr := hfr.stp hs
  have y9 := y9.stp hs
  have u2_0_145 := u2_0_145.stp hs rfl
  have z9 := z9.stp hs rfl
  have u5_0_145 := u5_0_145.stp hs rfl
  have bA := bA.stp hs rfl
  have uC := uC.stp hs
  have o147 := o147.stp hs rfl
  have b146 := b146.stp hs rfl
  have zD := zD.stp hs
  have gD := gD.stp hs
  clear cb
  refine EL_do .plain rfl (D_allocOc (g := jR) 2010 ((⟨List.toArray [0, 0, 0], rfl⟩ : Vector Int 3) : Vector Int 3) Try.zeroValue126 (fun m w => ⟨_, (rep_vec (flat_chunk rep_int (flat_chunk rep_int (flat_chunk rep_int flat_nil))) rfl), rfl⟩) fun lR oV iB hs b151 cb => ?_)
  have hfr := hfr.stp hs
  have y9 := y9.stp hs
  have u2_0_145 := u2_0_145.stp hs rfl
  have z9 := z9.stp hs rfl
  have u5_0_145 := u5_0_145.stp hs rfl
  have bA := bA.stp hs rfl
  have uC := uC.stp hs
  have o147 := o147.stp hs rfl
  have b146 := b146.stp hs rfl
  have zD := zD.stp hs
  have gD := gD.stp hs
  have b150 := b150.stp hs rfl
  clear cb
  refine EL_do .plain rfl (D_storeOc (g := lR) (v := rM) Try.sizeOf126 rfl b150 rfl zD fun mR pV hs b152 cb => ?_)
  clear cb
  have hfr := hfr.stp hs
  have y9 := y9.stp hs
  have u2_0_145 := u2_0_145.stp hs rfl
  have z9 := z9.stp hs rfl
  have u5_0_145 := u5_0_145.stp hs rfl
  have bA := bA.stp hs rfl
  have uC := uC.stp hs
  have o147 := o147.stp hs rfl
  have b146 := b146.stp hs rfl
  have gD := gD.stp hs
  have b151 := b151.stp hs rfl
  refine EL_do .plain rfl (D_storeOc (g := mR) (v := sM) Try.sizeOf126 rfl b151 rfl gD fun nR qV hs b153 cb => ?_)
  clear cb
  have hfr := hfr.stp hs
  have y9 := y9.stp hs
  have u2_0_145 := u2_0_145.stp hs rfl
  have z9 := z9.stp hs rfl
  have u5_0_145 := u5_0_145.stp hs rfl
  have bA := bA.stp hs rfl
  have uC := uC.stp hs
  have o147 := o147.stp hs rfl
  have b146 := b146.stp hs rfl
  have b152 := b152.stp hs rfl
  refine EL_nil (thn_n ?_)
  obtain ⟨⟨cK, vF⟩, hx, h⟩ := bsome h
  refine E_join (fun e w => ∃ (g : Gh) (v7 v8 : Value), Fr gI wI g w ∧ e 2 = p2 ∧ OB 2002 g w 24 ((⟨[], 0⟩ : LoomMill) : LoomMill) p2 ∧ OSF 2002 60200 0 g w 3 24 (((⟨[], 0⟩ : LoomMill)).Widths) p2 ∧ e 5 = p8 ∧ OB 2005 g w 24 (l8 : LoomMill) p8 ∧ OSF 2005 60500 0 g w 3 24 ((l8).Widths) p8 ∧ e 7 = v7 ∧ OA 4007 g w 82 (cK : List LoomOrder) v7 ∧ e 8 = v8 ∧ RV g.m w (vF : List LoomRun) v8 ∧ OS 3042 g w 76 (vF : List LoomRun) v8) (fun Q' hQ => ?_) (fun uR gS hR => ?_)
  ·replace h := hx
   clear hx
   refine E_seq (E_region (EL_at (.int .i64 (0)) rfl rfl ?_))
   refine EL_nil (thn_n (E_block ?_))
   refine E_lp h (fun (s : (List LoomOrder) × (List LoomRun) × (Vector Int 3) × (Vector Int 3) × Int) e w => ∃ (g : Gh) (v7 v8 : Value), Fr gI wI g w ∧ e 1 = p1 ∧ PT g.m w (x0 : Hall) p1 ∧ e 2 = p2 ∧ OB 2002 g w 24 ((⟨[], 0⟩ : LoomMill) : LoomMill) p2 ∧ OSF 2002 60200 0 g w 3 24 (((⟨[], 0⟩ : LoomMill)).Widths) p2 ∧ e 5 = p8 ∧ OB 2005 g w 24 (l8 : LoomMill) p8 ∧ OSF 2005 60500 0 g w 3 24 ((l8).Widths) p8 ∧ e 7 = v7 ∧ OA 4007 g w 82 (s.1 : List LoomOrder) v7 ∧ e 8 = v8 ∧ RV g.m w (s.2.1 : List LoomRun) v8 ∧ OS 3042 g w 76 (s.2.1 : List LoomRun) v8 ∧ e 9 = yA ∧ OB 2009 g w 126 (s.2.2.1 : Vector Int 3) yA ∧ e 10 = iB ∧ OB 2010 g w 126 (s.2.2.2.1 : Vector Int 3) iB ∧ e 11 = .int .i64 (s.2.2.2.2)) ⟨nR, (oM), (qM), hfr, kM, y9, mM, z9, u2_0_145, nM, bA, u5_0_145, rfl, b146, rfl, uC, o147, rfl, b152, rfl, b153, rfl⟩ (fun X1825 iS tM => ?_)
   rintro ⟨jD, lB, aB, vC, x5⟩ vR jS ⟨aI, dB, k9, hfr, aE, lD, xF, yF, u2_0_1826, zF, aG, u5_0_1826, bG, cG, eG, gG, hG, iG, jG, sE, tE, aD⟩ h
   refine E_joinC h (fun (s : Unit) e w => ∃ (g : Gh) , Fr gI wI g w ∧ e 1 = p1 ∧ PT g.m w (x0 : Hall) p1 ∧ e 2 = p2 ∧ OB 2002 g w 24 ((⟨[], 0⟩ : LoomMill) : LoomMill) p2 ∧ OSF 2002 60200 0 g w 3 24 (((⟨[], 0⟩ : LoomMill)).Widths) p2 ∧ e 5 = p8 ∧ OB 2005 g w 24 (l8 : LoomMill) p8 ∧ OSF 2005 60500 0 g w 3 24 ((l8).Widths) p8 ∧ e 7 = dB ∧ OA 4007 g w 82 (jD : List LoomOrder) dB ∧ e 8 = k9 ∧ RV g.m w (lB : List LoomRun) k9 ∧ OS 3042 g w 76 (lB : List LoomRun) k9 ∧ e 9 = yA ∧ OB 2009 g w 126 (aB : Vector Int 3) yA ∧ e 10 = iB ∧ OB 2010 g w 126 (vC : Vector Int 3) iB ∧ e 11 = .int .i64 (x5)) (fun X1835 lS uM h => ?_) ?_
   ·obtain ⟨tD, hx, h⟩ := bsome h
    refine E_join (fun e w => ∃ (g : Gh) , Fr gI wI g w ∧ e 1 = p1 ∧ PT g.m w (x0 : Hall) p1 ∧ e 2 = p2 ∧ OB 2002 g w 24 ((⟨[], 0⟩ : LoomMill) : LoomMill) p2 ∧ OSF 2002 60200 0 g w 3 24 (((⟨[], 0⟩ : LoomMill)).Widths) p2 ∧ e 5 = p8 ∧ OB 2005 g w 24 (l8 : LoomMill) p8 ∧ OSF 2005 60500 0 g w 3 24 ((l8).Widths) p8 ∧ e 7 = dB ∧ OA 4007 g w 82 (jD : List LoomOrder) dB ∧ e 8 = k9 ∧ RV g.m w (lB : List LoomRun) k9 ∧ OS 3042 g w 76 (lB : List LoomRun) k9 ∧ e 9 = yA ∧ OB 2009 g w 126 (aB : Vector Int 3) yA ∧ e 10 = iB ∧ OB 2010 g w 126 (vC : Vector Int 3) iB ∧ e 11 = .int .i64 (x5) ∧ e 53 = .bool (tD)) (fun Q' hQ => ?_) (fun xR mS hR => ?_)
    ·replace h := hx
     clear hx
     refine E_region (EL_mv aD rfl ?_)
     refine EL_p (fPtr p1 5) (P_fieldAddr at_71_3 aE (PT.ptr lD)) rfl ?_
     have kO := PT_field (part_Hall_3).1 lD
     refine EL_do .plain rfl (D_load (g := aI) Try.isAgg69 Try.sizeOf69 rfl kO fun nS lO => ?_)
     refine EL_p (.int .i64 (((x0).Orders).length : Int)) (P_len Try.underlying69 rfl lO) rfl ?_
     refine EL_p (.bool ((decide (x5 < (((x0).Orders).length : Int))))) (P_int rfl rfl rfl) rfl ?_
     refine EL_p (.bool ((decide (x5 < (((x0).Orders).length : Int))))) (P_move rfl) rfl ?_
     rcases csome h with ⟨yB, h⟩ | ⟨yB, h⟩
     ·refine EL_y (.int .i64 (x5)) (P_move aD) rfl rfl yB rfl ?_
      refine EL_y (.bool ((decide (x5 < (7 : Int))))) (P_int rfl rfl rfl) rfl rfl yB rfl ?_
      refine EL_p (.bool ((decide (x5 < (7 : Int))))) (P_pick (b := (decide (x5 < (((x0).Orders).length : Int)))) rfl (pick_t yB rfl)) rfl ?_
      refine EL_nil ?_
      obtain rfl := sinj h
      exact hQ _ _ ⟨aI, hfr, aE, lD, xF, yF, u2_0_1826, zF, aG, u5_0_1826, bG, cG, eG, gG, hG, iG, jG, sE, tE, aD, rfl⟩
     ·refine EL_s rfl rfl yB rfl rfl ?_
      refine EL_s rfl rfl yB rfl rfl ?_
      refine EL_p (.bool false) (P_pick (b := (decide (x5 < (((x0).Orders).length : Int)))) rfl (pick_f yB rfl)) rfl ?_
      refine EL_nil ?_
      obtain rfl := sinj h
      exact hQ _ _ ⟨aI, hfr, aE, lD, xF, yF, u2_0_1826, zF, aG, u5_0_1826, bG, cG, eG, gG, hG, iG, jG, sE, tE, aD, rfl⟩
    ·clear hx
     obtain ⟨pJ, hfr, dK, lK, kG, lG, u2_0_1842, mG, nG, u5_0_1842, oG, sG, tG, uG, vG, mK, nK, yI, zI, aJ, uE⟩ := hR
     rcases csome h with ⟨vE, h⟩ | ⟨vE, h⟩
     ·refine E_cond_true (Eq.trans (show ev _ _ = .bool (tD) from uE) (congrArg Value.bool vE)) ?_
      exact E_skip (thn_n (uM () _ _ ⟨pJ, hfr, dK, lK, kG, lG, u2_0_1842, mG, nG, u5_0_1842, oG, sG, tG, uG, vG, mK, nK, yI, zI, aJ⟩ h))
     ·refine E_cond_false (Eq.trans (show ev _ _ = .bool (tD) from uE) (congrArg Value.bool vE)) ?_
      refine E_exit ?_
      refine thn_e ?_
      refine thn_e ?_
      refine blk_hit ?_
      obtain ⟨rfl, rfl⟩ := pairs2 h
      exact hQ _ _ ⟨pJ, (dB), (k9), hfr, kG, lG, u2_0_1842, mG, nG, u5_0_1842, oG, sG, tG, uG, vG⟩
   ·rintro _ yR oS ⟨bI, hfr, bE, i7, xG, m8, u2_0_1844, mD, t5, u5_0_1844, yG, n8, zG, r8, x8, cE, m7, zB, o0, uD⟩ h
    obtain ⟨⟨aH, dE, cH, xE⟩, hx, h⟩ := bsome h
    refine E_join (fun e w => ∃ (g : Gh) (v7 v8 : Value), Fr gI wI g w ∧ e 1 = p1 ∧ PT g.m w (x0 : Hall) p1 ∧ e 2 = p2 ∧ OB 2002 g w 24 ((⟨[], 0⟩ : LoomMill) : LoomMill) p2 ∧ OSF 2002 60200 0 g w 3 24 (((⟨[], 0⟩ : LoomMill)).Widths) p2 ∧ e 5 = p8 ∧ OB 2005 g w 24 (l8 : LoomMill) p8 ∧ OSF 2005 60500 0 g w 3 24 ((l8).Widths) p8 ∧ e 7 = v7 ∧ OA 4007 g w 82 (aH : List LoomOrder) v7 ∧ e 8 = v8 ∧ RV g.m w (dE : List LoomRun) v8 ∧ OS 3042 g w 76 (dE : List LoomRun) v8 ∧ e 9 = yA ∧ OB 2009 g w 126 (cH : Vector Int 3) yA ∧ e 10 = iB ∧ OB 2010 g w 126 (xE : Vector Int 3) iB ∧ e 11 = .int .i64 (x5)) (fun Q' hQ => ?_) (fun zR pS hR => ?_)
    ·replace h := hx
     clear hx
     refine E_block ?_
     refine E_seq (E_region (EL_p (fPtr p1 5) (P_fieldAddr at_71_3 bE (PT.ptr i7)) rfl ?_))
     have mO := PT_field (part_Hall_3).1 i7
     refine EL_do .plain rfl (D_load (g := bI) Try.isAgg69 Try.sizeOf69 rfl mO fun nO qJ => ?_)
     refine EL_mv uD rfl ?_
     obtain ⟨d9, lI, h⟩ := bsome h
     refine EL_p (ePtr nO x5 6) (P_indexAddr (α := Vector UInt8 6) Try.underlying69 Try.sizeOf127 rfl qJ rfl lI) rfl ?_
     have oO := PT_idx qJ lI
     refine EL_do .plain rfl (D_load (g := bI) Try.isAgg127 Try.sizeOf127 rfl oO fun pO dI => ?_)
     refine EL_do .plain rfl (D_allocOc (g := bI) 2012 ((⟨List.toArray [0, 0, 0, 0, 0, 0], rfl⟩ : Vector UInt8 6) : Vector UInt8 6) Try.zeroValue127 (fun m w => ⟨_, (rep_vec (flat_chunk rep_u8 (flat_chunk rep_u8 (flat_chunk rep_u8 (flat_chunk rep_u8 (flat_chunk rep_u8 (flat_chunk rep_u8 flat_nil)))))) rfl), rfl⟩) fun qO qS mB hs b2675 cb => ?_)
     have hfr := hfr.stp hs
     have i7 := i7.stp hs
     have u2_0_1844 := u2_0_1844.stp hs rfl
     have m8 := m8.stp hs rfl
     have u5_0_1844 := u5_0_1844.stp hs rfl
     have t5 := t5.stp hs rfl
     have n8 := n8.stp hs rfl
     have r8 := r8.stp hs
     have x8 := x8.stp hs rfl
     have m7 := m7.stp hs rfl
     have o0 := o0.stp hs rfl
     have dI := dI.stp hs
     clear cb
     refine EL_do .plain rfl (D_storeOc (g := qO) (v := pO) Try.sizeOf127 rfl b2675 rfl dI fun mE rO hs b2676 cb => ?_)
     clear cb
     have hfr := hfr.stp hs
     have i7 := i7.stp hs
     have u2_0_1844 := u2_0_1844.stp hs rfl
     have m8 := m8.stp hs rfl
     have u5_0_1844 := u5_0_1844.stp hs rfl
     have t5 := t5.stp hs rfl
     have n8 := n8.stp hs rfl
     have r8 := r8.stp hs
     have x8 := x8.stp hs rfl
     have m7 := m7.stp hs rfl
     have o0 := o0.stp hs rfl
     refine EL_nil (thn_n (E_seq (E_region (EL_p (fPtr mB 0) (P_indexAddrA (α := UInt8) (i := (0 : Int)) Try.underlying127 Try.sizeOf5 rfl (OB.ptr b2676) rfl (idx_vec (v := d9) (i := 0) (by decide))) rfl ?_))))
     refine EL_do .plain rfl (D_loadF (g := mE) (SubS.vec (β := UInt8) (n := 6) (i := 0) (by decide)).1 Try.isAgg5 Try.sizeOf5 rfl b2676 fun rS sO => ?_)
     obtain rfl := RV_u8.1 sO
     refine EL_p (.int .i64 ((((d9)[0]).toNat : Int))) (P_u8int Try.underlying5 Try.underlying3 rfl) rfl ?_
     refine EL_p (fPtr p8 0) (P_fieldAddr at_24_0 mD (OB.ptr t5)) rfl ?_
     refine EL_do .plain rfl (D_loadFS (g := mE) part_LoomMill_0.1 Try.isAgg22 Try.sizeOf22 rfl t5 u5_0_1844 fun sS tO o2679 => ?_)
     refine EL_p (.int .i64 (((l8).Widths).length : Int)) (P_len Try.underlying22 rfl tO) rfl ?_
     obtain ⟨d7, vM, h⟩ := bsome h
     refine EL_p (.int .i64 (d7)) (P_int rfl rfl (congrArg (Option.map (Value.int .i64)) vM)) rfl ?_
     refine EL_at (.int .i64 (d7)) rfl rfl ?_
     refine EL_nil (thn_n (E_seq (L_loadO (x := .tmp 68) (SubS.vec (β := UInt8) (n := 6) (i := 1) (by decide)).1 Try.isAgg5 Try.sizeOf5 b2676 fun tS uO xM => ?_)))
     obtain rfl := RV_u8.1 uO
     refine L_loadFS (x := .tmp 71) part_LoomMill_0.1 Try.isAgg22 Try.sizeOf22 t5 u5_0_1844 fun rJ sJ o2683 yM => ?_
     obtain ⟨vO, mI, h⟩ := bsome h
     have xO := PT_idx sJ mI
     refine L_load (x := .tmp 74) Try.isAgg3 Try.sizeOf3 xO fun uS yO zM => ?_
     obtain rfl := RV_int.1 yO
     obtain ⟨iA, bN, h⟩ := bsome h
     refine L_loadO (x := .tmp 78) (SubS.vec (β := UInt8) (n := 6) (i := 2) (by decide)).1 Try.isAgg5 Try.sizeOf5 b2676 fun vS zO cN => ?_
     obtain rfl := RV_u8.1 zO
     obtain ⟨u9, dN, h⟩ := bsome h
     refine L_loadO (x := .tmp 82) (SubS.vec (β := UInt8) (n := 6) (i := 3) (by decide)).1 Try.isAgg5 Try.sizeOf5 b2676 fun xS aP eN => ?_
     obtain rfl := RV_u8.1 aP
     obtain ⟨k8, gN, h⟩ := bsome h
     have nE : RV mE.m rO (⟨(w64 ((1 : Int) + iA)), u9, (w64 ((1 : Int) + k8)), 0, 0⟩ : LoomOrder) (.agg (setCh [[.int .i64 0], [.int .i64 0], [.int .i64 0], [.int .i64 0], [.int .i64 0]] [(0, .int .i64 ((w64 ((1 : Int) + iA)))), (1, .int .i64 (u9)), (2, .int .i64 ((w64 ((1 : Int) + k8))))]).flatten.toArray) := RV_build rfl (rep_pair (rfl) (rep_pair (rfl) (rep_pair (rfl) (rep_pair (rep_int) (rep_last (rep_int))))))
     generalize iN : (Value.agg (setCh [[.int .i64 0], [.int .i64 0], [.int .i64 0], [.int .i64 0], [.int .i64 0]] [(0, .int .i64 ((w64 ((1 : Int) + iA)))), (1, .int .i64 (u9)), (2, .int .i64 ((w64 ((1 : Int) + k8))))]).flatten.toArray) = vJ at nE
     refine E_drawL (g := mE) (n := 21) [(20, (fun v g w => OB 2014 g w 82 (⟨0, 0, 0, 0, 0⟩ : LoomOrder) v))] [0, 1, 2, 3, 4, 5, 6, 7, 8, 9, 10, 11, 12, 13, 14, 15, 16, 17, 18, 19, 20] rfl mixed (by kernel_rfl) (⟨fun _ => up_ob, trivial⟩) ?_
     refine L_p (fPtr mB 1) rfl rfl (P_indexAddrA (α := UInt8) (i := (1 : Int)) Try.underlying127 Try.sizeOf5 rfl (OB.ptr b2676) rfl (idx_vec (v := d9) (i := 1) (by decide))) ?_
     refine L_ld (c := .int .u8 (UInt8.toNat ((d9)[1]))) rfl rfl .plain (fun _ _ h => ⟨h.ch, fun b hb _ => h.below.block b hb⟩) xM rfl ?_
     refine L_p (.int .i64 ((((d9)[1]).toNat : Int))) rfl rfl (P_u8int Try.underlying5 Try.underlying3 rfl) ?_
     refine L_p (fPtr p8 0) rfl rfl (P_fieldAddr at_24_0 mD (OB.ptr t5)) ?_
     refine L_ld (c := rJ) rfl rfl .plain (fun _ _ h => ⟨h.ch, fun b hb _ => h.below.block b hb⟩) yM rfl ?_
     refine L_p (.int .i64 (d7)) rfl rfl (P_move rfl) ?_
     refine L_p (ePtr rJ d7 1) rfl rfl (P_indexAddr (α := Int) Try.underlying22 Try.sizeOf3 rfl sJ rfl mI) ?_
     refine L_ld (c := .int .i64 (vO)) rfl rfl .plain (fun _ _ h => h.ch) zM rfl ?_
     refine L_p (.int .i64 (iA)) rfl rfl (P_int rfl rfl (congrArg (Option.map (Value.int .i64)) bN)) ?_
     refine L_p (.int .i64 ((w64 ((1 : Int) + iA)))) rfl rfl (P_int rfl rfl rfl) ?_
     refine L_p (fPtr mB 2) rfl rfl (P_indexAddrA (α := UInt8) (i := (2 : Int)) Try.underlying127 Try.sizeOf5 rfl (OB.ptr b2676) rfl (idx_vec (v := d9) (i := 2) (by decide))) ?_
     refine L_ld (c := .int .u8 (UInt8.toNat ((d9)[2]))) rfl rfl .plain (fun _ _ h => ⟨h.ch, fun b hb _ => h.below.block b hb⟩) cN rfl ?_
     refine L_p (.int .i64 ((((d9)[2]).toNat : Int))) rfl rfl (P_u8int Try.underlying5 Try.underlying3 rfl) ?_
     refine L_p (.int .i64 (u9)) rfl rfl (P_int rfl rfl (congrArg (Option.map (Value.int .i64)) dN)) ?_
     refine L_p (fPtr mB 3) rfl rfl (P_indexAddrA (α := UInt8) (i := (3 : Int)) Try.underlying127 Try.sizeOf5 rfl (OB.ptr b2676) rfl (idx_vec (v := d9) (i := 3) (by decide))) ?_
     refine L_ld (c := .int .u8 (UInt8.toNat ((d9)[3]))) rfl rfl .plain (fun _ _ h => ⟨h.ch, fun b hb _ => h.below.block b hb⟩) eN rfl ?_
     refine L_p (.int .i64 ((((d9)[3]).toNat : Int))) rfl rfl (P_u8int Try.underlying5 Try.underlying3 rfl) ?_
     refine L_p (.int .i64 (k8)) rfl rfl (P_int rfl rfl (congrArg (Option.map (Value.int .i64)) gN)) ?_
     refine L_p (.int .i64 ((w64 ((1 : Int) + k8)))) rfl rfl (P_int rfl rfl rfl) ?_
     refine L_p vJ rfl rfl (iN ▸ P_build (vs := [(0, .int .i64 ((w64 ((1 : Int) + iA)))), (1, .int .i64 (u9)), (2, .int .i64 ((w64 ((1 : Int) + k8))))]) [[.int .i64 0], [.int .i64 0], [.int .i64 0], [.int .i64 0], [.int .i64 0]] lay_82 rfl rfl (.cons rfl (.cons rfl (.cons rfl .nil))) ⟨⟨_, rfl, rfl⟩, ⟨⟨_, rfl, rfl⟩, ⟨⟨_, rfl, rfl⟩, trivial⟩⟩⟩) ?_
     refine L_do (φ := fun v g w => OB 2014 g w 82 (⟨0, 0, 0, 0, 0⟩ : LoomOrder) v) rfl rfl .plain (fun g w hd => D_allocX (g := g) 2014 (⟨0, 0, 0, 0, 0⟩ : LoomOrder) Try.zeroValue82 (fun m w => ⟨_, (rep_two rep_int (rep_two rep_int (rep_two rep_int (rep_two rep_int rep_int)))), rfl⟩) fun g' w' v hs b => ⟨g', hs, b⟩) (fun rA hv => ?_)
     clear hv
     refine L_nil fun bP yS hall => ?_
     have hs := hall.1
     have hfr := hfr.ext hs
     have i7 := i7.ext hs
     have u2_0_1844 := u2_0_1844.ext hs
     have m8 := m8.ext hs
     have u5_0_1844 := u5_0_1844.ext hs
     have t5 := t5.ext hs
     have n8 := n8.ext hs
     have r8 := r8.ext hs
     have x8 := x8.ext hs
     have m7 := m7.ext hs
     have o0 := o0.ext hs
     have b2676 := b2676.ext hs
     have nE := nE.ext hs
     have b2737 := (word_all (A := fun g w => OB 2014 g w 82 (⟨0, 0, 0, 0, 0⟩ : LoomOrder) rA) 20 rfl hall)
     clear hs hall
     refine EL_do .plain rfl (D_storeOc (g := bP) (v := vJ) Try.sizeOf82 rfl b2737 rfl nE fun cP zS hs b2738 cb => ?_)
     clear cb
     have hfr := hfr.stp hs
     have i7 := i7.stp hs
     have u2_0_1844 := u2_0_1844.stp hs rfl
     have m8 := m8.stp hs rfl
     have u5_0_1844 := u5_0_1844.stp hs rfl
     have t5 := t5.stp hs rfl
     have n8 := n8.stp hs rfl
     have r8 := r8.stp hs
     have x8 := x8.stp hs rfl
     have m7 := m7.stp hs rfl
     have o0 := o0.stp hs rfl
     have b2676 := b2676.stp hs rfl
     refine EL_nil (thn_n (E_seq ?_))
     obtain ⟨nD, nI, h⟩ := bsome h
     obtain ⟨hi2740, he2740⟩ := vat_idx nI
     refine L_loadOD (off := ((d7 : Int).toNat * 1)) (x := .tmp 89) (SubS.dyn hi2740).1 he2740 Try.isAgg3 Try.sizeOf3 m7 fun eT dP jN => ?_
     obtain rfl := RV_int.1 dP
     refine L_loadO (x := .tmp 91) (SubS.vec (β := UInt8) (n := 6) (i := 0) (by decide)).1 Try.isAgg5 Try.sizeOf5 b2676 fun lT eP kN => ?_
     obtain rfl := RV_u8.1 eP
     obtain ⟨gP, lN, h⟩ := bsome h
     obtain ⟨oD, mN, h⟩ := bsome h
     refine E_drawL (g := cP) (n := 10) [] [0, 1, 2, 3, 4, 5, 6, 7, 8, 9] rfl mixed (by kernel_rfl) trivial ?_
     refine L_p (.int .i64 (d7)) rfl rfl (P_move rfl) ?_
     refine L_p (fPtr yA ((d7 : Int).toNat * 1)) rfl rfl (P_indexAddrA (α := Int) Try.underlying126 Try.sizeOf3 cE (OB.ptr m7) rfl nI) ?_
     refine L_ld (c := .int .i64 (nD)) rfl rfl .plain (fun _ _ h => ⟨h.ch, fun b hb _ => h.below.block b hb⟩) jN rfl ?_
     refine L_p (fPtr mB 0) rfl rfl (P_indexAddrA (α := UInt8) (i := (0 : Int)) Try.underlying127 Try.sizeOf5 rfl (OB.ptr b2676) rfl (idx_vec (v := d9) (i := 0) (by decide))) ?_
     refine L_ld (c := .int .u8 (UInt8.toNat ((d9)[0]))) rfl rfl .plain (fun _ _ h => ⟨h.ch, fun b hb _ => h.below.block b hb⟩) kN rfl ?_
     refine L_p (.int .i64 ((((d9)[0]).toNat : Int))) rfl rfl (P_u8int Try.underlying5 Try.underlying3 rfl) ?_
     refine L_p (.int .i64 (gP)) rfl rfl (P_int rfl rfl (congrArg (Option.map (Value.int .i64)) lN)) ?_
     refine L_p (.int .i64 (oD)) rfl rfl (P_int rfl rfl (congrArg (Option.map (Value.int .i64)) mN)) ?_
     refine L_p (.int .i64 ((w64 (nD + oD)))) rfl rfl (P_int rfl rfl rfl) ?_
     refine L_p (.int .i64 ((w64 (nD + oD)))) rfl rfl (P_assign rfl) ?_
     refine L_nl fun xJ mT hs => ?_
     have hfr := hfr.ext hs
     have i7 := i7.ext hs
     have u2_0_1844 := u2_0_1844.ext hs
     have m8 := m8.ext hs
     have u5_0_1844 := u5_0_1844.ext hs
     have t5 := t5.ext hs
     have n8 := n8.ext hs
     have r8 := r8.ext hs
     have x8 := x8.ext hs
     have m7 := m7.ext hs
     have o0 := o0.ext hs
     have b2676 := b2676.ext hs
     have b2738 := b2738.ext hs
     clear hs
     refine EL_nil (thn_n ?_)
     obtain ⟨u3, hx, h⟩ := bsome h
     refine E_join (fun e w => ∃ (g : Gh) , Fr gI wI g w ∧ e 1 = p1 ∧ PT g.m w (x0 : Hall) p1 ∧ e 2 = p2 ∧ OB 2002 g w 24 ((⟨[], 0⟩ : LoomMill) : LoomMill) p2 ∧ OSF 2002 60200 0 g w 3 24 (((⟨[], 0⟩ : LoomMill)).Widths) p2 ∧ e 5 = p8 ∧ OB 2005 g w 24 (l8 : LoomMill) p8 ∧ OSF 2005 60500 0 g w 3 24 ((l8).Widths) p8 ∧ e 7 = dB ∧ OA 4007 g w 82 (jD : List LoomOrder) dB ∧ e 8 = k9 ∧ RV g.m w (lB : List LoomRun) k9 ∧ OS 3042 g w 76 (lB : List LoomRun) k9 ∧ e 9 = yA ∧ OB 2009 g w 126 (aB : Vector Int 3) yA ∧ e 10 = iB ∧ OB 2010 g w 126 (vC : Vector Int 3) iB ∧ e 11 = .int .i64 (x5) ∧ e 12 = mB ∧ OB 2012 g w 127 (d9 : Vector UInt8 6) mB ∧ e 13 = .int .i64 (d7) ∧ e 14 = rA ∧ OB 2014 g w 82 ((⟨(w64 ((1 : Int) + iA)), u9, (w64 ((1 : Int) + k8)), 0, 0⟩ : LoomOrder) : LoomOrder) rA ∧ e 15 = .int .i64 (u3)) (fun Q' hQ => ?_) (fun aS nT hR => ?_)
     ·replace h := hx
      clear hx
      obtain ⟨iD, hx, h⟩ := bsome h
      refine E_join (fun e w => ∃ (g : Gh) , Fr gI wI g w ∧ e 1 = p1 ∧ PT g.m w (x0 : Hall) p1 ∧ e 2 = p2 ∧ OB 2002 g w 24 ((⟨[], 0⟩ : LoomMill) : LoomMill) p2 ∧ OSF 2002 60200 0 g w 3 24 (((⟨[], 0⟩ : LoomMill)).Widths) p2 ∧ e 5 = p8 ∧ OB 2005 g w 24 (l8 : LoomMill) p8 ∧ OSF 2005 60500 0 g w 3 24 ((l8).Widths) p8 ∧ e 7 = dB ∧ OA 4007 g w 82 (jD : List LoomOrder) dB ∧ e 8 = k9 ∧ RV g.m w (lB : List LoomRun) k9 ∧ OS 3042 g w 76 (lB : List LoomRun) k9 ∧ e 9 = yA ∧ OB 2009 g w 126 (aB : Vector Int 3) yA ∧ e 10 = iB ∧ OB 2010 g w 126 (vC : Vector Int 3) iB ∧ e 11 = .int .i64 (x5) ∧ e 12 = mB ∧ OB 2012 g w 127 (d9 : Vector UInt8 6) mB ∧ e 13 = .int .i64 (d7) ∧ e 14 = rA ∧ OB 2014 g w 82 ((⟨(w64 ((1 : Int) + iA)), u9, (w64 ((1 : Int) + k8)), 0, 0⟩ : LoomOrder) : LoomOrder) rA ∧ e 15 = .int .i64 ((w64 (nD + oD))) ∧ e 108 = .bool (iD)) (fun Q' hQ => ?_) (fun bS oT hR => ?_)
      ·replace h := hx
       clear hx
       obtain ⟨mC, yE, h⟩ := bsome h
       obtain ⟨hi3227, he3227⟩ := vat_idx yE
       refine L_loadOD (off := ((d7 : Int).toNat * 1)) (x := .tmp 98) (SubS.dyn hi3227).1 he3227 Try.isAgg3 Try.sizeOf3 o0 fun pT iP pI => ?_
       obtain rfl := RV_int.1 iP
       rcases csome h with ⟨jB, h⟩ | ⟨jB, h⟩
       ·obtain ⟨iI, qI, h⟩ := bsome h
        obtain ⟨hi3231, he3231⟩ := vat_idx qI
        refine L_loadOD (off := ((d7 : Int).toNat * 1)) (x := .tmp 103) (SubS.dyn hi3231).1 he3231 Try.isAgg3 Try.sizeOf3 o0 fun sT jP nN => ?_
        obtain rfl := RV_int.1 jP
        refine L_loadO (x := .tmp 105) part_LoomOrder_1.1 Try.isAgg3 Try.sizeOf3 b2738 fun tT kP oN => ?_
        obtain rfl := RV_int.1 kP
        refine E_drawL (g := xJ) (n := 12) [] [0, 1, 2, 3, 4, 5, 6, 7, 8, 9, 10, 11] rfl mixed (by kernel_rfl) trivial ?_
        refine L_p (.int .i64 (d7)) rfl rfl (P_move rfl) ?_
        refine L_p (fPtr iB ((d7 : Int).toNat * 1)) rfl rfl (P_indexAddrA (α := Int) Try.underlying126 Try.sizeOf3 zB (OB.ptr o0) rfl yE) ?_
        refine L_ld (c := .int .i64 (mC)) rfl rfl .plain (fun _ _ h => ⟨h.ch, fun b hb _ => h.below.block b hb⟩) pI rfl ?_
        refine L_p (.bool ((decide (mC ≥ (0 : Int))))) rfl rfl (P_int rfl rfl rfl) ?_
        refine L_p (.bool ((decide (mC ≥ (0 : Int))))) rfl rfl (P_move rfl) ?_
        refine L_y (.int .i64 (d7)) rfl rfl rfl rfl jB (P_move rfl) ?_
        refine L_y (fPtr iB ((d7 : Int).toNat * 1)) rfl rfl rfl rfl jB (P_indexAddrA (α := Int) Try.underlying126 Try.sizeOf3 zB (OB.ptr o0) rfl qI) ?_
        refine L_ld (c := .int .i64 (iI)) rfl rfl (.yes2 rfl rfl jB) (fun _ _ h => ⟨h.ch, fun b hb _ => h.below.block b hb⟩) nN rfl ?_
        refine L_y (fPtr rA 1) rfl rfl rfl rfl jB (P_fieldAddr at_82_1 rfl (OB.ptr b2738)) ?_
        refine L_ld (c := .int .i64 (u9)) rfl rfl (.yes2 rfl rfl jB) (fun _ _ h => ⟨h.ch, fun b hb _ => h.below.block b hb⟩) oN rfl ?_
        refine L_y (.bool ((iI != u9))) rfl rfl rfl rfl jB (P_int rfl rfl rfl) ?_
        refine L_p (.bool ((iI != u9))) rfl rfl (P_pick (b := (decide (mC ≥ (0 : Int)))) rfl (pick_t jB rfl)) ?_
        refine L_nl fun lP uT hs => ?_
        have hfr := hfr.ext hs
        have i7 := i7.ext hs
        have u2_0_1844 := u2_0_1844.ext hs
        have m8 := m8.ext hs
        have u5_0_1844 := u5_0_1844.ext hs
        have t5 := t5.ext hs
        have n8 := n8.ext hs
        have r8 := r8.ext hs
        have x8 := x8.ext hs
        have m7 := m7.ext hs
        have o0 := o0.ext hs
        have b2676 := b2676.ext hs
        have b2738 := b2738.ext hs
        clear hs
        refine EL_nil ?_
        obtain rfl := sinj h
        exact hQ _ _ ⟨lP, hfr, bE, i7, xG, m8, u2_0_1844, mD, t5, u5_0_1844, yG, n8, zG, r8, x8, cE, m7, zB, o0, uD, rfl, b2676, rfl, rfl, b2738, rfl, rfl⟩
       ·refine E_drawL (g := xJ) (n := 12) [] [0, 1, 2, 3, 4, 5, 6, 7, 8, 9, 10, 11] rfl mixed (by kernel_rfl) trivial ?_
        refine L_p (.int .i64 (d7)) rfl rfl (P_move rfl) ?_
        refine L_p (fPtr iB ((d7 : Int).toNat * 1)) rfl rfl (P_indexAddrA (α := Int) Try.underlying126 Try.sizeOf3 zB (OB.ptr o0) rfl yE) ?_
        refine L_ld (c := .int .i64 (mC)) rfl rfl .plain (fun _ _ h => ⟨h.ch, fun b hb _ => h.below.block b hb⟩) pI rfl ?_
        refine L_p (.bool ((decide (mC ≥ (0 : Int))))) rfl rfl (P_int rfl rfl rfl) ?_
        refine L_p (.bool ((decide (mC ≥ (0 : Int))))) rfl rfl (P_move rfl) ?_
        iterate 6 refine L_s rfl rfl rfl jB rfl ?_
        refine L_p (.bool false) rfl rfl (P_pick (b := (decide (mC ≥ (0 : Int)))) rfl (pick_f jB rfl)) ?_
        refine L_nl fun mP xT hs => ?_
        have hfr := hfr.ext hs
        have i7 := i7.ext hs
        have u2_0_1844 := u2_0_1844.ext hs
        have m8 := m8.ext hs
        have u5_0_1844 := u5_0_1844.ext hs
        have t5 := t5.ext hs
        have n8 := n8.ext hs
        have r8 := r8.ext hs
        have x8 := x8.ext hs
        have m7 := m7.ext hs
        have o0 := o0.ext hs
        have b2676 := b2676.ext hs
        have b2738 := b2738.ext hs
        clear hs
        refine EL_nil ?_
        obtain rfl := sinj h
        exact hQ _ _ ⟨mP, hfr, bE, i7, xG, m8, u2_0_1844, mD, t5, u5_0_1844, yG, n8, zG, r8, x8, cE, m7, zB, o0, uD, rfl, b2676, rfl, rfl, b2738, rfl, rfl⟩
      ·clear hx
       obtain ⟨jI, hfr, dH, gH, iH, jH, u2_0_3367, eE, sD, u5_0_3367, kH, lH, mH, nH, oH, pH, qH, zE, cF, dF, eF, iF, nF, oF, pF, qF, kE⟩ := hR
       rcases csome h with ⟨rF, h⟩ | ⟨rF, h⟩
       ·refine E_cond_true (Eq.trans (show ev _ _ = .bool (iD) from kE) (congrArg Value.bool rF)) ?_
        refine E_region (EL_mv qF rfl ?_)
        refine EL_p (fPtr p8 1) (P_fieldAddr at_24_1 eE (OB.ptr sD)) rfl ?_
        refine EL_do .plain rfl (D_loadF (g := jI) part_LoomMill_1.1 Try.isAgg3 Try.sizeOf3 rfl sD fun yT nP => ?_)
        obtain rfl := RV_int.1 nP
        refine EL_in (.int .i64 ((w64 ((w64 (nD + oD)) + (l8).Change)))) rfl rfl rfl rfl ?_
        refine EL_at (.int .i64 ((w64 ((w64 (nD + oD)) + (l8).Change)))) rfl rfl ?_
        refine EL_nil ?_
        obtain rfl := sinj h
        exact hQ _ _ ⟨jI, hfr, dH, gH, iH, jH, u2_0_3367, eE, sD, u5_0_3367, kH, lH, mH, nH, oH, pH, qH, zE, cF, dF, eF, iF, nF, oF, pF, rfl⟩
       ·refine E_cond_false (Eq.trans (show ev _ _ = .bool (iD) from kE) (congrArg Value.bool rF)) ?_
        refine E_skip ?_
        obtain rfl := sinj h
        exact hQ _ _ ⟨jI, hfr, dH, gH, iH, jH, u2_0_3367, eE, sD, u5_0_3367, kH, lH, mH, nH, oH, pH, qH, zE, cF, dF, eF, iF, nF, oF, pF, qF⟩
     ·clear hx
      obtain ⟨zT, hfr, oK, i6, pK, j6, u2_0_3371, qK, x6, u5_0_3371, sK, nB, tK, l9, n9, sH, a9, sF, l5, tF, uF, bD, vD, oB, cD, eD⟩ := hR
      refine E_seq (L_loadO (x := .tmp 114) (SubS.vec (β := UInt8) (n := 6) (i := 4) (by decide)).1 Try.isAgg5 Try.sizeOf5 bD fun aU oP pN => ?_)
      obtain rfl := RV_u8.1 oP
      obtain ⟨qC, qN, h⟩ := bsome h
      refine L_loadO (x := .tmp 124) (SubS.vec (β := UInt8) (n := 6) (i := 5) (by decide)).1 Try.isAgg5 Try.sizeOf5 bD fun bU pP rN => ?_
      obtain rfl := RV_u8.1 pP
      obtain ⟨kI, sN, h⟩ := bsome h
      refine E_drawB (a0 := ((⟨(w64 ((1 : Int) + iA)), u9, (w64 ((1 : Int) + k8)), 0, 0⟩ : LoomOrder) : LoomOrder)) (a1 := ((⟨(w64 ((1 : Int) + iA)), u9, (w64 ((1 : Int) + k8)), (max64 (0 : Int) (w64 (u3 - qC))), 0⟩ : LoomOrder) : LoomOrder)) cD (n := 19) [(17, (fun _ g w => OB 2014 g w 82 ((⟨(w64 ((1 : Int) + iA)), u9, (w64 ((1 : Int) + k8)), (max64 (0 : Int) (w64 (u3 - qC))), 0⟩ : LoomOrder) : LoomOrder) rA))] [0, 1, 2, 3, 4, 5, 6, 7, 8, 9, 10, 11, 12, 13, 14, 15, 16, 17, 18] rfl mixed (by kernel_rfl) (⟨fun _ => up_box, trivial⟩) ?_
      refine L_p (.int .i64 (u3)) rfl rfl (P_move eD) ?_
      refine L_p (fPtr mB 4) rfl rfl (P_indexAddrA (α := UInt8) (i := (4 : Int)) Try.underlying127 Try.sizeOf5 uF (OB.ptr bD) rfl (idx_vec (v := d9) (i := 4) (by decide))) ?_
      refine L_ld (c := .int .u8 (UInt8.toNat ((d9)[4]))) rfl rfl .plain (fun _ _ h => ⟨h.1.ch, fun b hb ho => h.1.block b hb (by rw [ho]; decide)⟩) pN rfl ?_
      refine L_p (.int .i64 ((((d9)[4]).toNat : Int))) rfl rfl (P_u8int Try.underlying5 Try.underlying3 rfl) ?_
      refine L_p (.int .i64 (qC)) rfl rfl (P_int rfl rfl (congrArg (Option.map (Value.int .i64)) qN)) ?_
      refine L_p (.int .i64 ((w64 (u3 - qC)))) rfl rfl (P_int rfl rfl rfl) ?_
      refine L_p (.int .i64 (max64 (0 : Int) (w64 (u3 - qC)))) rfl rfl (P_max rfl rfl) ?_
      refine L_p (.int .i64 (u3)) rfl rfl (P_move eD) ?_
      refine L_p (fPtr rA 2) rfl rfl (P_fieldAddr at_82_2 oB (OB.ptr cD)) ?_
      refine L_val (c := .int .i64 ((w64 ((1 : Int) + k8)))) rfl rfl .plain (fun g w hd => loadAB part_LoomOrder_2.1 (by rfl) (by rfl) RV_int.1 Try.isAgg3 Try.sizeOf3 rfl hd.1.2) ?_
      refine L_p (.int .i64 ((w64 (u3 + (w64 ((1 : Int) + k8)))))) rfl rfl (P_int rfl rfl rfl) ?_
      refine L_p (fPtr mB 5) rfl rfl (P_indexAddrA (α := UInt8) (i := (5 : Int)) Try.underlying127 Try.sizeOf5 uF (OB.ptr bD) rfl (idx_vec (v := d9) (i := 5) (by decide))) ?_
      refine L_ld (c := .int .u8 (UInt8.toNat ((d9)[5]))) rfl rfl .plain (fun _ _ h => ⟨h.1.ch, fun b hb ho => h.1.block b hb (by rw [ho]; decide)⟩) rN rfl ?_
      refine L_p (.int .i64 ((((d9)[5]).toNat : Int))) rfl rfl (P_u8int Try.underlying5 Try.underlying3 rfl) ?_
      refine L_p (.int .i64 (kI)) rfl rfl (P_int rfl rfl (congrArg (Option.map (Value.int .i64)) sN)) ?_
      refine L_p (.int .i64 ((w64 ((w64 (u3 + (w64 ((1 : Int) + k8)))) + kI)))) rfl rfl (P_int rfl rfl rfl) ?_
      refine L_p (fPtr rA 3) rfl rfl (P_fieldAddr at_82_3 oB (OB.ptr cD)) ?_
      refine L_do (φ := fun _ g w => OB 2014 g w 82 ((⟨(w64 ((1 : Int) + iA)), u9, (w64 ((1 : Int) + k8)), (max64 (0 : Int) (w64 (u3 - qC))), 0⟩ : LoomOrder) : LoomOrder) rA) rfl rfl .plain (fun g w hd => D_storeR (g := g) (by rfl) (by exact rfl) part_LoomOrder_3 Try.sizeOf3 rfl hd.1.2 rfl (RV_int.2 rfl)) (fun cU hv => ?_)
      clear hv
      refine L_p (fPtr rA 4) rfl rfl (P_fieldAddr at_82_4 oB (OB.ptr cD)) ?_
      refine L_nil fun sP dU hall => ?_
      have hs := hall.1.1
      have hfr := hfr.stp hs
      have i6 := i6.stp hs
      have u2_0_3371 := u2_0_3371.stp hs rfl
      have j6 := j6.stp hs rfl
      have u5_0_3371 := u5_0_3371.stp hs rfl
      have x6 := x6.stp hs rfl
      have nB := nB.stp hs rfl
      have l9 := l9.stp hs
      have n9 := n9.stp hs rfl
      have a9 := a9.stp hs rfl
      have l5 := l5.stp hs rfl
      have b3398 := (word_all (A := fun g w => OB 2014 g w 82 ((⟨(w64 ((1 : Int) + iA)), u9, (w64 ((1 : Int) + k8)), (max64 (0 : Int) (w64 (u3 - qC))), 0⟩ : LoomOrder) : LoomOrder) rA) 17 rfl hall)
      clear hs hall
      refine EL_do .plain rfl (D_storeFc (g := sP) part_LoomOrder_4 Try.sizeOf3 rfl b3398 rfl (RV_int.2 rfl) fun yJ eU hs b3418 rst hos => ?_)
      clear rst hos
      have hfr := hfr.stp hs
      have i6 := i6.stp hs
      have u2_0_3371 := u2_0_3371.stp hs rfl
      have j6 := j6.stp hs rfl
      have u5_0_3371 := u5_0_3371.stp hs rfl
      have x6 := x6.stp hs rfl
      have nB := nB.stp hs rfl
      have l9 := l9.stp hs
      have n9 := n9.stp hs rfl
      have a9 := a9.stp hs rfl
      have l5 := l5.stp hs rfl
      refine EL_nil (thn_n (E_seq (E_region (EL_mv sK rfl ?_))))
      refine EL_do .plain rfl (D_loadO (g := yJ) Try.isAgg82 Try.sizeOf82 oB b3418 fun tP uP => ?_)
      refine EL_do .plain rfl (D_buildSlice (g := yJ) 3133 (xs := ([(⟨(w64 ((1 : Int) + iA)), u9, (w64 ((1 : Int) + k8)), (max64 (0 : Int) (w64 (u3 - qC))), (w64 ((w64 (u3 + (w64 ((1 : Int) + k8)))) + kI))⟩ : LoomOrder)] : List LoomOrder)) (vs := [tP]) Try.underlying25 Try.sizeOf82 Try.zeroValue82 rfl rfl (.cons rfl .nil) (RVs.cons uP RVs.nil) rfl rfl fun vP gU iU hs o3420 xP hxt hfl => ?_)
      have hfr := hfr.stp hs
      have i6 := i6.stp hs
      have u2_0_3371 := u2_0_3371.stp hs rfl
      have j6 := j6.stp hs rfl
      have u5_0_3371 := u5_0_3371.stp hs rfl
      have x6 := x6.stp hs rfl
      have nB := nB.stp hs rfl
      have l9 := l9.stp hs
      have n9 := n9.stp hs rfl
      have a9 := a9.stp hs rfl
      have l5 := l5.stp hs rfl
      have b3418 := b3418.stp hs rfl
      obtain ⟨jU, tN, h⟩ := bsome h
      refine EL_do .plain rfl (D_appendA (g := vP) plain_LoomOrder (i := 4007) Try.underlying25 info_82 rfl rfl nB rfl xP tN fun yP kU zJ hs b3421 => ?_)
      have hfr := hfr.stp hs
      have i6 := i6.stp hs
      have u2_0_3371 := u2_0_3371.stp hs rfl
      have j6 := j6.stp hs rfl
      have u5_0_3371 := u5_0_3371.stp hs rfl
      have x6 := x6.stp hs rfl
      have l9 := l9.stp hs
      have n9 := n9.stp hs rfl
      have a9 := a9.stp hs rfl
      have l5 := l5.stp hs rfl
      have b3418 := b3418.stp hs rfl
      refine EL_mv tK rfl ?_
      refine EL_mv tF rfl ?_
      refine EL_mv vD rfl ?_
      refine EL_mv eD rfl ?_
      obtain ⟨zP, uN, h⟩ := bsome h
      refine EL_do .plain rfl (D_call (g := yP) (vs := [.int .i64 (x5), .int .i64 (d7), .int .i64 (u3)]) en46 (.cons rfl (.cons rfl (.cons rfl .nil))) (wk46  uN) fun bQ cS cQ hs hr => ?_)
      have hfr := hfr.ext hs
      have i6 := i6.ext hs
      have u2_0_3371 := u2_0_3371.ext hs
      have j6 := j6.ext hs
      have u5_0_3371 := u5_0_3371.ext hs
      have x6 := x6.ext hs
      have l9 := l9.ext hs
      have n9 := n9.ext hs
      have a9 := a9.ext hs
      have l5 := l5.ext hs
      have b3418 := b3418.ext hs
      have b3421 := b3421.ext hs
      have dQ := hr
      refine EL_do .plain rfl (D_buildSlice (g := bQ) 3140 (xs := ([zP] : List LoomRun)) (vs := [cQ]) Try.underlying31 Try.sizeOf76 Try.zeroValue76 rfl rfl (.cons rfl .nil) (RVs.cons dQ RVs.nil) rfl rfl fun eQ lU mU hs o3425 gQ hxt hfl => ?_)
      have hfr := hfr.stp hs
      have i6 := i6.stp hs
      have u2_0_3371 := u2_0_3371.stp hs rfl
      have j6 := j6.stp hs rfl
      have u5_0_3371 := u5_0_3371.stp hs rfl
      have x6 := x6.stp hs rfl
      have l9 := l9.stp hs
      have n9 := n9.stp hs rfl
      have a9 := a9.stp hs rfl
      have l5 := l5.stp hs rfl
      have b3418 := b3418.stp hs rfl
      have b3421 := b3421.stp hs rfl
      obtain ⟨nU, vN, h⟩ := bsome h
      refine EL_do .plain rfl (D_append (g := eQ) (i := 3042) Try.underlying31 info_76 rfl rfl n9 l9 rfl gQ vN fun oU pU aK hs o3426 xD _ => ?_)
      have hfr := hfr.stp hs
      have i6 := i6.stp hs
      have u2_0_3371 := u2_0_3371.stp hs rfl
      have j6 := j6.stp hs rfl
      have u5_0_3371 := u5_0_3371.stp hs rfl
      have x6 := x6.stp hs rfl
      have a9 := a9.stp hs rfl
      have l5 := l5.stp hs rfl
      have b3418 := b3418.stp hs rfl
      have b3421 := b3421.stp hs rfl
      refine EL_at zJ rfl rfl ?_
      refine EL_at aK rfl rfl ?_
      refine EL_nil (thn_n (L_loadO (x := .tmp 145) part_LoomOrder_2.1 Try.isAgg3 Try.sizeOf3 b3418 fun qU iQ xN => ?_))
      obtain rfl := RV_int.1 iQ
      refine L_loadO (x := .tmp 148) part_LoomOrder_1.1 Try.isAgg3 Try.sizeOf3 b3418 fun rU jQ yN => ?_
      obtain rfl := RV_int.1 jQ
      obtain ⟨sU, sI, h⟩ := bsome h
      obtain ⟨hi3437, he3437⟩ := vat_idx sI
      obtain ⟨tU, tI, h⟩ := bsome h
      obtain ⟨hi3441, he3441⟩ := vat_idx tI
      refine E_drawB (a0 := (aB : Vector Int 3)) (a1 := ((vset aB d7 ((w64 (u3 + (w64 ((1 : Int) + k8)))))) : Vector Int 3)) a9 (n := 11) [(9, (fun _ g w => OB 2009 g w 126 ((vset aB d7 ((w64 (u3 + (w64 ((1 : Int) + k8)))))) : Vector Int 3) yA))] [0, 1, 2, 3, 4, 5, 6, 7, 8, 9, 10] rfl mixed (by kernel_rfl) (⟨fun _ => up_box, trivial⟩) ?_
      refine L_p (.int .i64 (d7)) rfl rfl (P_move vD) ?_
      refine L_p (.int .i64 (d7)) rfl rfl (P_move vD) ?_
      refine L_p (.int .i64 (u3)) rfl rfl (P_move eD) ?_
      refine L_p (fPtr rA 2) rfl rfl (P_fieldAddr at_82_2 oB (OB.ptr b3418)) ?_
      refine L_ld (c := .int .i64 ((w64 ((1 : Int) + k8)))) rfl rfl .plain (fun _ _ h => ⟨h.1.ch, fun b hb ho => h.1.block b hb (by rw [ho]; decide)⟩) xN rfl ?_
      refine L_p (.int .i64 ((w64 (u3 + (w64 ((1 : Int) + k8)))))) rfl rfl (P_int rfl rfl rfl) ?_
      refine L_p (fPtr rA 1) rfl rfl (P_fieldAddr at_82_1 oB (OB.ptr b3418)) ?_
      refine L_ld (c := .int .i64 (u9)) rfl rfl .plain (fun _ _ h => ⟨h.1.ch, fun b hb ho => h.1.block b hb (by rw [ho]; decide)⟩) yN rfl ?_
      refine L_p (fPtr yA ((d7 : Int).toNat * 1)) rfl rfl (P_indexAddrA (α := Int) Try.underlying126 Try.sizeOf3 sH (OB.ptr a9) rfl sI) ?_
      refine L_do (φ := fun _ g w => OB 2009 g w 126 ((vset aB d7 ((w64 (u3 + (w64 ((1 : Int) + k8)))))) : Vector Int 3) yA) rfl rfl .plain (fun g w hd => D_storeRD (g := g) hi3437 Try.sizeOf3 rfl hd.1.2 rfl (RV_int.2 rfl)) (fun uU hv => ?_)
      clear hv
      refine L_p (fPtr iB ((d7 : Int).toNat * 1)) rfl rfl (P_indexAddrA (α := Int) Try.underlying126 Try.sizeOf3 sF (OB.ptr l5) rfl tI) ?_
      refine L_nil fun kQ vU hall => ?_
      have hs := hall.1.1
      have hfr := hfr.stp hs
      have i6 := i6.stp hs
      have u2_0_3371 := u2_0_3371.stp hs rfl
      have j6 := j6.stp hs rfl
      have u5_0_3371 := u5_0_3371.stp hs rfl
      have x6 := x6.stp hs rfl
      have b3421 := b3421.stp hs rfl
      have xD := xD.stp hs
      have o3426 := o3426.stp hs rfl
      have l5 := l5.stp hs rfl
      have b3448 := (word_all (A := fun g w => OB 2009 g w 126 ((vset aB d7 ((w64 (u3 + (w64 ((1 : Int) + k8)))))) : Vector Int 3) yA) 9 rfl hall)
      clear hs hall
      refine EL_do .plain rfl (D_storeFc (g := kQ) (SubS.dyn hi3441) Try.sizeOf3 rfl l5 rfl (RV_int.2 rfl) fun lQ xU hs b3494 rst hos => ?_)
      clear rst hos
      have hfr := hfr.stp hs
      have i6 := i6.stp hs
      have u2_0_3371 := u2_0_3371.stp hs rfl
      have j6 := j6.stp hs rfl
      have u5_0_3371 := u5_0_3371.stp hs rfl
      have x6 := x6.stp hs rfl
      have b3421 := b3421.stp hs rfl
      have xD := xD.stp hs
      have o3426 := o3426.stp hs rfl
      have b3448 := b3448.stp hs rfl
      refine EL_nil (blk_n ?_)
      obtain ⟨rfl, rfl, rfl, rfl⟩ := pairs4 h
      exact hQ _ _ ⟨lQ, (zJ), (aK), hfr, oK, i6, pK, j6, u2_0_3371, qK, x6, u5_0_3371, rfl, b3421, rfl, xD, o3426, sH, b3448, sF, b3494, tF⟩
    ·clear hx
     obtain ⟨mQ, uK, vK, hfr, xK, yK, zK, aL, u2_0_3495, bL, dL, u5_0_3495, eL, gL, iL, jL, lL, mL, nL, bJ, cJ, dJ⟩ := hR
     refine E_region (EL_mv dJ rfl ?_)
     refine EL_in (.int .i64 ((w64 (x5 + (1 : Int))))) rfl rfl rfl rfl ?_
     refine EL_at (.int .i64 ((w64 (x5 + (1 : Int))))) rfl rfl ?_
     exact EL_nil (thn_n (tM (aH, dE, cH, xE, (w64 (x5 + (1 : Int)))) _ _ ⟨mQ, (uK), (vK), hfr, xK, yK, zK, aL, u2_0_3495, bL, dL, u5_0_3495, eL, gL, iL, jL, lL, mL, nL, bJ, cJ, rfl⟩ h))
  ·clear hx
   obtain ⟨bK, tH, uH, hfr, xH, oL, u2_0_3496, pL, qL, u5_0_3496, rL, iE, tL, jE, oR⟩ := hR
   refine E_seq (E_region (EL_do .plain rfl (D_loadO (g := bK) Try.isAgg24 Try.sizeOf24 pL qL fun nQ oQ => ?_)))
   refine EL_mv rL rfl ?_
   refine EL_mv tL rfl ?_
   refine EL_do .plain rfl (D_storeOc (g := bK) (v := nQ) Try.sizeOf24 xH oL rfl oQ fun yU zU hs b3498 cb => ?_)
   clear cb
   have hfr := hfr.stp hs
   have iE := iE.stp hs rfl
   have jE := jE.stp hs
   refine EL_at tH rfl rfl ?_
   refine EL_at uH rfl rfl ?_
   refine EL_nil (thn_n (E_ret ?_))
   obtain rfl := sinj h
   obtain ⟨gh, hxh, hmh, homh⟩ := OA.hand (i := iO) hfr iE
   obtain ⟨ad3499, cv3499, hp3499, zN, cr3499⟩ := ob_read Try.isAgg24 Try.sizeOf24 b3498
   exact endm_ctt rfl rfl ((show _ = p2 from xH).trans hp3499) zN (show _ = tH from rfl) (show _ = uH from rfl) ⟨gh, hxh, _, _, _, rfl, (hmh ▸ cr3499), homh, (hmh ▸ jE)⟩
end Go.Proofs.Ytnfjhdagbknlbaa
