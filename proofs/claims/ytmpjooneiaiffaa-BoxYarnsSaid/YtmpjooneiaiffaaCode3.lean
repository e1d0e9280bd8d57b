import Derived.Test.YtmpjooneiaiffaaCode2
set_option maxRecDepth 8000
set_option maxHeartbeats 4000000
namespace Go.Proofs.Ytmpjooneiaiffaa
open Go.RowKit
def f97 (x0 : BoxRace) (x1 : BoxPick) : Option (BoxRace × Int × Int) :=
 (idx ((x0).boxes).toList (0 : Int)).bind fun y7 =>
 (idx (y7).toList (x1).Left).bind fun y9 =>
 (idx ((x0).boxes).toList (1 : Int)).bind fun v8 =>
 (idx (v8).toList (x1).Right).bind fun u3 =>
 jn (σ := BoxRace) (fun r8 =>
  (f106 (((x0).at_).Left) ((x1).Left)).bind fun t5 =>
  (f106 (((x0).at_).Right) ((x1).Right)).bind fun x5 =>
  (idx ((x0).boxes).toList (0 : Int)).bind fun x8 =>
  (idx (x8).toList (x1).Left).bind fun nB =>
  (idx (({ x0 with boxes := (vmod ((x0).boxes) ((0 : Int)) (fun b => (vset b ((x1).Left) u3))) }).boxes).toList (1 : Int)).bind fun a9 =>
  (idx (a9).toList (x1).Right).bind fun n9 =>
  some ({ { { x0 with boxes := (vmod ((x0).boxes) ((0 : Int)) (fun b => (vset b ((x1).Left) u3))) } with boxes := (vmod (({ x0 with boxes := (vmod ((x0).boxes) ((0 : Int)) (fun b => (vset b ((x1).Left) u3))) }).boxes) ((1 : Int)) (fun b => (vset b ((x1).Right) y9))) } with at_ := x1 }, (w64 (y9 + u3)), (w64 (t5 + x5)))
  ) fun d9 =>
 bif ((y9 == (0 : Int)) == (u3 == (0 : Int))) then
  some (x0, (0 : Int), (0 : Int))
 else
  d9 ((⟨(⟨List.toArray [(⟨List.toArray [0, 0, 0, 0], rfl⟩ : Vector Int 4), (⟨List.toArray [0, 0, 0, 0], rfl⟩ : Vector Int 4)], rfl⟩ : Vector (Vector Int 4) 2), ⟨0, 0⟩⟩ : BoxRace))
theorem en97 : Enters Try.prog 97 := enters_of Try.func97 (by kernel_rfl) rfl
theorem wk97 {gI : Gh} {wI : World} {x0 : BoxRace} {x1 : BoxPick} {up0 : Value} (rp0 : RV gI.m wI x0 up0) {up1 : Value} (rp1 : RV gI.m wI x1 up1) {r : BoxRace × Int × Int} (h : f97 x0 x1 = some r) : Fn Try.prog 97 #[up0, up1] gI wI (fun m w v => ∃ y0 y1 y2, v = .tuple #[y0, y1, y2] ∧ RV m w (r.1) y0 ∧ y1 = .int .i64 (r.2.1) ∧ y2 = .int .i64 (r.2.2)) := by
 unfold f97 at h
 refine fn_of_E Try.func97 rfl (Nat.le_of_ble_eq_true rfl) fun g0 hm hfr => ?_
 have rp0 : RV g0.m wI x0 up0 := hm ▸ rp0
 have rp1 : RV g0.m wI x1 up1 := hm ▸ rp1
 show E _ 59 none _ _ _ _ _
 refine E_seq (E_region (EL_do .plain rfl (D_boxO (g := g0) 2002 rfl rp0 fun g1 w1 p1 hs b1 => ?_)))
 have hfr := hfr.stp hs
 have rp0 := rp0.stp hs
 have rp1 := rp1.stp hs
 refine EL_do .plain rfl (D_box (g := g1) rfl rp1 fun g2 w2 p2 hs q2 => ?_)
 have hfr := hfr.ext hs
 have rp0 := rp0.ext hs
 have rp1 := rp1.ext hs
 have b1 := b1.ext hs
 refine EL_do .plain rfl (D_allocOc (g := g2) 2004 (⟨(⟨List.toArray [(⟨List.toArray [0, 0, 0, 0], rfl⟩ : Vector Int 4), (⟨List.toArray [0, 0, 0, 0], rfl⟩ : Vector Int 4)], rfl⟩ : Vector (Vector Int 4) 2), ⟨0, 0⟩⟩ : BoxRace) Try.zeroValue108 (fun m w => ⟨_, (rep_two (rep_vec (flat_chunk (rep_vec (flat_chunk rep_int (flat_chunk rep_int (flat_chunk rep_int (flat_chunk rep_int flat_nil)))) rfl) (flat_chunk (rep_vec (flat_chunk rep_int (flat_chunk rep_int (flat_chunk rep_int (flat_chunk rep_int flat_nil)))) rfl) flat_nil)) rfl) (rep_two rep_int rep_int)), rfl⟩) fun g3 w3 p3 hs b3 cb => ?_)
 have hfr := hfr.stp hs
 have rp0 := rp0.stp hs
 have rp1 := rp1.stp hs
 have b1 := b1.stp hs rfl
 have q2 := q2.stp hs
 clear cb
 refine EL_at (.int .i64 (0)) rfl rfl ?_
 refine EL_at (.int .i64 (0)) rfl rfl ?_
 refine EL_nil (thn_n (E_seq ?_))
 have q4 := PT_field (part_BoxPick_0).1 q2
 refine L_load (x := .tmp 9) Try.isAgg3 Try.sizeOf3 q4 fun v5 r5 oB => ?_
 obtain rfl := RV_int.1 r5
 obtain ⟨y7, k9, h⟩ := bsome h
 obtain ⟨hi8, he8⟩ := vat_idx k9
 obtain ⟨y9, l9, h⟩ := bsome h
 obtain ⟨hi10, he10⟩ := vat_idx l9
 refine L_loadOD (off := ((0 + ((0 : Int) : Int).toNat * 4) + ((x1).Left : Int).toNat * 1)) (x := .tmp 13) (SubS.at_ (SubS.comp part_BoxRace_0 (SubS.dynC hi8 (SubS.dyn hi10) rfl) rfl) (by first | rfl | exact Nat.add_assoc _ _ _ | simp only [Nat.add_assoc, Nat.zero_add] | omega)).1 ((congrArg (vat _ hi10) he8).trans he10) Try.isAgg3 Try.sizeOf3 b1 fun iD tB u9 => ?_
 obtain rfl := RV_int.1 tB
 have i7 := PT_field (part_BoxPick_1).1 q2
 refine L_load (x := .tmp 15) Try.isAgg3 Try.sizeOf3 i7 fun jD vB z9 => ?_
 obtain rfl := RV_int.1 vB
 obtain ⟨v8, j7, h⟩ := bsome h
 obtain ⟨hi16, he16⟩ := vat_idx j7
 obtain ⟨u3, m7, h⟩ := bsome h
 obtain ⟨hi18, he18⟩ := vat_idx m7
 refine L_loadOD (off := ((0 + ((1 : Int) : Int).toNat * 4) + ((x1).Right : Int).toNat * 1)) (x := .tmp 19) (SubS.at_ (SubS.comp part_BoxRace_0 (SubS.dynC hi16 (SubS.dyn hi18) rfl) rfl) (by first | rfl | exact Nat.add_assoc _ _ _ | simp only [Nat.add_assoc, Nat.zero_add] | omega)).1 ((congrArg (vat _ hi18) he16).trans he18) Try.isAgg3 Try.sizeOf3 b1 fun kD yB bA => ?_
 obtain rfl := RV_int.1 yB
 refine E_drawL (g := g3) (n := 14) [] [0, 1, 2, 3, 4, 5, 6, 7, 8, 9, 10, 11, 12, 13] rfl mixed (by kernel_rfl) trivial ?_
 refine L_p (fPtr p2 0) rfl rfl (P_fieldAddr at_83_0 rfl (PT.ptr q2)) ?_
 refine L_ld (c := .int .i64 ((x1).Left)) rfl rfl .plain (fun _ _ h => h.ch) oB rfl ?_
 refine L_p (fPtr p1 0) rfl rfl (P_fieldAddr at_108_0 rfl (OB.ptr b1)) ?_
 refine L_p (fPtr p1 (0 + ((0 : Int) : Int).toNat * 4)) rfl rfl (P_indexAddrA2 (α := Vector Int 4) (o1 := 0) rfl Try.underlying76 Try.sizeOf75 rfl (OB.ptr b1) rfl k9) ?_
 refine L_p (fPtr p1 ((0 + ((0 : Int) : Int).toNat * 4) + ((x1).Left : Int).toNat * 1)) rfl rfl (P_indexAddrA2 (α := Int) (o1 := (0 + ((0 : Int) : Int).toNat * 4)) rfl Try.underlying75 Try.sizeOf3 rfl (OB.ptr b1) rfl l9) ?_
 refine L_ld (c := .int .i64 (y9)) rfl rfl .plain (fun _ _ h => ⟨h.ch, fun b hb _ => h.below.block b hb⟩) u9 rfl ?_
 refine L_p (fPtr p2 1) rfl rfl (P_fieldAddr at_83_1 rfl (PT.ptr q2)) ?_
 refine L_ld (c := .int .i64 ((x1).Right)) rfl rfl .plain (fun _ _ h => h.ch) z9 rfl ?_
 refine L_p (fPtr p1 0) rfl rfl (P_fieldAddr at_108_0 rfl (OB.ptr b1)) ?_
 refine L_p (fPtr p1 (0 + ((1 : Int) : Int).toNat * 4)) rfl rfl (P_indexAddrA2 (α := Vector Int 4) (o1 := 0) rfl Try.underlying76 Try.sizeOf75 rfl (OB.ptr b1) rfl j7) ?_
 refine L_p (fPtr p1 ((0 + ((1 : Int) : Int).toNat * 4) + ((x1).Right : Int).toNat * 1)) rfl rfl (P_indexAddrA2 (α := Int) (o1 := (0 + ((1 : Int) : Int).toNat * 4)) rfl Try.underlying75 Try.sizeOf3 rfl (OB.ptr b1) rfl m7) ?_
 refine L_ld (c := .int .i64 (u3)) rfl rfl .plain (fun _ _ h => ⟨h.ch, fun b hb _ => h.below.block b hb⟩) bA rfl ?_
 refine L_p (.int .i64 (y9)) rfl rfl (P_assign rfl) ?_
 refine L_p (.int .i64 (u3)) rfl rfl (P_assign rfl) ?_
 refine L_nl fun v7 lD hs => ?_
 have hfr := hfr.ext hs
 have rp0 := rp0.ext hs
 have rp1 := rp1.ext hs
 have b1 := b1.ext hs
 have q2 := q2.ext hs
 have b3 := b3.ext hs
 have q4 := q4.ext hs
 have i7 := i7.ext hs
 clear hs
 refine EL_nil (thn_n (E_joinC h (fun (s : BoxRace) e w => ∃ (g : Gh) , Fr gI wI g w ∧ e 2 = p1 ∧ OB 2002 g w 108 (x0 : BoxRace) p1 ∧ e 3 = p2 ∧ PT g.m w (x1 : BoxPick) p2 ∧ e 4 = p3 ∧ OB 2004 g w 108 (s : BoxRace) p3 ∧ e 7 = .int .i64 (y9) ∧ e 8 = .int .i64 (u3)) (fun X46 d9 gA h => ?_) ?_))
 ·refine E_seq (E_region (EL_mw (.int .i64 (y9)) rfl rfl ?_))
  refine EL_in (.bool ((y9 == (0 : Int)))) rfl rfl rfl rfl ?_
  refine EL_mw (.int .i64 (u3)) rfl rfl ?_
  refine EL_in (.bool ((u3 == (0 : Int)))) rfl rfl rfl rfl ?_
  refine EL_p (.bool (((y9 == (0 : Int)) == (u3 == (0 : Int))))) (P_bool Try.underlying4 rfl rfl rfl) rfl ?_
  refine EL_nil (thn_n ?_)
  rcases csome h with ⟨v6, h⟩ | ⟨v6, h⟩
  ·refine E_ct v6 rfl ?_
   refine E_seq (E_region (EL_do .plain rfl (D_loadO (g := v7) Try.isAgg108 Try.sizeOf108 rfl b1 fun zB aC => ?_)))
   refine EL_do .plain rfl (D_storeOc (g := v7) (v := zB) Try.sizeOf108 rfl b3 rfl aC fun mD nD hs b49 cb => ?_)
   clear cb
   have hfr := hfr.stp hs
   refine EL_at (.int .i64 (0)) rfl rfl ?_
   refine EL_at (.int .i64 (0)) rfl rfl ?_
   refine EL_nil (thn_n (E_ret (thn_r ?_)))
   obtain rfl := sinj h
   obtain ⟨ad50, cv50, hp50, iA, cr50⟩ := ob_read Try.isAgg108 Try.sizeOf108 b49
   exact endm_ctt rfl rfl ((show _ = p3 from rfl).trans hp50) iA (show _ = .int .i64 (0) from rfl) (show _ = .int .i64 (0) from rfl) ⟨_, hfr, _, _, _, rfl, cr50, rfl, rfl⟩
  ·refine E_cf v6 rfl ?_
   exact E_skip (thn_n (gA ((⟨(⟨List.toArray [(⟨List.toArray [0, 0, 0, 0], rfl⟩ : Vector Int 4), (⟨List.toArray [0, 0, 0, 0], rfl⟩ : Vector Int 4)], rfl⟩ : Vector (Vector Int 4) 2), ⟨0, 0⟩⟩ : BoxRace)) _ _ ⟨v7, hfr, rfl, b1, rfl, q2, rfl, b3, rfl, rfl⟩ h))
 ·rintro r8 uC oD ⟨cC, hfr, l5, o0, i6, i3, x6, i5, y6, a7⟩ h
  refine E_seq (L_loadO (x := .tmp 28) (SubS.comp part_BoxRace_1 part_BoxPick_0 rfl).1 Try.isAgg3 Try.sizeOf3 o0 fun sD eC jA => ?_)
  obtain rfl := RV_int.1 eC
  have j6 := PT_field (part_BoxPick_0).1 i3
  refine L_load (x := .tmp 30) Try.isAgg3 Try.sizeOf3 j6 fun tD iC mA => ?_
  obtain rfl := RV_int.1 iC
  obtain ⟨t5, pA, h⟩ := bsome h
  refine L_loadO (x := .tmp 34) (SubS.comp part_BoxRace_1 part_BoxPick_1 rfl).1 Try.isAgg3 Try.sizeOf3 o0 fun uD lC qA => ?_
  obtain rfl := RV_int.1 lC
  have q62 := PT_field (part_BoxPick_1).1 i3
  refine L_load (x := .tmp 36) Try.isAgg3 Try.sizeOf3 q62 fun vD mC rA => ?_
  obtain rfl := RV_int.1 mC
  obtain ⟨x5, yA, h⟩ := bsome h
  refine E_drawL (g := cC) (n := 14) [(5, (fun v g w => v = .int .i64 (t5))), (11, (fun v g w => v = .int .i64 (x5)))] [0, 1, 2, 3, 4, 5, 6, 7, 8, 9, 10, 11, 12, 13] rfl mixed (by kernel_rfl) (⟨fun _ => up_eq _, fun _ => up_eq _, trivial⟩) ?_
  refine L_p (fPtr p1 8) rfl rfl (P_fieldAddr at_108_1 l5 (OB.ptr o0)) ?_
  refine L_p (fPtr p1 8) rfl rfl (P_fieldAddr2 (o1 := 8) rfl at_83_0 rfl (OB.ptr o0)) ?_
  refine L_ld (c := .int .i64 (((x0).at_).Left)) rfl rfl .plain (fun _ _ h => ⟨h.ch, fun b hb _ => h.below.block b hb⟩) jA rfl ?_
  refine L_p (fPtr p2 0) rfl rfl (P_fieldAddr at_83_0 i6 (PT.ptr i3)) ?_
  refine L_ld (c := .int .i64 ((x1).Left)) rfl rfl .plain (fun _ _ h => h.ch) mA rfl ?_
  refine L_do (φ := fun v g w => v = .int .i64 (t5)) rfl rfl .plain (fun g w hd => D_call (g := g) (vs := [.int .i64 (((x0).at_).Left), .int .i64 ((x1).Left)]) en106 (.cons rfl (.cons rfl .nil)) (wk106  pA) fun g' w' v hs hr => ⟨g', hs, hr⟩) (fun xD hv => ?_)
  obtain ⟨_, _, _, rfl⟩ := hv
  refine L_p (fPtr p1 8) rfl rfl (P_fieldAddr at_108_1 l5 (OB.ptr o0)) ?_
  refine L_p (fPtr p1 9) rfl rfl (P_fieldAddr2 (o1 := 8) rfl at_83_1 rfl (OB.ptr o0)) ?_
  refine L_ld (c := .int .i64 (((x0).at_).Right)) rfl rfl .plain (fun _ _ h => ⟨h.ch, fun b hb _ => h.below.block b hb⟩) qA rfl ?_
  refine L_p (fPtr p2 1) rfl rfl (P_fieldAddr at_83_1 i6 (PT.ptr i3)) ?_
  refine L_ld (c := .int .i64 ((x1).Right)) rfl rfl .plain (fun _ _ h => h.ch) rA rfl ?_
  refine L_do (φ := fun v g w => v = .int .i64 (x5)) rfl rfl .plain (fun g w hd => D_call (g := g) (vs := [.int .i64 (((x0).at_).Right), .int .i64 ((x1).Right)]) en106 (.cons rfl (.cons rfl .nil)) (wk106  yA) fun g' w' v hs hr => ⟨g', hs, hr⟩) (fun yD hv => ?_)
  obtain ⟨_, _, _, rfl⟩ := hv
  refine L_p (.int .i64 ((w64 (t5 + x5)))) rfl rfl (P_int rfl rfl rfl) ?_
  refine L_p (.int .i64 ((w64 (t5 + x5)))) rfl rfl (P_assign rfl) ?_
  refine L_nl fun zD aE hs => ?_
  have hfr := hfr.ext hs
  have o0 := o0.ext hs
  have i3 := i3.ext hs
  have i5 := i5.ext hs
  have j6 := j6.ext hs
  have q62 := q62.ext hs
  clear hs
  refine EL_nil (thn_n (E_seq ?_))
  have g8 := PT_field (part_BoxPick_0).1 i3
  refine L_load (x := .tmp 40) Try.isAgg3 Try.sizeOf3 g8 fun bE qC aB => ?_
  obtain rfl := RV_int.1 qC
  have i8 := PT_field (part_BoxPick_1).1 i3
  refine L_load (x := .tmp 42) Try.isAgg3 Try.sizeOf3 i8 fun cE rC dB => ?_
  obtain rfl := RV_int.1 rC
  obtain ⟨x8, k8, h⟩ := bsome h
  obtain ⟨hi93, he93⟩ := vat_idx k8
  obtain ⟨nB, l8, h⟩ := bsome h
  obtain ⟨hi95, he95⟩ := vat_idx l8
  obtain ⟨a9, m8, h⟩ := bsome h
  obtain ⟨hi100, he100⟩ := vat_idx m8
  obtain ⟨n9, d7, h⟩ := bsome h
  obtain ⟨hi102, he102⟩ := vat_idx d7
  refine E_drawB (a0 := (x0 : BoxRace)) (a1 := ({ x0 with boxes := (vmod ((x0).boxes) ((0 : Int)) (fun b => (vset b ((x1).Left) u3))) } : BoxRace)) o0 (n := 13) [(9, (fun _ g w => OB 2002 g w 108 ({ x0 with boxes := (vmod ((x0).boxes) ((0 : Int)) (fun b => (vset b ((x1).Left) u3))) } : BoxRace) p1))] [0, 1, 2, 3, 4, 5, 6, 7, 8, 9, 10, 11, 12] rfl mixed (by kernel_rfl) (⟨fun _ => up_box, trivial⟩) ?_
  refine L_p (fPtr p2 0) rfl rfl (P_fieldAddr at_83_0 i6 (PT.ptr i3)) ?_
  refine L_ld (c := .int .i64 ((x1).Left)) rfl rfl .plain (fun _ _ h => h.1.ch) aB rfl ?_
  refine L_p (fPtr p2 1) rfl rfl (P_fieldAddr at_83_1 i6 (PT.ptr i3)) ?_
  refine L_ld (c := .int .i64 ((x1).Right)) rfl rfl .plain (fun _ _ h => h.1.ch) dB rfl ?_
  refine L_p (.int .i64 (u3)) rfl rfl (P_move a7) ?_
  refine L_p (.int .i64 (y9)) rfl rfl (P_move y6) ?_
  refine L_p (fPtr p1 0) rfl rfl (P_fieldAddr at_108_0 l5 (OB.ptr o0)) ?_
  refine L_p (fPtr p1 (0 + ((0 : Int) : Int).toNat * 4)) rfl rfl (P_indexAddrA2 (α := Vector Int 4) (o1 := 0) rfl Try.underlying76 Try.sizeOf75 rfl (OB.ptr o0) rfl k8) ?_
  refine L_p (fPtr p1 ((0 + ((0 : Int) : Int).toNat * 4) + ((x1).Left : Int).toNat * 1)) rfl rfl (P_indexAddrA2 (α := Int) (o1 := (0 + ((0 : Int) : Int).toNat * 4)) rfl Try.underlying75 Try.sizeOf3 rfl (OB.ptr o0) rfl l8) ?_
  refine L_do (φ := fun _ g w => OB 2002 g w 108 ({ x0 with boxes := (vmod ((x0).boxes) ((0 : Int)) (fun b => (vset b ((x1).Left) u3))) } : BoxRace) p1) rfl rfl .plain (fun g w hd => D_storeR (g := g) (by rfl) (by exact (congrArg (fun y => { x0 with boxes := y }) (vmod_vmod (h := fun b => (vset b ((x1).Left) u3)) fun b => (vset_vset _ _ _)))) (SubS.at_ (SubS.comp part_BoxRace_0 (SubS.dynC hi93 (SubS.dyn hi95) rfl) rfl) (by first | rfl | exact Nat.add_assoc _ _ _ | simp only [Nat.add_assoc, Nat.zero_add] | omega)) Try.sizeOf3 rfl hd.1.2 rfl (RV_int.2 rfl)) (fun dE hv => ?_)
  clear hv
  refine L_p (fPtr p1 0) rfl rfl (P_fieldAddr at_108_0 l5 (OB.ptr o0)) ?_
  refine L_p (fPtr p1 (0 + ((1 : Int) : Int).toNat * 4)) rfl rfl (P_indexAddrA2 (α := Vector Int 4) (o1 := 0) rfl Try.underlying76 Try.sizeOf75 rfl (OB.ptr o0) rfl m8) ?_
  refine L_p (fPtr p1 ((0 + ((1 : Int) : Int).toNat * 4) + ((x1).Right : Int).toNat * 1)) rfl rfl (P_indexAddrA2 (α := Int) (o1 := (0 + ((1 : Int) : Int).toNat * 4)) rfl Try.underlying75 Try.sizeOf3 rfl (OB.ptr o0) rfl d7) ?_
  refine L_nil fun iB vC hall => ?_
  have hs := hall.1.1
  have hfr := hfr.stp hs
  have i3 := i3.stp hs
  have i5 := i5.stp hs rfl
  have j6 := j6.stp hs
  have q62 := q62.stp hs
  have g8 := g8.stp hs
  have i8 := i8.stp hs
  have b104 := (word_all (A := fun g w => OB 2002 g w 108 ({ x0 with boxes := (vmod ((x0).boxes) ((0 : Int)) (fun b => (vset b ((x1).Left) u3))) } : BoxRace) p1) 9 rfl hall)
  clear hs hall
  refine EL_do .plain rfl (D_storeFc (g := iB) (SubS.at_ (SubS.comp part_BoxRace_0 (SubS.dynC hi100 (SubS.dyn hi102) rfl) rfl) (by first | rfl | exact Nat.add_assoc _ _ _ | simp only [Nat.add_assoc, Nat.zero_add] | omega)) Try.sizeOf3 rfl b104 rfl (RV_int.2 rfl) fun n8 aD hs b135 rst hos => ?_)
  clear rst hos
  have hfr := hfr.stp hs
  have i3 := i3.stp hs
  have i5 := i5.stp hs rfl
  refine EL_nil (thn_n (E_seq (E_region (EL_do .plain rfl (D_load (g := n8) Try.isAgg83 Try.sizeOf83 i6 i3 fun bD jB => ?_)))))
  refine EL_p (fPtr p1 8) (P_fieldAddr at_108_1 l5 (OB.ptr b135)) rfl ?_
  refine EL_do .plain rfl (D_storeFc (g := n8) part_BoxRace_1 Try.sizeOf83 rfl b135 rfl jB fun q8 cD hs b138 rst hos => ?_)
  clear rst hos
  have hfr := hfr.stp hs
  have i5 := i5.stp hs rfl
  refine EL_nil (thn_n (E_seq (E_region (EL_do .plain rfl (D_loadO (g := q8) Try.isAgg108 Try.sizeOf108 l5 b138 fun lB mB => ?_)))))
  refine EL_mv y6 rfl ?_
  refine EL_mv a7 rfl ?_
  refine EL_in (.int .i64 ((w64 (y9 + u3)))) rfl rfl rfl rfl ?_
  refine EL_mw (.int .i64 ((w64 (t5 + x5)))) rfl rfl ?_
  refine EL_do .plain rfl (D_storeOc (g := q8) (v := lB) Try.sizeOf108 x6 i5 rfl mB fun eD gD hs b140 cb => ?_)
  clear cb
  have hfr := hfr.stp hs
  refine EL_at (.int .i64 ((w64 (y9 + u3)))) rfl rfl ?_
  refine EL_at (.int .i64 ((w64 (t5 + x5)))) rfl rfl ?_
  refine EL_nil (thn_n (E_ret ?_))
  obtain rfl := sinj h
  obtain ⟨ad141, cv141, hp141, t8, cr141⟩ := ob_read Try.isAgg108 Try.sizeOf108 b140
  exact endm_ctt rfl rfl ((show _ = p3 from x6).trans hp141) t8 (show _ = .int .i64 ((w64 (y9 + u3))) from rfl) (show _ = .int .i64 ((w64 (t5 + x5))) from rfl) ⟨_, hfr, _, _, _, rfl, cr141, rfl, rfl⟩
def f61 (x0 : BoxLoom) (x1 : BoxPick) : Option (BoxLoom × Int × Int × Bool) :=
 (f89 x0 ((0 : Int)) ((x1).Left)).bind fun y8 =>
 (f89 x0 ((1 : Int)) ((x1).Right)).bind fun o0 =>
 jn (σ := BoxLoom) (fun v8 =>
  (f50 x0).bind fun y63 =>
  Option.bind (α := BoxLoom × Int) (
   bif (decide (y8 ≥ (0 : Int))) then
    (idx ((y63).Shuttles) y8).bind fun y180 =>
    (idx ((({ y63 with Shuttles := (List.set ((y63).Shuttles) (Int.toNat y8) ({ y180 with Side := (1 : Int) } : BoxShuttle)) } : BoxLoom)).Shuttles) y8).bind fun y9 =>
    some (({ (({ y63 with Shuttles := (List.set ((y63).Shuttles) (Int.toNat y8) ({ y180 with Side := (1 : Int) } : BoxShuttle)) } : BoxLoom)) with Shuttles := (List.set ((({ y63 with Shuttles := (List.set ((y63).Shuttles) (Int.toNat y8) ({ y180 with Side := (1 : Int) } : BoxShuttle)) } : BoxLoom)).Shuttles) (Int.toNat y8) ({ y9 with Box := (x1).Right } : BoxShuttle)) } : BoxLoom), y8)
   else
    (idx ((y63).Shuttles) o0).bind fun x5 =>
    (idx ((({ y63 with Shuttles := (List.set ((y63).Shuttles) (Int.toNat o0) ({ x5 with Side := (0 : Int) } : BoxShuttle)) } : BoxLoom)).Shuttles) o0).bind fun z9 =>
    some (({ (({ y63 with Shuttles := (List.set ((y63).Shuttles) (Int.toNat o0) ({ x5 with Side := (0 : Int) } : BoxShuttle)) } : BoxLoom)) with Shuttles := (List.set ((({ y63 with Shuttles := (List.set ((y63).Shuttles) (Int.toNat o0) ({ x5 with Side := (0 : Int) } : BoxShuttle)) } : BoxLoom)).Shuttles) (Int.toNat o0) ({ z9 with Box := (x1).Left } : BoxShuttle)) } : BoxLoom), o0)
   ) fun (d7, i7) =>
  (idx ((x0).At) (0 : Int)).bind fun x6 =>
  (idx ((x0).At) (0 : Int)).bind fun y6 =>
  (idx ((x0).At) (1 : Int)).bind fun a7 =>
  (idx ((x0).At) (1 : Int)).bind fun g8 =>
  some (({ d7 with At := ([(x1).Left, (x1).Right] : List Int) } : BoxLoom), i7, (w64 ((w64 ((w64 ((max64 (x1).Left x6) - (min64 (x1).Left y6))) + (max64 (x1).Right a7))) - (min64 (x1).Right g8))), true)
  ) fun gE =>
 Option.bind (α := Bool) (
  bif (decide (y8 ≥ (0 : Int))) then
   bif (decide (o0 ≥ (0 : Int))) then
    some (true)
   else
    bif (decide (y8 < (0 : Int))) then
     some ((decide (o0 < (0 : Int))))
    else
     some (false)
  else
   bif (decide (y8 < (0 : Int))) then
    some ((decide (o0 < (0 : Int))))
   else
    some (false)
  ) fun i8 =>
 bif i8 then
  some (x0, (0 : Int), (0 : Int), false)
 else
  gE ((⟨[], [], []⟩ : BoxLoom))
theorem en61 : Enters Try.prog 61 := enters_of Try.func61 (by kernel_rfl) rfl
theorem wk61 {gI : Gh} {wI : World} {x0 : BoxLoom} {x1 : BoxPick} {up0 : Value} (rp0 : RV gI.m wI x0 up0) {up1 : Value} (rp1 : RV gI.m wI x1 up1) {r : BoxLoom × Int × Int × Bool} (h : f61 x0 x1 = some r) : Fn Try.prog 61 #[up0, up1] gI wI (fun m w v => ∃ y0 y1 y2 y3, v = .tuple #[y0, y1, y2, y3] ∧ RV m w (r.1) y0 ∧ y1 = .int .i64 (r.2.1) ∧ y2 = .int .i64 (r.2.2.1) ∧ y3 = .bool (r.2.2.2)) := by
 unfold f61 at h
 refine fn_of_E Try.func61 rfl (Nat.le_of_ble_eq_true rfl) fun g0 hm hfr => ?_
 have rp0 : RV g0.m wI x0 up0 := hm ▸ rp0
 have rp1 : RV g0.m wI x1 up1 := hm ▸ rp1
 show E _ 106 none _ _ _ _ _
 refine E_seq (E_region (EL_do .plain rfl (D_box (g := g0) rfl rp0 fun g1 w1 p1 hs q1 => ?_)))
 have hfr := hfr.ext hs
 have rp1 := rp1.ext hs
 refine EL_do .plain rfl (D_box (g := g1) rfl rp1 fun g2 w2 p2 hs q2 => ?_)
 have hfr := hfr.ext hs
 have q1 := q1.ext hs
 refine EL_do .plain rfl (D_allocOc (g := g2) 2004 (⟨[], [], []⟩ : BoxLoom) Try.zeroValue25 (fun m w => ⟨_, (rep_two rep_nil (rep_two rep_nil rep_nil)), rfl⟩) fun g3 w3 p3 hs b3 cb => ?_)
 have hfr := hfr.stp hs
 have q1 := q1.stp hs
 have q2 := q2.stp hs
 have k8 : OSF 2004 60400 0 g3 w3 3 25 ([] : List Int) p3 := cb.osf (by rfl)
 have l8 : OSF 2004 60401 1 g3 w3 3 25 ([] : List Int) p3 := cb.osf (by rfl)
 have m8 : OSF 2004 60402 2 g3 w3 87 25 ([] : List BoxShuttle) p3 := cb.osf (by rfl)
 clear cb
 refine EL_at (.int .i64 (0)) rfl rfl ?_
 refine EL_at (.int .i64 (0)) rfl rfl ?_
 refine EL_at (.bool false) rfl rfl ?_
 refine EL_nil (thn_n (E_seq (L_load (x := .tmp 2) Try.isAgg25 Try.sizeOf25 q1 fun v4 r4 qG => ?_)))
 have q5 := PT_field (part_BoxPick_0).1 q2
 refine L_load (x := .tmp 14) Try.isAgg3 Try.sizeOf3 q5 fun v6 r6 rG => ?_
 obtain rfl := RV_int.1 r6
 obtain ⟨y8, sG, h⟩ := bsome h
 refine L_load (x := .tmp 2) Try.isAgg25 Try.sizeOf25 q1 fun v9 r9 tG => ?_
 have uG := PT_field (part_BoxPick_1).1 q2
 refine L_load (x := .tmp 18) Try.isAgg3 Try.sizeOf3 uG fun pI vG lE => ?_
 obtain rfl := RV_int.1 vG
 obtain ⟨o0, mE, h⟩ := bsome h
 refine E_drawL (g := g3) (n := 10) [(3, (fun v g w => v = .int .i64 (y8))), (7, (fun v g w => v = .int .i64 (o0)))] [0, 1, 2, 3, 4, 5, 6, 7, 8, 9] rfl mixed (by kernel_rfl) (⟨fun _ => up_eq _, fun _ => up_eq _, trivial⟩) ?_
 refine L_ld (c := v4) rfl rfl .plain (fun _ _ h => h.ch) qG rfl ?_
 refine L_p (fPtr p2 0) rfl rfl (P_fieldAddr at_83_0 rfl (PT.ptr q2)) ?_
 refine L_ld (c := .int .i64 ((x1).Left)) rfl rfl .plain (fun _ _ h => h.ch) rG rfl ?_
 refine L_do (φ := fun v g w => v = .int .i64 (y8)) rfl rfl .plain (fun g w hd => D_call (g := g) (vs := [v4, .int .i64 (0), .int .i64 ((x1).Left)]) en89 (.cons rfl (.cons rfl (.cons rfl .nil))) (wk89 (r4.ext hd.1) sG) fun g' w' v hs hr => ⟨g', hs, hr⟩) (fun v7 hv => ?_)
 obtain ⟨_, _, _, rfl⟩ := hv
 refine L_ld (c := v9) rfl rfl .plain (fun _ _ h => h.ch) tG rfl ?_
 refine L_p (fPtr p2 1) rfl rfl (P_fieldAddr at_83_1 rfl (PT.ptr q2)) ?_
 refine L_ld (c := .int .i64 ((x1).Right)) rfl rfl .plain (fun _ _ h => h.ch) lE rfl ?_
 refine L_do (φ := fun v g w => v = .int .i64 (o0)) rfl rfl .plain (fun g w hd => D_call (g := g) (vs := [v9, .int .i64 (1), .int .i64 ((x1).Right)]) en89 (.cons rfl (.cons rfl (.cons rfl .nil))) (wk89 (r9.ext hd.1) mE) fun g' w' v hs hr => ⟨g', hs, hr⟩) (fun qI hv => ?_)
 obtain ⟨_, _, _, rfl⟩ := hv
 refine L_p (.int .i64 (y8)) rfl rfl (P_assign rfl) ?_
 refine L_p (.int .i64 (o0)) rfl rfl (P_assign rfl) ?_
 refine L_nl fun qA rI hs => ?_
 have hfr := hfr.ext hs
 have q1 := q1.ext hs
 have q2 := q2.ext hs
 have k8 := k8.ext hs
 have l8 := l8.ext hs
 have m8 := m8.ext hs
 have b3 := b3.ext hs
 clear hs
 refine EL_nil (thn_n (E_joinC h (fun (s : BoxLoom) e w => ∃ (g : Gh) , Fr gI wI g w ∧ e 2 = p1 ∧ PT g.m w (x0 : BoxLoom) p1 ∧ e 3 = p2 ∧ PT g.m w (x1 : BoxPick) p2 ∧ e 4 = p3 ∧ OB 2004 g w 25 (s : BoxLoom) p3 ∧ OSF 2004 60400 0 g w 3 25 ((s).Boxes) p3 ∧ OSF 2004 60401 1 g w 3 25 ((s).At) p3 ∧ OSF 2004 60402 2 g w 87 25 ((s).Shuttles) p3 ∧ e 8 = .int .i64 (y8) ∧ e 9 = .int .i64 (o0)) (fun X46 gE nE h => ?_) ?_))
 ·obtain ⟨i8, hx, h⟩ := bsome h
  refine E_join (fun e w => ∃ (g : Gh) , Fr gI wI g w ∧ e 2 = p1 ∧ PT g.m w (x0 : BoxLoom) p1 ∧ e 3 = p2 ∧ PT g.m w (x1 : BoxPick) p2 ∧ e 4 = p3 ∧ OB 2004 g w 25 ((⟨[], [], []⟩ : BoxLoom) : BoxLoom) p3 ∧ OSF 2004 60400 0 g w 3 25 (((⟨[], [], []⟩ : BoxLoom)).Boxes) p3 ∧ OSF 2004 60401 1 g w 3 25 (((⟨[], [], []⟩ : BoxLoom)).At) p3 ∧ OSF 2004 60402 2 g w 87 25 (((⟨[], [], []⟩ : BoxLoom)).Shuttles) p3 ∧ e 8 = .int .i64 (y8) ∧ e 9 = .int .i64 (o0) ∧ e 34 = .bool (i8)) (fun Q' hQ => ?_) (fun jH sI hR => ?_)
  ·replace h := hx
   clear hx
   refine E_region (EL_mw (.int .i64 (y8)) rfl rfl ?_)
   refine EL_in (.bool ((decide (y8 ≥ (0 : Int))))) rfl rfl rfl rfl ?_
   refine EL_mw (.bool ((decide (y8 ≥ (0 : Int))))) rfl rfl ?_
   rcases csome h with ⟨n8, h⟩ | ⟨n8, h⟩
   ·refine EL_y (.int .i64 (o0)) (P_move rfl) rfl rfl n8 rfl ?_
    refine EL_y (.bool ((decide (o0 ≥ (0 : Int))))) (P_int rfl rfl rfl) rfl rfl n8 rfl ?_
    refine EL_p (.bool ((decide (o0 ≥ (0 : Int))))) (P_pick (b := (decide (y8 ≥ (0 : Int)))) rfl (pick_t n8 rfl)) rfl ?_
    refine EL_mw (.bool ((decide (o0 ≥ (0 : Int))))) rfl rfl ?_
    rcases csome h with ⟨i6, h⟩ | ⟨i6, h⟩
    ·refine EL_s rfl rfl i6 rfl rfl ?_
     refine EL_s rfl rfl i6 rfl rfl ?_
     refine EL_s rfl rfl i6 rfl rfl ?_
     refine EL_skip (.off rfl rfl) rfl ?_
     refine EL_skip (.off rfl rfl) rfl ?_
     refine EL_s rfl rfl i6 rfl rfl ?_
     refine EL_p (.bool true) (P_pick (b := (decide (o0 ≥ (0 : Int)))) rfl (pick_t i6 rfl)) rfl ?_
     refine EL_nil ?_
     obtain rfl := sinj h
     exact hQ _ _ ⟨qA, hfr, rfl, q1, rfl, q2, rfl, b3, k8, l8, m8, rfl, rfl, rfl⟩
    ·refine EL_y (.int .i64 (y8)) (P_move rfl) rfl rfl i6 rfl ?_
     refine EL_y (.bool ((decide (y8 < (0 : Int))))) (P_int rfl rfl rfl) rfl rfl i6 rfl ?_
     refine EL_y (.bool ((decide (y8 < (0 : Int))))) (P_move rfl) rfl rfl i6 rfl ?_
     rcases csome h with ⟨q8, h⟩ | ⟨q8, h⟩
     ·refine EL_y (.int .i64 (o0)) (P_move rfl) rfl rfl q8 rfl ?_
      refine EL_y (.bool ((decide (o0 < (0 : Int))))) (P_int rfl rfl rfl) rfl rfl q8 rfl ?_
      refine EL_y (.bool ((decide (o0 < (0 : Int))))) (P_pick (b := (decide (y8 < (0 : Int)))) rfl (pick_t q8 rfl)) rfl rfl i6 rfl ?_
      refine EL_p (.bool ((decide (o0 < (0 : Int))))) (P_pick (b := (decide (o0 ≥ (0 : Int)))) rfl (pick_f i6 rfl)) rfl ?_
      refine EL_nil ?_
      obtain rfl := sinj h
      exact hQ _ _ ⟨qA, hfr, rfl, q1, rfl, q2, rfl, b3, k8, l8, m8, rfl, rfl, rfl⟩
     ·refine EL_s rfl rfl q8 rfl rfl ?_
      refine EL_s rfl rfl q8 rfl rfl ?_
      refine EL_y (.bool false) (P_pick (b := (decide (y8 < (0 : Int)))) rfl (pick_f q8 rfl)) rfl rfl i6 rfl ?_
      refine EL_p (.bool false) (P_pick (b := (decide (o0 ≥ (0 : Int)))) rfl (pick_f i6 rfl)) rfl ?_
      refine EL_nil ?_
      obtain rfl := sinj h
      exact hQ _ _ ⟨qA, hfr, rfl, q1, rfl, q2, rfl, b3, k8, l8, m8, rfl, rfl, rfl⟩
   ·refine EL_s rfl rfl n8 rfl rfl ?_
    refine EL_s rfl rfl n8 rfl rfl ?_
    refine EL_p (.bool false) (P_pick (b := (decide (y8 ≥ (0 : Int)))) rfl (pick_f n8 rfl)) rfl ?_
    refine EL_mw (.bool false) rfl rfl ?_
    refine EL_y (.int .i64 (y8)) (P_move rfl) rfl rfl rfl rfl ?_
    refine EL_y (.bool ((decide (y8 < (0 : Int))))) (P_int rfl rfl rfl) rfl rfl rfl rfl ?_
    refine EL_y (.bool ((decide (y8 < (0 : Int))))) (P_move rfl) rfl rfl rfl rfl ?_
    rcases csome h with ⟨r8, h⟩ | ⟨r8, h⟩
    ·refine EL_y (.int .i64 (o0)) (P_move rfl) rfl rfl r8 rfl ?_
     refine EL_y (.bool ((decide (o0 < (0 : Int))))) (P_int rfl rfl rfl) rfl rfl r8 rfl ?_
     refine EL_y (.bool ((decide (o0 < (0 : Int))))) (P_pick (b := (decide (y8 < (0 : Int)))) rfl (pick_t r8 rfl)) rfl rfl rfl rfl ?_
     refine EL_p (.bool ((decide (o0 < (0 : Int))))) (P_pick (b := false) rfl (pick_f rfl rfl)) rfl ?_
     refine EL_nil ?_
     obtain rfl := sinj h
     exact hQ _ _ ⟨qA, hfr, rfl, q1, rfl, q2, rfl, b3, k8, l8, m8, rfl, rfl, rfl⟩
    ·refine EL_s rfl rfl r8 rfl rfl ?_
     refine EL_s rfl rfl r8 rfl rfl ?_
     refine EL_y (.bool false) (P_pick (b := (decide (y8 < (0 : Int)))) rfl (pick_f r8 rfl)) rfl rfl rfl rfl ?_
     refine EL_p (.bool false) (P_pick (b := false) rfl (pick_f rfl rfl)) rfl ?_
     refine EL_nil ?_
     obtain rfl := sinj h
     exact hQ _ _ ⟨qA, hfr, rfl, q1, rfl, q2, rfl, b3, k8, l8, m8, rfl, rfl, rfl⟩
  ·clear hx
   obtain ⟨eC, hfr, iB, jB, iD, jD, bA, lB, u4_0_55, u4_1_55, u4_2_55, kD, lD, rA⟩ := hR
   rcases csome h with ⟨aB, h⟩ | ⟨aB, h⟩
   ·refine E_cond_true (Eq.trans (show ev _ _ = .bool (i8) from rA) (congrArg Value.bool aB)) ?_
    refine E_seq (E_region (EL_do .plain rfl (D_load (g := eC) Try.isAgg25 Try.sizeOf25 iB jB fun xG yG => ?_)))
    refine EL_do .plain rfl (D_storeOc (g := eC) (v := xG) Try.sizeOf25 bA lB rfl yG fun tI uI hs b58 cb => ?_)
    clear cb
    have hfr := hfr.stp hs
    refine EL_at (.int .i64 (0)) rfl rfl ?_
    refine EL_at (.int .i64 (0)) rfl rfl ?_
    refine EL_at (.bool false) rfl rfl ?_
    refine EL_nil (thn_n (E_ret (thn_r ?_)))
    obtain rfl := sinj h
    obtain ⟨ad59, cv59, hp59, oE, cr59⟩ := ob_read Try.isAgg25 Try.sizeOf25 b58
    exact endm_cttt rfl rfl ((show _ = p3 from bA).trans hp59) oE (show _ = .int .i64 (0) from rfl) (show _ = .int .i64 (0) from rfl) (show _ = .bool false from rfl) ⟨_, hfr, _, _, _, _, rfl, cr59, rfl, rfl, rfl⟩
   ·refine E_cond_false (Eq.trans (show ev _ _ = .bool (i8) from rA) (congrArg Value.bool aB)) ?_
    exact E_skip (thn_n (nE ((⟨[], [], []⟩ : BoxLoom)) _ _ ⟨eC, hfr, iB, jB, iD, jD, bA, lB, u4_0_55, u4_1_55, u4_2_55, kD, lD⟩ h))
 ·rintro v8 kH vI ⟨iE, hfr, gA, u3, a9, i3, mB, i5, u4_0_60, u4_1_60, u4_2_60, d9, iA⟩ h
  refine E_seq (E_region (EL_do .plain rfl (D_load (g := iE) Try.isAgg25 Try.sizeOf25 gA u3 fun zG aH => ?_)))
  obtain ⟨y63, rE, h⟩ := bsome h
  refine EL_do .plain rfl (D_callG (g := iE) (vs := [zG]) en50 (.cons rfl .nil) (W50 (iO := 4037) aH rE) fun bH xI v62 hs hm62 => ?_)
  have hfr := hfr.ext hs
  have u3 := u3.ext hs
  have i3 := i3.ext hs
  have u4_0_60 := u4_0_60.ext hs
  have u4_1_60 := u4_1_60.ext hs
  have u4_2_60 := u4_2_60.ext hs
  have i5 := i5.ext hs
  obtain ⟨sk62, ow62, ok62⟩ := hm62
  refine EL_do .plain rfl (D_allocOc (g := bH) 2010 (⟨[], [], []⟩ : BoxLoom) Try.zeroValue25 (fun m w => ⟨_, (rep_two rep_nil (rep_two rep_nil rep_nil)), rfl⟩) fun nB iC lC hs b65 cb => ?_)
  have hfr := hfr.stp hs
  have u3 := u3.stp hs
  have i3 := i3.stp hs
  have u4_0_60 := u4_0_60.stp hs rfl
  have u4_1_60 := u4_1_60.stp hs rfl
  have u4_2_60 := u4_2_60.stp hs rfl
  have i5 := i5.stp hs rfl
  have ow62 := ow62.stp hs rfl
  have cH : OSF 2010 61000 0 nB iC 3 25 ([] : List Int) lC := cb.osf (by rfl)
  have dH : OSF 2010 61001 1 nB iC 3 25 ([] : List Int) lC := cb.osf (by rfl)
  have gH : OSF 2010 61002 2 nB iC 87 25 ([] : List BoxShuttle) lC := cb.osf (by rfl)
  clear cb
  refine EL_do .plain rfl (D_storeOW (g := nB) Try.sizeOf25 rfl b65 rfl ow62 rfl fun gj66 jE kE bk66 hsa hsb hpp b66 => ?_)
  have hfr := hfr.stp hsa
  have u3 := u3.stp hsa
  have i3 := i3.stp hsa
  have u4_0_60 := u4_0_60.stp hsa rfl
  have u4_1_60 := u4_1_60.stp hsa rfl
  have u4_2_60 := u4_2_60.stp hsa rfl
  have i5 := i5.stp hsa rfl
  have hfr := hfr.stp hsb
  have u3 := u3.stp hsb
  have i3 := i3.stp hsb
  have u4_0_60 := u4_0_60.stp hsb rfl
  have u4_1_60 := u4_1_60.stp hsb rfl
  have u4_2_60 := u4_2_60.stp hsb rfl
  have i5 := i5.stp hsb rfl
  clear hsa hsb
  subst hpp
  refine EL_nil (thn_n (E_seq (E_region (EL_mv d9 rfl ?_))))
  refine EL_at (.int .i64 (y8)) rfl rfl ?_
  refine EL_nil (thn_n ?_)
  obtain ⟨⟨d7, i7⟩, hx, h⟩ := bsome h
  refine E_join (fun e w => ∃ (g : Gh) , Fr gI wI g w ∧ e 2 = p1 ∧ PT g.m w (x0 : BoxLoom) p1 ∧ e 3 = p2 ∧ PT g.m w (x1 : BoxPick) p2 ∧ e 4 = p3 ∧ OB 2004 g w 25 (v8 : BoxLoom) p3 ∧ OSF 2004 60400 0 g w 3 25 ((v8).Boxes) p3 ∧ OSF 2004 60401 1 g w 3 25 ((v8).At) p3 ∧ OSF 2004 60402 2 g w 87 25 ((v8).Shuttles) p3 ∧ e 10 = (Value.pointer (some ⟨bk66, 0, none⟩)) ∧ OVb ow_BoxLoom 2010 g w 25 (d7 : BoxLoom) bk66 ∧ e 11 = .int .i64 (i7)) (fun Q' hQ => ?_) (fun iH lH hR => ?_)
  ·replace h := hx
   clear hx
   refine E_seq (E_region (EL_mv d9 rfl ?_))
   refine EL_in (.bool ((decide (y8 ≥ (0 : Int))))) rfl rfl rfl rfl ?_
   refine EL_nil (thn_n ?_)
   rcases csome h with ⟨jA, h⟩ | ⟨jA, h⟩
   ·refine E_ct jA rfl ?_
    have sE := PT_field (part_BoxPick_1).1 i3
    refine L_load (x := .tmp 47) Try.isAgg3 Try.sizeOf3 sE fun mH tE mD => ?_
    obtain rfl := RV_int.1 tE
    obtain ⟨y180, k9, h⟩ := bsome h
    obtain ⟨bb181, cc181, ss181, hq181, oB⟩ := (OV.slice b66 (Cxt.fld (Cxt.root ow_BoxLoom bk66) fl_BoxLoom_2 (y63) (sk62)) rfl rfl ((ok62.2).2)).2 k9
    obtain ⟨y9, mA, h⟩ := bsome h
    refine E_drawG (g := jE) (w := kE) (i := 2010) (A0 := fun g w => OV ow_BoxLoom 2010 g w 25 (y63 : BoxLoom) bk66 sk62) (A1 := fun g w => OV ow_BoxLoom 2010 g w 25 (({ y63 with Shuttles := (List.set ((y63).Shuttles) (Int.toNat y8) ({ y180 with Side := (1 : Int) } : BoxShuttle)) } : BoxLoom) : BoxLoom) bk66 sk62) b66 up_ov (n := 13) [(10, (fun _ g w => OV ow_BoxLoom 2010 g w 25 (({ y63 with Shuttles := (List.set ((y63).Shuttles) (Int.toNat y8) ({ y180 with Side := (1 : Int) } : BoxShuttle)) } : BoxLoom) : BoxLoom) bk66 sk62))] [0, 1, 2, 3, 4, 5, 6, 7, 8, 9, 10, 11, 12] rfl mixed (by kernel_rfl) (⟨fun _ => up_box, trivial⟩) ?_
    refine L_p ((.pointer (some ⟨bk66, (0 + 2), none⟩))) rfl rfl (P_fieldAddrH at_25_2 rfl) ?_
    refine L_val (c := (hdrV (Prod.snd (Prod.snd sk62)) ((y63).Shuttles).length)) rfl rfl .plain (fun g w hd => loadHAB (Cxt.fld (Cxt.root ow_BoxLoom bk66) fl_BoxLoom_2 (y63) (sk62)) rfl rfl (Cxt.fld (Cxt.root ow_BoxLoom bk66) fl_BoxLoom_2 (({ y63 with Shuttles := (List.set ((y63).Shuttles) (Int.toNat y8) ({ y180 with Side := (1 : Int) } : BoxShuttle)) } : BoxLoom)) (sk62)) rfl rfl (by simp) ((ok62.2).2) Try.isAgg23 rfl hd.1.2) ?_
    refine L_p (.int .i64 (y8)) rfl rfl (P_move d9) ?_
    refine L_p ((.pointer (some ⟨bk66, (0 + 2), none⟩))) rfl rfl (P_fieldAddrH at_25_2 rfl) ?_
    refine L_val (c := (hdrV (Prod.snd (Prod.snd sk62)) ((y63).Shuttles).length)) rfl rfl .plain (fun g w hd => loadHAB (Cxt.fld (Cxt.root ow_BoxLoom bk66) fl_BoxLoom_2 (y63) (sk62)) rfl rfl (Cxt.fld (Cxt.root ow_BoxLoom bk66) fl_BoxLoom_2 (({ y63 with Shuttles := (List.set ((y63).Shuttles) (Int.toNat y8) ({ y180 with Side := (1 : Int) } : BoxShuttle)) } : BoxLoom)) (sk62)) rfl rfl (by simp) ((ok62.2).2) Try.isAgg23 rfl hd.1.2) ?_
    refine L_p (.int .i64 (y8)) rfl rfl (P_move d9) ?_
    refine L_p (fPtr p2 1) rfl rfl (P_fieldAddr at_83_1 a9 (PT.ptr i3)) ?_
    refine L_ld (c := .int .i64 ((x1).Right)) rfl rfl .plain (fun _ _ h => h.1.ch) mD rfl ?_
    refine L_p ((.pointer (some ⟨bb181, ((Int.toNat y8) * 5), none⟩))) rfl rfl (P_indexH Try.underlying23 Try.sizeOf87 (rfl.trans (hdr_at hq181 _)) rfl (idx_nat k9)) ?_
    refine L_p ((.pointer (some ⟨bb181, (((Int.toNat y8) * 5) + 1), none⟩))) rfl rfl (P_fieldAddrH at_87_1 rfl) ?_
    refine L_do (φ := fun _ g w => OV ow_BoxLoom 2010 g w 25 (({ y63 with Shuttles := (List.set ((y63).Shuttles) (Int.toNat y8) ({ y180 with Side := (1 : Int) } : BoxShuttle)) } : BoxLoom) : BoxLoom) bk66 sk62) rfl rfl .plain (fun g w hd => D_storeOVR (g := g) (u' := ((1 : Int) : Int)) (Cxt.fld (Cxt.idx (Cxt.fld (Cxt.root ow_BoxLoom bk66) fl_BoxLoom_2 (y63) (sk62)) ((y63).Shuttles) (Int.toNat y8) bb181 cc181 ss181 (idx_nat k9).2 oB) fl_BoxShuttle_1 (y180) (())) ((congrArg (fun q => ({ y63 with Shuttles := q } : BoxLoom)) (set_idx k9)).trans rfl) rfl (((congrArg (fun q => (Prod.fst sk62, (Prod.fst (Prod.snd sk62), (Sl.at bb181 cc181 q)))) set_unit).trans (congrArg (fun q => (Prod.fst sk62, (Prod.fst (Prod.snd sk62), q))) (hq181).symm)).trans rfl) Try.sizeOf3 rfl hd.1.2 rfl (RV_int.2 rfl)) (fun nH hv => ?_)
    clear hv
    refine L_p ((.pointer (some ⟨bb181, ((Int.toNat y8) * 5), none⟩))) rfl rfl (P_indexH Try.underlying23 Try.sizeOf87 (rfl.trans (hdr_at hq181 _)) rfl (by simpa using idx_nat mA)) ?_
    refine L_p ((.pointer (some ⟨bb181, (((Int.toNat y8) * 5) + 2), none⟩))) rfl rfl (P_fieldAddrH at_87_2 rfl) ?_
    refine L_nil fun uE oH hall => ?_
    have hs := hall.1.1
    have hfr := hfr.stp hs
    have u3 := u3.stp hs
    have i3 := i3.stp hs
    have u4_0_60 := u4_0_60.stp hs rfl
    have u4_1_60 := u4_1_60.stp hs rfl
    have u4_2_60 := u4_2_60.stp hs rfl
    have i5 := i5.stp hs rfl
    have b195 := (word_all (A := fun g w => OV ow_BoxLoom 2010 g w 25 (({ y63 with Shuttles := (List.set ((y63).Shuttles) (Int.toNat y8) ({ y180 with Side := (1 : Int) } : BoxShuttle)) } : BoxLoom) : BoxLoom) bk66 sk62) 10 rfl hall)
    clear hs hall
    refine EL_do .plain rfl (D_storeOV (g := uE) (u' := ((x1).Right : Int)) (Cxt.fld (Cxt.idx (Cxt.fld (Cxt.root ow_BoxLoom bk66) fl_BoxLoom_2 (({ y63 with Shuttles := (List.set ((y63).Shuttles) (Int.toNat y8) ({ y180 with Side := (1 : Int) } : BoxShuttle)) } : BoxLoom)) (sk62)) ((({ y63 with Shuttles := (List.set ((y63).Shuttles) (Int.toNat y8) ({ y180 with Side := (1 : Int) } : BoxShuttle)) } : BoxLoom)).Shuttles) (Int.toNat y8) bb181 cc181 ss181 (idx_nat mA).2 (by simpa using oB)) fl_BoxShuttle_2 (y9) (())) ((congrArg (fun q => ({ (({ y63 with Shuttles := (List.set ((y63).Shuttles) (Int.toNat y8) ({ y180 with Side := (1 : Int) } : BoxShuttle)) } : BoxLoom)) with Shuttles := q } : BoxLoom)) (set_idx mA)).trans rfl) (((congrArg (fun q => (Prod.fst sk62, (Prod.fst (Prod.snd sk62), (Sl.at bb181 cc181 q)))) set_unit).trans (congrArg (fun q => (Prod.fst sk62, (Prod.fst (Prod.snd sk62), q))) (hq181).symm)).trans rfl) Try.sizeOf3 rfl b195 rfl (RV_int.2 rfl) fun mC vE hs b213 => ?_)
    have hfr := hfr.stp hs
    have u3 := u3.stp hs
    have i3 := i3.stp hs
    have u4_0_60 := u4_0_60.stp hs rfl
    have u4_1_60 := u4_1_60.stp hs rfl
    have u4_2_60 := u4_2_60.stp hs rfl
    have i5 := i5.stp hs rfl
    replace b213 : OV ow_BoxLoom 2010 mC vE 25 (({ (({ y63 with Shuttles := (List.set ((y63).Shuttles) (Int.toNat y8) ({ y180 with Side := (1 : Int) } : BoxShuttle)) } : BoxLoom)) with Shuttles := (List.set ((({ y63 with Shuttles := (List.set ((y63).Shuttles) (Int.toNat y8) ({ y180 with Side := (1 : Int) } : BoxShuttle)) } : BoxLoom)).Shuttles) (Int.toNat y8) ({ y9 with Box := (x1).Right } : BoxShuttle)) } : BoxLoom) : BoxLoom) bk66 sk62 := b213
    refine EL_nil ?_
    obtain ⟨rfl, rfl⟩ := pairs2 h
    exact hQ _ _ ⟨mC, hfr, gA, u3, a9, i3, mB, i5, u4_0_60, u4_1_60, u4_2_60, rfl, ⟨_, b213, ok62⟩, rfl⟩
   ·refine E_cf jA rfl ?_
    refine E_seq (E_region (EL_mv iA rfl ?_))
    refine EL_at (.int .i64 (o0)) rfl rfl ?_
    refine EL_nil (thn_n ?_)
    have xE := PT_field (part_BoxPick_0).1 i3
    refine L_load (x := .tmp 60) Try.isAgg3 Try.sizeOf3 xE fun pH yE nD => ?_
    obtain rfl := RV_int.1 yE
    obtain ⟨x5, l9, h⟩ := bsome h
    obtain ⟨bb229, cc229, ss229, hq229, tB⟩ := (OV.slice b66 (Cxt.fld (Cxt.root ow_BoxLoom bk66) fl_BoxLoom_2 (y63) (sk62)) rfl rfl ((ok62.2).2)).2 l9
    obtain ⟨z9, pA, h⟩ := bsome h
    refine E_drawG (g := jE) (w := kE) (i := 2010) (A0 := fun g w => OV ow_BoxLoom 2010 g w 25 (y63 : BoxLoom) bk66 sk62) (A1 := fun g w => OV ow_BoxLoom 2010 g w 25 (({ y63 with Shuttles := (List.set ((y63).Shuttles) (Int.toNat o0) ({ x5 with Side := (0 : Int) } : BoxShuttle)) } : BoxLoom) : BoxLoom) bk66 sk62) b66 up_ov (n := 13) [(10, (fun _ g w => OV ow_BoxLoom 2010 g w 25 (({ y63 with Shuttles := (List.set ((y63).Shuttles) (Int.toNat o0) ({ x5 with Side := (0 : Int) } : BoxShuttle)) } : BoxLoom) : BoxLoom) bk66 sk62))] [0, 1, 2, 3, 4, 5, 6, 7, 8, 9, 10, 11, 12] rfl mixed (by kernel_rfl) (⟨fun _ => up_box, trivial⟩) ?_
    refine L_p ((.pointer (some ⟨bk66, (0 + 2), none⟩))) rfl rfl (P_fieldAddrH at_25_2 rfl) ?_
    refine L_val (c := (hdrV (Prod.snd (Prod.snd sk62)) ((y63).Shuttles).length)) rfl rfl .plain (fun g w hd => loadHAB (Cxt.fld (Cxt.root ow_BoxLoom bk66) fl_BoxLoom_2 (y63) (sk62)) rfl rfl (Cxt.fld (Cxt.root ow_BoxLoom bk66) fl_BoxLoom_2 (({ y63 with Shuttles := (List.set ((y63).Shuttles) (Int.toNat o0) ({ x5 with Side := (0 : Int) } : BoxShuttle)) } : BoxLoom)) (sk62)) rfl rfl (by simp) ((ok62.2).2) Try.isAgg23 rfl hd.1.2) ?_
    refine L_p (.int .i64 (o0)) rfl rfl (P_move iA) ?_
    refine L_p ((.pointer (some ⟨bk66, (0 + 2), none⟩))) rfl rfl (P_fieldAddrH at_25_2 rfl) ?_
    refine L_val (c := (hdrV (Prod.snd (Prod.snd sk62)) ((y63).Shuttles).length)) rfl rfl .plain (fun g w hd => loadHAB (Cxt.fld (Cxt.root ow_BoxLoom bk66) fl_BoxLoom_2 (y63) (sk62)) rfl rfl (Cxt.fld (Cxt.root ow_BoxLoom bk66) fl_BoxLoom_2 (({ y63 with Shuttles := (List.set ((y63).Shuttles) (Int.toNat o0) ({ x5 with Side := (0 : Int) } : BoxShuttle)) } : BoxLoom)) (sk62)) rfl rfl (by simp) ((ok62.2).2) Try.isAgg23 rfl hd.1.2) ?_
    refine L_p (.int .i64 (o0)) rfl rfl (P_move iA) ?_
    refine L_p (fPtr p2 0) rfl rfl (P_fieldAddr at_83_0 a9 (PT.ptr i3)) ?_
    refine L_ld (c := .int .i64 ((x1).Left)) rfl rfl .plain (fun _ _ h => h.1.ch) nD rfl ?_
    refine L_p ((.pointer (some ⟨bb229, ((Int.toNat o0) * 5), none⟩))) rfl rfl (P_indexH Try.underlying23 Try.sizeOf87 (rfl.trans (hdr_at hq229 _)) rfl (idx_nat l9)) ?_
    refine L_p ((.pointer (some ⟨bb229, (((Int.toNat o0) * 5) + 1), none⟩))) rfl rfl (P_fieldAddrH at_87_1 rfl) ?_
    refine L_do (φ := fun _ g w => OV ow_BoxLoom 2010 g w 25 (({ y63 with Shuttles := (List.set ((y63).Shuttles) (Int.toNat o0) ({ x5 with Side := (0 : Int) } : BoxShuttle)) } : BoxLoom) : BoxLoom) bk66 sk62) rfl rfl .plain (fun g w hd => D_storeOVR (g := g) (u' := ((0 : Int) : Int)) (Cxt.fld (Cxt.idx (Cxt.fld (Cxt.root ow_BoxLoom bk66) fl_BoxLoom_2 (y63) (sk62)) ((y63).Shuttles) (Int.toNat o0) bb229 cc229 ss229 (idx_nat l9).2 tB) fl_BoxShuttle_1 (x5) (())) ((congrArg (fun q => ({ y63 with Shuttles := q } : BoxLoom)) (set_idx l9)).trans rfl) rfl (((congrArg (fun q => (Prod.fst sk62, (Prod.fst (Prod.snd sk62), (Sl.at bb229 cc229 q)))) set_unit).trans (congrArg (fun q => (Prod.fst sk62, (Prod.fst (Prod.snd sk62), q))) (hq229).symm)).trans rfl) Try.sizeOf3 rfl hd.1.2 rfl (RV_int.2 rfl)) (fun qH hv => ?_)
    clear hv
    refine L_p ((.pointer (some ⟨bb229, ((Int.toNat o0) * 5), none⟩))) rfl rfl (P_indexH Try.underlying23 Try.sizeOf87 (rfl.trans (hdr_at hq229 _)) rfl (by simpa using idx_nat pA)) ?_
    refine L_p ((.pointer (some ⟨bb229, (((Int.toNat o0) * 5) + 2), none⟩))) rfl rfl (P_fieldAddrH at_87_2 rfl) ?_
    refine L_nil fun zE sH hall => ?_
    have hs := hall.1.1
    have hfr := hfr.stp hs
    have u3 := u3.stp hs
    have i3 := i3.stp hs
    have u4_0_60 := u4_0_60.stp hs rfl
    have u4_1_60 := u4_1_60.stp hs rfl
    have u4_2_60 := u4_2_60.stp hs rfl
    have i5 := i5.stp hs rfl
    have b243 := (word_all (A := fun g w => OV ow_BoxLoom 2010 g w 25 (({ y63 with Shuttles := (List.set ((y63).Shuttles) (Int.toNat o0) ({ x5 with Side := (0 : Int) } : BoxShuttle)) } : BoxLoom) : BoxLoom) bk66 sk62) 10 rfl hall)
    clear hs hall
    refine EL_do .plain rfl (D_storeOV (g := zE) (u' := ((x1).Left : Int)) (Cxt.fld (Cxt.idx (Cxt.fld (Cxt.root ow_BoxLoom bk66) fl_BoxLoom_2 (({ y63 with Shuttles := (List.set ((y63).Shuttles) (Int.toNat o0) ({ x5 with Side := (0 : Int) } : BoxShuttle)) } : BoxLoom)) (sk62)) ((({ y63 with Shuttles := (List.set ((y63).Shuttles) (Int.toNat o0) ({ x5 with Side := (0 : Int) } : BoxShuttle)) } : BoxLoom)).Shuttles) (Int.toNat o0) bb229 cc229 ss229 (idx_nat pA).2 (by simpa using tB)) fl_BoxShuttle_2 (z9) (())) ((congrArg (fun q => ({ (({ y63 with Shuttles := (List.set ((y63).Shuttles) (Int.toNat o0) ({ x5 with Side := (0 : Int) } : BoxShuttle)) } : BoxLoom)) with Shuttles := q } : BoxLoom)) (set_idx pA)).trans rfl) (((congrArg (fun q => (Prod.fst sk62, (Prod.fst (Prod.snd sk62), (Sl.at bb229 cc229 q)))) set_unit).trans (congrArg (fun q => (Prod.fst sk62, (Prod.fst (Prod.snd sk62), q))) (hq229).symm)).trans rfl) Try.sizeOf3 rfl b243 rfl (RV_int.2 rfl) fun qC cF hs b262 => ?_)
    have hfr := hfr.stp hs
    have u3 := u3.stp hs
    have i3 := i3.stp hs
    have u4_0_60 := u4_0_60.stp hs rfl
    have u4_1_60 := u4_1_60.stp hs rfl
    have u4_2_60 := u4_2_60.stp hs rfl
    have i5 := i5.stp hs rfl
    replace b262 : OV ow_BoxLoom 2010 qC cF 25 (({ (({ y63 with Shuttles := (List.set ((y63).Shuttles) (Int.toNat o0) ({ x5 with Side := (0 : Int) } : BoxShuttle)) } : BoxLoom)) with Shuttles := (List.set ((({ y63 with Shuttles := (List.set ((y63).Shuttles) (Int.toNat o0) ({ x5 with Side := (0 : Int) } : BoxShuttle)) } : BoxLoom)).Shuttles) (Int.toNat o0) ({ z9 with Box := (x1).Left } : BoxShuttle)) } : BoxLoom) : BoxLoom) bk66 sk62 := b262
    refine EL_nil ?_
    obtain ⟨rfl, rfl⟩ := pairs2 h
    exact hQ _ _ ⟨qC, hfr, gA, u3, a9, i3, mB, i5, u4_0_60, u4_1_60, u4_2_60, rfl, ⟨_, b262, ok62⟩, rfl⟩
  ·clear hx
   obtain ⟨dF, hfr, x8, j6, j7, l5, yA, t5, u4_0_263, u4_1_263, u4_2_263, u9, ⟨t8, m7, n9⟩, cC⟩ := hR
   refine E_seq ?_
   have eF := PT_field (part_BoxPick_0).1 l5
   refine L_load (x := .tmp 66) Try.isAgg3 Try.sizeOf3 eF fun tH iF oD => ?_
   obtain rfl := RV_int.1 iF
   have nF := PT_field (part_BoxLoom_1).1 j6
   refine L_load (x := .tmp 68) Try.isAgg22 Try.sizeOf22 nF fun rC uC sD => ?_
   obtain ⟨x6, vB, h⟩ := bsome h
   have oF := PT_idx uC vB
   refine L_load (x := .tmp 70) Try.isAgg3 Try.sizeOf3 oF fun uH pF tD => ?_
   obtain rfl := RV_int.1 pF
   have qF := PT_field (part_BoxPick_0).1 l5
   refine L_load (x := .tmp 73) Try.isAgg3 Try.sizeOf3 qF fun xH rF uD => ?_
   obtain rfl := RV_int.1 rF
   have sF := PT_field (part_BoxLoom_1).1 j6
   refine L_load (x := .tmp 75) Try.isAgg22 Try.sizeOf22 sF fun vC aD vD => ?_
   obtain ⟨y6, yB, h⟩ := bsome h
   have tF := PT_idx aD yB
   refine L_load (x := .tmp 77) Try.isAgg3 Try.sizeOf3 tF fun yH uF xD => ?_
   obtain rfl := RV_int.1 uF
   have vF := PT_field (part_BoxPick_1).1 l5
   refine L_load (x := .tmp 81) Try.isAgg3 Try.sizeOf3 vF fun zH xF yD => ?_
   obtain rfl := RV_int.1 xF
   have yF := PT_field (part_BoxLoom_1).1 j6
   refine L_load (x := .tmp 83) Try.isAgg22 Try.sizeOf22 yF fun bD cD zD => ?_
   obtain ⟨a7, zB, h⟩ := bsome h
   have zF := PT_idx cD zB
   refine L_load (x := .tmp 85) Try.isAgg3 Try.sizeOf3 zF fun aI aG aE => ?_
   obtain rfl := RV_int.1 aG
   have bG := PT_field (part_BoxPick_1).1 l5
   refine L_load (x := .tmp 89) Try.isAgg3 Try.sizeOf3 bG fun bI cG bE => ?_
   obtain rfl := RV_int.1 cG
   have dG := PT_field (part_BoxLoom_1).1 j6
   refine L_load (x := .tmp 91) Try.isAgg22 Try.sizeOf22 dG fun eD gD cE => ?_
   obtain ⟨g8, aC, h⟩ := bsome h
   have eG := PT_idx gD aC
   refine L_load (x := .tmp 93) Try.isAgg3 Try.sizeOf3 eG fun cI gG dE => ?_
   obtain rfl := RV_int.1 gG
   refine E_drawL (g := dF) (n := 32) [] [0, 1, 2, 3, 4, 5, 6, 7, 8, 9, 10, 11, 12, 13, 14, 15, 16, 17, 18, 19, 20, 21, 22, 23, 24, 25, 26, 27, 28, 29, 30, 31] rfl mixed (by kernel_rfl) trivial ?_
   refine L_p (fPtr p2 0) rfl rfl (P_fieldAddr at_83_0 j7 (PT.ptr l5)) ?_
   refine L_ld (c := .int .i64 ((x1).Left)) rfl rfl .plain (fun _ _ h => h.ch) oD rfl ?_
   refine L_p (fPtr p1 1) rfl rfl (P_fieldAddr at_25_1 x8 (PT.ptr j6)) ?_
   refine L_ld (c := rC) rfl rfl .plain (fun _ _ h => h.ch) sD rfl ?_
   refine L_p (ePtr rC (0 : Int) 1) rfl rfl (P_indexAddr (α := Int) Try.underlying22 Try.sizeOf3 rfl uC rfl vB) ?_
   refine L_ld (c := .int .i64 (x6)) rfl rfl .plain (fun _ _ h => h.ch) tD rfl ?_
   refine L_p (.int .i64 (max64 (x1).Left x6)) rfl rfl (P_max rfl rfl) ?_
   refine L_p (fPtr p2 0) rfl rfl (P_fieldAddr at_83_0 j7 (PT.ptr l5)) ?_
   refine L_ld (c := .int .i64 ((x1).Left)) rfl rfl .plain (fun _ _ h => h.ch) uD rfl ?_
   refine L_p (fPtr p1 1) rfl rfl (P_fieldAddr at_25_1 x8 (PT.ptr j6)) ?_
   refine L_ld (c := vC) rfl rfl .plain (fun _ _ h => h.ch) vD rfl ?_
   refine L_p (ePtr vC (0 : Int) 1) rfl rfl (P_indexAddr (α := Int) Try.underlying22 Try.sizeOf3 rfl aD rfl yB) ?_
   refine L_ld (c := .int .i64 (y6)) rfl rfl .plain (fun _ _ h => h.ch) xD rfl ?_
   refine L_p (.int .i64 (min64 (x1).Left y6)) rfl rfl (P_min rfl rfl) ?_
   refine L_p (.int .i64 ((w64 ((max64 (x1).Left x6) - (min64 (x1).Left y6))))) rfl rfl (P_int rfl rfl rfl) ?_
   refine L_p (fPtr p2 1) rfl rfl (P_fieldAddr at_83_1 j7 (PT.ptr l5)) ?_
   refine L_ld (c := .int .i64 ((x1).Right)) rfl rfl .plain (fun _ _ h => h.ch) yD rfl ?_
   refine L_p (fPtr p1 1) rfl rfl (P_fieldAddr at_25_1 x8 (PT.ptr j6)) ?_
   refine L_ld (c := bD) rfl rfl .plain (fun _ _ h => h.ch) zD rfl ?_
   refine L_p (ePtr bD (1 : Int) 1) rfl rfl (P_indexAddr (α := Int) Try.underlying22 Try.sizeOf3 rfl cD rfl zB) ?_
   refine L_ld (c := .int .i64 (a7)) rfl rfl .plain (fun _ _ h => h.ch) aE rfl ?_
   refine L_p (.int .i64 (max64 (x1).Right a7)) rfl rfl (P_max rfl rfl) ?_
   refine L_p (.int .i64 ((w64 ((w64 ((max64 (x1).Left x6) - (min64 (x1).Left y6))) + (max64 (x1).Right a7))))) rfl rfl (P_int rfl rfl rfl) ?_
   refine L_p (fPtr p2 1) rfl rfl (P_fieldAddr at_83_1 j7 (PT.ptr l5)) ?_
   refine L_ld (c := .int .i64 ((x1).Right)) rfl rfl .plain (fun _ _ h => h.ch) bE rfl ?_
   refine L_p (fPtr p1 1) rfl rfl (P_fieldAddr at_25_1 x8 (PT.ptr j6)) ?_
   refine L_ld (c := eD) rfl rfl .plain (fun _ _ h => h.ch) cE rfl ?_
   refine L_p (ePtr eD (1 : Int) 1) rfl rfl (P_indexAddr (α := Int) Try.underlying22 Try.sizeOf3 rfl gD rfl aC) ?_
   refine L_ld (c := .int .i64 (g8)) rfl rfl .plain (fun _ _ h => h.ch) dE rfl ?_
   refine L_p (.int .i64 (min64 (x1).Right g8)) rfl rfl (P_min rfl rfl) ?_
   refine L_p (.int .i64 ((w64 ((w64 ((w64 ((max64 (x1).Left x6) - (min64 (x1).Left y6))) + (max64 (x1).Right a7))) - (min64 (x1).Right g8))))) rfl rfl (P_int rfl rfl rfl) ?_
   refine L_p (.int .i64 ((w64 ((w64 ((w64 ((max64 (x1).Left x6) - (min64 (x1).Left y6))) + (max64 (x1).Right a7))) - (min64 (x1).Right g8))))) rfl rfl (P_assign rfl) ?_
   refine L_nl fun dB dI hs => ?_
   have hfr := hfr.ext hs
   have l5 := l5.ext hs
   have t5 := t5.ext hs
   have m7 := m7.ext hs
   clear hs
   refine EL_nil (thn_n (E_seq (E_region (EL_p (fPtr p2 0) (P_fieldAddr at_83_0 j7 (PT.ptr l5)) rfl ?_))))
   have hG := PT_field (part_BoxPick_0).1 l5
   refine EL_do .plain rfl (D_load (g := dB) Try.isAgg3 Try.sizeOf3 rfl hG fun iI iG => ?_)
   obtain rfl := RV_int.1 iG
   refine EL_p (fPtr p2 1) (P_fieldAddr at_83_1 j7 (PT.ptr l5)) rfl ?_
   have jG := PT_field (part_BoxPick_1).1 l5
   refine EL_do .plain rfl (D_load (g := dB) Try.isAgg3 Try.sizeOf3 rfl jG fun jI kG => ?_)
   obtain rfl := RV_int.1 kG
   refine EL_do .plain rfl (D_buildSliceA (g := dB) 4101 (xs := ([(x1).Left, (x1).Right] : List Int)) (vs := [.int .i64 ((x1).Left), .int .i64 ((x1).Right)]) Try.underlying22 Try.sizeOf3 Try.zeroValue3 rfl rfl (.cons rfl (.cons rfl .nil)) (RVs.cons (RV_int.2 rfl) (RVs.cons (RV_int.2 rfl) RVs.nil)) rfl rfl fun lG kI lI hs b334 _ => ?_)
   have hfr := hfr.stp hs
   have t5 := t5.stp hs rfl
   have m7 := m7.stp hs rfl
   refine EL_p ((.pointer (some ⟨bk66, (0 + 1), none⟩))) (P_fieldAddrH at_25_1 u9) rfl ?_
   obtain ⟨sk337, ow337, ok337⟩ := OA.toW b334
   refine EL_do .plain rfl (D_storeW (g := lG) (Cxt.fld (Cxt.root ow_BoxLoom bk66) fl_BoxLoom_1 (d7) (t8)) rfl rfl Try.sizeOf22 rfl m7 rfl ow337 rfl fun gj338 mG nG hsa hsb b338 => ?_)
   have hfr := hfr.stp hsa
   have t5 := t5.stp hsa rfl
   have hfr := hfr.stp hsb
   have t5 := t5.stp hsb rfl
   clear hsa hsb
   replace b338 : OV ow_BoxLoom 2010 mG nG 25 (({ d7 with At := ([(x1).Left, (x1).Right] : List Int) } : BoxLoom) : BoxLoom) bk66 (Prod.fst t8, (sk337, Prod.snd (Prod.snd t8))) := b338
   refine EL_nil (thn_n (E_seq (E_region ?_)))
   obtain ⟨go340, hs, b340⟩ := OV.toOB b338 ⟨(n9.1), ⟨ok337, ((n9.2).2)⟩⟩
   have hfr := hfr.stp hs
   have t5 := t5.stp hs rfl
   refine EL_do .plain rfl (D_loadO (g := go340) Try.isAgg25 Try.sizeOf25 u9 b340 fun oG pG => ?_)
   refine EL_mv cC rfl ?_
   refine EL_p (.int .i64 ((w64 ((w64 ((w64 ((max64 (x1).Left x6) - (min64 (x1).Left y6))) + (max64 (x1).Right a7))) - (min64 (x1).Right g8))))) (P_move rfl) rfl ?_
   refine EL_do .plain rfl (D_storeOc (g := go340) (v := oG) Try.sizeOf25 yA t5 rfl pG fun mI nI hs b342 cb => ?_)
   clear cb
   have hfr := hfr.stp hs
   refine EL_at (.int .i64 (i7)) rfl rfl ?_
   refine EL_p (.int .i64 ((w64 ((w64 ((w64 ((max64 (x1).Left x6) - (min64 (x1).Left y6))) + (max64 (x1).Right a7))) - (min64 (x1).Right g8))))) (P_assign rfl) rfl ?_
   refine EL_at (.bool true) rfl rfl ?_
   refine EL_nil (thn_n (E_ret ?_))
   obtain rfl := sinj h
   obtain ⟨ad343, cv343, hp343, eE, cr343⟩ := ob_read Try.isAgg25 Try.sizeOf25 b342
   exact endm_cttt rfl rfl ((show _ = p3 from yA).trans hp343) eE (show _ = .int .i64 (i7) from rfl) (show _ = .int .i64 ((w64 ((w64 ((w64 ((max64 (x1).Left x6) - (min64 (x1).Left y6))) + (max64 (x1).Right a7))) - (min64 (x1).Right g8)))) from rfl) (show _ = .bool true from rfl) ⟨_, hfr, _, _, _, _, rfl, cr343, rfl, rfl, rfl⟩
def f76 (x0 : BoxRace) (x1 : List BoxPick) : Option (BoxRun × Int × Int) :=
 jn (σ := BoxRun) (fun q8 =>
  some (q8, (0 : Int), (0 : Int))
  ) fun yA =>
 lp (σ := BoxRun × Int) (fun aB (i6, i3) =>
  bif (decide (i3 < ((x1).length : Int))) then
   jn (σ := BoxRun) (fun i7 =>
    aB (i7, (w64 (i3 + (1 : Int))))
    ) fun dB =>
   (idx x1 i3).bind fun iB =>
   (f97 ((i6).last) iB).bind fun o0 =>
   jn (σ := BoxRun) (fun l5 =>
    (apnd 8 ((l5).thrown) (([o0.2.1] : List Int))).bind fun t5 =>
    dB ((⟨t5, o0.1, (w64 ((l5).moves + o0.2.2))⟩ : BoxRun))
    ) fun jB =>
   bif (o0.2.1 == (0 : Int)) then
    some ((⟨[], ⟨(⟨List.toArray [(⟨List.toArray [0, 0, 0, 0], rfl⟩ : Vector Int 4), (⟨List.toArray [0, 0, 0, 0], rfl⟩ : Vector Int 4)], rfl⟩ : Vector (Vector Int 4) 2), ⟨0, 0⟩⟩, 0⟩ : BoxRun), i3, (9 : Int))
   else
    jB (i6)
  else
   yA (i6)
  ) big ((⟨[], x0, 0⟩ : BoxRun), (0 : Int))
theorem en76 : Enters Try.prog 76 := enters_of Try.func76 (by kernel_rfl) rfl
theorem wk76 {gI : Gh} {wI : World} {x0 : BoxRace} {x1 : List BoxPick} {up0 : Value} (rp0 : RV gI.m wI x0 up0) {up1 : Value} (rp1 : RV gI.m wI x1 up1) {r : BoxRun × Int × Int} (h : f76 x0 x1 = some r) : Fn Try.prog 76 #[up0, up1] gI wI (fun m w v => ∃ y0 y1 y2, v = .tuple #[y0, y1, y2] ∧ RV m w (r.1) y0 ∧ y1 = .int .i64 (r.2.1) ∧ y2 = .int .i64 (r.2.2)) := by
 unfold f76 at h
 refine fn_of_E Try.func76 rfl (Nat.le_of_ble_eq_true rfl) fun g0 hm hfr => ?_
 have rp0 : RV g0.m wI x0 up0 := hm ▸ rp0
 have rp1 : RV g0.m wI x1 up1 := hm ▸ rp1
 show E _ 46 none _ _ _ _ _
 refine E_seq (E_region (EL_do .plain rfl (D_box (g := g0) rfl rp0 fun g1 w1 p1 hs q1 => ?_)))
 have hfr := hfr.ext hs
 have rp1 := rp1.ext hs
 refine EL_do .plain rfl (D_allocOc (g := g1) 2004 (⟨[], ⟨(⟨List.toArray [(⟨List.toArray [0, 0, 0, 0], rfl⟩ : Vector Int 4), (⟨List.toArray [0, 0, 0, 0], rfl⟩ : Vector Int 4)], rfl⟩ : Vector (Vector Int 4) 2), ⟨0, 0⟩⟩, 0⟩ : BoxRun) Try.zeroValue129 (fun m w => ⟨_, (rep_two rep_nil (rep_two (rep_two (rep_vec (flat_chunk (rep_vec (flat_chunk rep_int (flat_chunk rep_int (flat_chunk rep_int (flat_chunk rep_int flat_nil)))) rfl) (flat_chunk (rep_vec (flat_chunk rep_int (flat_chunk rep_int (flat_chunk rep_int (flat_chunk rep_int flat_nil)))) rfl) flat_nil)) rfl) (rep_two rep_int rep_int)) rep_int)), rfl⟩) fun g2 w2 p2 hs b2 cb => ?_)
 have hfr := hfr.stp hs
 have rp1 := rp1.stp hs
 have q1 := q1.stp hs
 have t8 : OSF 2004 60400 0 g2 w2 3 129 ([] : List Int) p2 := cb.osf (by rfl)
 clear cb
 refine EL_at (.int .i64 (0)) rfl rfl ?_
 refine EL_at (.int .i64 (0)) rfl rfl ?_
 refine EL_nil (thn_n (E_seq (E_region (EL_do .plain rfl (D_load (g := g2) Try.isAgg108 Try.sizeOf108 rfl q1 fun v3 r3 => ?_)))))
 refine EL_p (fPtr p2 1) (P_fieldAddr at_129_1 rfl (OB.ptr b2)) rfl ?_
 refine EL_do .plain rfl (D_storeFc (g := g2) part_BoxRun_1 Try.sizeOf108 rfl b2 rfl r3 fun g5 w5 hs b5 rst hos => ?_)
 have t8 := t8.rest hs rst
 clear rst hos
 have hfr := hfr.stp hs
 have rp1 := rp1.stp hs
 refine EL_nil (thn_n (E_joinC h (fun (s : BoxRun) e w => ∃ (g : Gh) , Fr gI wI g w ∧ e 4 = p2 ∧ OB 2004 g w 129 (s : BoxRun) p2 ∧ OSF 2004 60400 0 g w 3 129 ((s).thrown) p2) (fun X122 yA qC h => ?_) ?_))
 ·refine E_seq (E_region (EL_mw up1 rfl rfl ?_))
  refine EL_p (.int .i64 ((x1).length : Int)) (P_len Try.underlying30 rfl rp1) rfl ?_
  refine EL_mw (.int .i64 (0)) rfl rfl ?_
  refine EL_nil (thn_n (E_block ?_))
  refine E_lp h (fun (s : BoxRun × Int) e w => ∃ (g : Gh) , Fr gI wI g w ∧ e 4 = p2 ∧ OB 2004 g w 129 (s.1 : BoxRun) p2 ∧ OSF 2004 60400 0 g w 3 129 ((s.1).thrown) p2 ∧ e 14 = up1 ∧ RV g.m w (x1 : List BoxPick) up1 ∧ e 15 = .int .i64 (((x1).length : Int)) ∧ e 16 = .int .i64 (s.2)) ⟨g5, hfr, rfl, b5, t8, rfl, rp1, rfl, rfl⟩ (fun X123 aB rC => ?_)
  rintro ⟨i6, i3⟩ rE xE ⟨v8, hfr, x6, i5, u4_0_124, g8, u3, i8, y6⟩ h
  refine E_seq (E_region (EL_in (.bool ((decide (i3 < ((x1).length : Int))))) y6 i8 rfl rfl ?_))
  refine EL_nil (thn_n (E_seq ?_))
  rcases csome h with ⟨k8, h⟩ | ⟨k8, h⟩
  ·refine E_ct k8 rfl ?_
   refine E_skip (thn_n (E_joinC h (fun (s : BoxRun) e w => ∃ (g : Gh) , Fr gI wI g w ∧ e 4 = p2 ∧ OB 2004 g w 129 (s : BoxRun) p2 ∧ OSF 2004 60400 0 g w 3 129 ((s).thrown) p2 ∧ e 14 = up1 ∧ RV g.m w (x1 : List BoxPick) up1 ∧ e 15 = .int .i64 (((x1).length : Int)) ∧ e 16 = .int .i64 (i3)) (fun X181 dB uC h => ?_) ?_))
   ·refine E_block ?_
    refine E_seq (E_region (EL_mv y6 rfl ?_))
    obtain ⟨iB, n9, h⟩ := bsome h
    refine EL_p (ePtr up1 i3 2) (P_indexAddr (α := BoxPick) Try.underlying30 Try.sizeOf83 g8 u3 y6 n9) rfl ?_
    have kD := PT_idx u3 n9
    refine EL_do .plain rfl (D_load (g := v8) Try.isAgg83 Try.sizeOf83 rfl kD fun lD x8 => ?_)
    refine EL_do .plain rfl (D_allocOc (g := v8) 2008 (⟨0, 0⟩ : BoxPick) Try.zeroValue83 (fun m w => ⟨_, (rep_two rep_int rep_int), rfl⟩) fun mD yE zE hs b185 cb => ?_)
    have hfr := hfr.stp hs
    have u4_0_124 := u4_0_124.stp hs rfl
    have i5 := i5.stp hs rfl
    have u3 := u3.stp hs
    have x8 := x8.stp hs
    clear cb
    refine EL_at (.int .i64 (i3)) rfl rfl ?_
    refine EL_do .plain rfl (D_storeOc (g := mD) (v := lD) Try.sizeOf83 rfl b185 rfl x8 fun a9 cF hs b186 cb => ?_)
    clear cb
    have hfr := hfr.stp hs
    have u4_0_124 := u4_0_124.stp hs rfl
    have i5 := i5.stp hs rfl
    have u3 := u3.stp hs
    refine EL_nil (thn_n (E_seq (E_region (EL_p (fPtr p2 1) (P_fieldAddr at_129_1 x6 (OB.ptr i5)) rfl ?_))))
    refine EL_do .plain rfl (D_loadF (g := a9) part_BoxRun_1.1 Try.isAgg108 Try.sizeOf108 rfl i5 fun nD oD => ?_)
    refine EL_do .plain rfl (D_loadO (g := a9) Try.isAgg83 Try.sizeOf83 rfl b186 fun sD tD => ?_)
    obtain ⟨o0, vC, h⟩ := bsome h
    refine EL_do .plain rfl (D_call (g := a9) (vs := [nD, sD]) en97 (.cons rfl (.cons rfl .nil)) (wk97 oD tD vC) fun uD sE dF hs hr => ?_)
    have hfr := hfr.ext hs
    have u4_0_124 := u4_0_124.ext hs
    have i5 := i5.ext hs
    have u3 := u3.ext hs
    obtain ⟨j7, mE, nE, rfl, m7, rfl, rfl⟩ := hr
    refine EL_mw (.tuple #[j7, .int .i64 (o0.2.1), .int .i64 (o0.2.2)]) rfl rfl ?_
    refine EL_p j7 (P_extract rfl rfl) rfl ?_
    refine EL_p (.int .i64 (o0.2.1)) (P_extract rfl rfl) rfl ?_
    refine EL_p (.int .i64 (o0.2.2)) (P_extract rfl rfl) rfl ?_
    refine EL_do .plain rfl (D_allocOc (g := uD) 2009 (⟨(⟨List.toArray [(⟨List.toArray [0, 0, 0, 0], rfl⟩ : Vector Int 4), (⟨List.toArray [0, 0, 0, 0], rfl⟩ : Vector Int 4)], rfl⟩ : Vector (Vector Int 4) 2), ⟨0, 0⟩⟩ : BoxRace) Try.zeroValue108 (fun m w => ⟨_, (rep_two (rep_vec (flat_chunk (rep_vec (flat_chunk rep_int (flat_chunk rep_int (flat_chunk rep_int (flat_chunk rep_int flat_nil)))) rfl) (flat_chunk (rep_vec (flat_chunk rep_int (flat_chunk rep_int (flat_chunk rep_int (flat_chunk rep_int flat_nil)))) rfl) flat_nil)) rfl) (rep_two rep_int rep_int)), rfl⟩) fun vD eF lB hs b192 cb => ?_)
    have hfr := hfr.stp hs
    have u4_0_124 := u4_0_124.stp hs rfl
    have i5 := i5.stp hs rfl
    have u3 := u3.stp hs
    have m7 := m7.stp hs
    clear cb
    refine EL_do .plain rfl (D_storeOc (g := vD) (v := j7) Try.sizeOf108 rfl b192 rfl m7 fun d9 xD hs b193 cb => ?_)
    clear cb
    have hfr := hfr.stp hs
    have u4_0_124 := u4_0_124.stp hs rfl
    have i5 := i5.stp hs rfl
    have u3 := u3.stp hs
    refine EL_at (.int .i64 (o0.2.1)) rfl rfl ?_
    refine EL_at (.int .i64 (o0.2.2)) rfl rfl ?_
    refine EL_nil (thn_n (E_joinC h (fun (s : BoxRun) e w => ∃ (g : Gh) , Fr gI wI g w ∧ e 4 = p2 ∧ OB 2004 g w 129 (s : BoxRun) p2 ∧ OSF 2004 60400 0 g w 3 129 ((s).thrown) p2 ∧ e 9 = lB ∧ OB 2009 g w 108 (o0.1 : BoxRace) lB ∧ e 10 = .int .i64 (o0.2.1) ∧ e 11 = .int .i64 (o0.2.2) ∧ e 14 = up1 ∧ RV g.m w (x1 : List BoxPick) up1 ∧ e 15 = .int .i64 (((x1).length : Int)) ∧ e 16 = .int .i64 (i3)) (fun X198 jB aD h => ?_) ?_))
    ·refine E_seq (E_region (EL_mw (.int .i64 (o0.2.1)) rfl rfl ?_))
     refine EL_in (.bool ((o0.2.1 == (0 : Int)))) rfl rfl rfl rfl ?_
     refine EL_nil (thn_n ?_)
     rcases csome h with ⟨l8, h⟩ | ⟨l8, h⟩
     ·refine E_ct l8 rfl ?_
      refine E_seq (E_region ?_)
      have mB : RV d9.m xD (⟨[], ⟨(⟨List.toArray [(⟨List.toArray [0, 0, 0, 0], rfl⟩ : Vector Int 4), (⟨List.toArray [0, 0, 0, 0], rfl⟩ : Vector Int 4)], rfl⟩ : Vector (Vector Int 4) 2), ⟨0, 0⟩⟩, 0⟩ : BoxRun) (.agg (setCh [[.slice none 0 0], [.int .i64 0, .int .i64 0, .int .i64 0, .int .i64 0, .int .i64 0, .int .i64 0, .int .i64 0, .int .i64 0, .int .i64 0, .int .i64 0], [.int .i64 0]] []).flatten.toArray) := RV_build rfl (rep_pair (rep_nil) (rep_pair ((rep_two (rep_vec (flat_chunk (rep_vec (flat_chunk rep_int (flat_chunk rep_int (flat_chunk rep_int (flat_chunk rep_int flat_nil)))) rfl) (flat_chunk (rep_vec (flat_chunk rep_int (flat_chunk rep_int (flat_chunk rep_int (flat_chunk rep_int flat_nil)))) rfl) flat_nil)) rfl) (rep_two rep_int rep_int))) (rep_last (rep_int))))
      generalize u9 : (Value.agg (setCh [[.slice none 0 0], [.int .i64 0, .int .i64 0, .int .i64 0, .int .i64 0, .int .i64 0, .int .i64 0, .int .i64 0, .int .i64 0, .int .i64 0, .int .i64 0], [.int .i64 0]] []).flatten.toArray) = nB at mB
      refine EL_p nB (u9 ▸ P_build (vs := []) [[.slice none 0 0], [.int .i64 0, .int .i64 0, .int .i64 0, .int .i64 0, .int .i64 0, .int .i64 0, .int .i64 0, .int .i64 0, .int .i64 0, .int .i64 0], [.int .i64 0]] lay_129 rfl rfl .nil trivial) rfl ?_
      refine EL_mw (.int .i64 (i3)) rfl rfl ?_
      refine EL_do .plain rfl (D_storeOc (g := d9) (v := nB) Try.sizeOf129 x6 i5 rfl mB fun yD zD hs b201 cb => ?_)
      have oE : OSF 2004 60400 0 yD zD 3 129 ([] : List Int) p2 := cb.osf (by rw [← u9]; rfl)
      clear cb
      have hfr := hfr.stp hs
      refine EL_at (.int .i64 (i3)) rfl rfl ?_
      refine EL_at (.int .i64 (9)) rfl rfl ?_
      refine EL_nil (thn_n (E_ret (thn_r ?_)))
      refine blk_r ?_
      refine thn_r ?_
      refine thn_r ?_
      refine blk_r ?_
      refine thn_r ?_
      obtain rfl := sinj h
      obtain ⟨ad202, cv202, hp202, bD, cr202⟩ := ob_read Try.isAgg129 Try.sizeOf129 b201
      exact endm_ctt rfl rfl ((show _ = p2 from x6).trans hp202) bD (show _ = .int .i64 (i3) from rfl) (show _ = .int .i64 (9) from rfl) ⟨_, hfr, _, _, _, rfl, cr202, rfl, rfl⟩
     ·refine E_cf l8 rfl ?_
      exact E_skip (thn_n (aD (i6) _ _ ⟨d9, hfr, x6, i5, u4_0_124, rfl, b193, rfl, rfl, g8, u3, i8, y6⟩ h))
    ·rintro l5 tE aE ⟨bE, hfr, d7, x5, u4_0_203, oB, tB, z9, bA, gA, j6, iA, jA⟩ h
     refine L_loadFS (x := .tmp 33) part_BoxRun_0.1 Try.isAgg22 Try.sizeOf22 x5 u4_0_203 fun vB cE o210 cD => ?_
     obtain ⟨t5, eD, h⟩ := bsome h
     refine L_loadO0 (x := .tmp 9) Try.isAgg108 Try.sizeOf108 tB fun m8 n8 gD => ?_
     refine L_loadO (x := .tmp 39) part_BoxRun_2.1 Try.isAgg3 Try.sizeOf3 x5 fun iF dE iD => ?_
     obtain rfl := RV_int.1 dE
     refine E_drawAS (g := bE) (w := aE) (i := 60400) (et := 3) (xs := ((l5).thrown : List Int)) (r := t5) (u := vB) cE o210 (n := 10) [(3, (fun v g w => RV g.m w ([o0.2.1] : List Int) v ∧ OS 3036 g w 3 ([o0.2.1] : List Int) v ∧ FullV v)), (4, (fun v g w => RV g.m w t5 v ∧ OS 60400 g w 3 t5 v))] [0, 1, 2, 3, 4, 5, 6, 7, 8, 9] rfl mixed (by kernel_rfl) (⟨fun _ => up_and upS_rv (up_and upS_os (upS_eq _)), fun _ => up_as, trivial⟩) ?_
     refine L_p (fPtr p2 0) rfl rfl (P_fieldAddr at_129_0 d7 (OB.ptr x5)) ?_
     refine L_ld (c := vB) rfl rfl .plain (fun _ _ h => ⟨h.1.ch, fun b hb ho => h.1.block b hb (by rw [ho]; decide)⟩) cD rfl ?_
     refine L_p (.int .i64 (o0.2.1)) rfl rfl (P_move z9) ?_
     refine L_do (φ := fun v g w => RV g.m w ([o0.2.1] : List Int) v ∧ OS 3036 g w 3 ([o0.2.1] : List Int) v ∧ FullV v) rfl rfl .plain (fun g w hd => D_buildSlice (g := g) 3036 (xs := ([o0.2.1] : List Int)) (vs := [.int .i64 (o0.2.1)]) Try.underlying22 Try.sizeOf3 Try.zeroValue3 rfl rfl (.cons rfl .nil) (RVs.cons (RV_int.2 rfl) RVs.nil) rfl rfl fun g' w' v hs o r hxt hfl => ⟨g', as_ext hxt, r, o, hfl⟩) (fun v6 hv => ?_)
     clear hv
     refine L_do (φ := fun v g w => RV g.m w t5 v ∧ OS 60400 g w 3 t5 v) rfl rfl .plain (fun g w hd => D_appendS (g := g) det_int rfl Try.underlying22 info_3 rfl rfl hd.1.2 rfl (word (A := fun g w => RV g.m w ([o0.2.1] : List Int) v6 ∧ OS 3036 g w 3 ([o0.2.1] : List Int) v6 ∧ FullV v6) 3 rfl rfl (deps_of hd)).1 eD) (fun a7 hv => ?_)
     clear hv
     refine L_ld (c := m8) rfl rfl .plain (fun _ _ h => ⟨h.1.ch, fun b hb ho => h.1.block b hb (by rw [ho]; decide)⟩) gD oB ?_
     refine L_p (fPtr p2 11) rfl rfl (P_fieldAddr at_129_2 d7 (OB.ptr x5)) ?_
     refine L_ld (c := .int .i64 ((l5).moves)) rfl rfl .plain (fun _ _ h => ⟨h.1.ch, fun b hb ho => h.1.block b hb (by rw [ho]; decide)⟩) iD rfl ?_
     refine L_p (.int .i64 (o0.2.2)) rfl rfl (P_move bA) ?_
     refine L_p (.int .i64 ((w64 ((l5).moves + o0.2.2)))) rfl rfl (P_int rfl rfl rfl) ?_
     refine L_nil fun yB nF hall => ?_
     have hs := hall.1.1
     have hfr := hfr.stp hs
     have x5 := x5.stp hs rfl
     have j6 := j6.stp hs
     have n8 := n8.stp hs
     have oF := (word_all (A := fun g w => RV g.m w ([o0.2.1] : List Int) v6 ∧ OS 3036 g w 3 ([o0.2.1] : List Int) v6 ∧ FullV v6) 3 rfl hall).1
     have o228 := (word_all (A := fun g w => RV g.m w ([o0.2.1] : List Int) v6 ∧ OS 3036 g w 3 ([o0.2.1] : List Int) v6 ∧ FullV v6) 3 rfl hall).2.1
     have k9 := (word_all (A := fun g w => RV g.m w t5 a7 ∧ OS 60400 g w 3 t5 a7) 4 rfl hall).1
     have o229 := (word_all (A := fun g w => RV g.m w t5 a7 ∧ OS 60400 g w 3 t5 a7) 4 rfl hall).2
     clear hs hall
     have zB : RV yB.m _ (⟨t5, o0.1, (w64 ((l5).moves + o0.2.2))⟩ : BoxRun) (.agg (setCh [[.slice none 0 0], [.int .i64 0, .int .i64 0, .int .i64 0, .int .i64 0, .int .i64 0, .int .i64 0, .int .i64 0, .int .i64 0, .int .i64 0, .int .i64 0], [.int .i64 0]] [(0, a7), (1, m8), (2, .int .i64 ((w64 ((l5).moves + o0.2.2))))]).flatten.toArray) := RV_build rfl (rep_pair (RV.cells k9) (rep_pair (RV.cells n8) (rep_last (rfl))))
     generalize y9 : (Value.agg (setCh [[.slice none 0 0], [.int .i64 0, .int .i64 0, .int .i64 0, .int .i64 0, .int .i64 0, .int .i64 0, .int .i64 0, .int .i64 0, .int .i64 0, .int .i64 0], [.int .i64 0]] [(0, a7), (1, m8), (2, .int .i64 ((w64 ((l5).moves + o0.2.2))))]).flatten.toArray) = aC at zB
     refine EL_p aC (y9 ▸ P_build (vs := [(0, a7), (1, m8), (2, .int .i64 ((w64 ((l5).moves + o0.2.2))))]) [[.slice none 0 0], [.int .i64 0, .int .i64 0, .int .i64 0, .int .i64 0, .int .i64 0, .int .i64 0, .int .i64 0, .int .i64 0, .int .i64 0, .int .i64 0], [.int .i64 0]] lay_129 rfl rfl (.cons rfl (.cons rfl (.cons rfl .nil))) ⟨⟨_, rfl, cells_size k9⟩, ⟨⟨_, rfl, cells_size n8⟩, ⟨⟨_, rfl, rfl⟩, trivial⟩⟩⟩) rfl ?_
     refine EL_do .plain rfl (D_storeOc (g := yB) (v := aC) Try.sizeOf129 d7 x5 rfl zB fun cC eE hs b236 cb => ?_)
     obtain ⟨kE, lE, l9, _, _⟩ := RV_list k9
     have eC : OSF 2004 60400 0 cC eE 3 129 (t5 : List Int) p2 := cb.osfv (by rw [← y9, l9]; rfl) (o229.stp hs rfl)
     clear cb
     have hfr := hfr.stp hs
     have j6 := j6.stp hs
     exact EL_nil (blk_n (thn_n (uC ((⟨t5, o0.1, (w64 ((l5).moves + o0.2.2))⟩ : BoxRun)) _ _ ⟨cC, hfr, d7, b236, eC, gA, j6, iA, jA⟩ h)))
   ·rintro i7 uE pF ⟨gE, hfr, iC, lC, u4_0_237, mA, pA, qA, rA⟩ h
    refine E_region (EL_in (.int .i64 ((w64 (i3 + (1 : Int))))) rA rfl rfl rfl ?_)
    refine EL_mw (.int .i64 ((w64 (i3 + (1 : Int))))) rfl rfl ?_
    exact EL_nil (thn_n (rC (i7, (w64 (i3 + (1 : Int)))) _ _ ⟨gE, hfr, iC, lC, u4_0_237, mA, pA, qA, rfl⟩ h))
  ·refine E_cf k8 rfl ?_
   refine E_exit ?_
   refine thn_e ?_
   refine thn_e ?_
   refine blk_hit ?_
   exact thn_n (qC (i6) _ _ ⟨v8, hfr, x6, i5, u4_0_124⟩ h)
 ·rintro q8 vE qF ⟨mC, hfr, v7, r8, u4_0_238⟩ h
  refine E_seq (E_region (EL_do .plain rfl (D_loadO (g := mC) Try.isAgg129 Try.sizeOf129 v7 r8 fun iE jE => ?_)))
  refine EL_do .plain rfl (D_storeOc (g := mC) (v := iE) Try.sizeOf129 v7 r8 rfl jE fun rF sF hs b240 cb => ?_)
  clear cb
  have hfr := hfr.stp hs
  refine EL_at (.int .i64 (0)) rfl rfl ?_
  refine EL_at (.int .i64 (0)) rfl rfl ?_
  refine EL_nil (thn_n (E_ret ?_))
  obtain rfl := sinj h
  obtain ⟨ad241, cv241, hp241, jD, cr241⟩ := ob_read Try.isAgg129 Try.sizeOf129 b240
  exact endm_ctt rfl rfl ((show _ = p2 from v7).trans hp241) jD (show _ = .int .i64 (0) from rfl) (show _ = .int .i64 (0) from rfl) ⟨_, hfr, _, _, _, rfl, cr241, rfl, rfl⟩
def f84 (x0 : BoxBoxLoom) (x1 : BoxShuttle) : Option (Bool) :=
 Option.bind (α := Bool) (
  (f87 ((0 : Int)) ((9 : Int)) (([(x1).Colour] : List Int))).bind fun x5 =>
  bif x5 then
   (f87 ((0 : Int)) ((1 : Int)) (([(x1).Side] : List Int))).bind fun i6 =>
   bif i6 then
    (idx (((x0).BoxLoom).Boxes) (x1).Side).bind fun a7 =>
    (f87 ((0 : Int)) ((w64 (a7 - (1 : Int)))) (([(x1).Box] : List Int))).bind fun v6 =>
    bif v6 then
     (f87 ((0 : Int)) ((1000 : Int)) (([((x1).Yarn).Low, ((x1).Yarn).High] : List Int))).bind fun y6 =>
     bif y6 then
      some ((decide (((x1).Yarn).Low ≤ ((x1).Yarn).High)))
     else
      some (false)
    else
     some (false)
   else
    some (false)
  else
   some (false)
  ) fun d7 =>
 some (d7)
theorem en84 : Enters Try.prog 84 := enters_of Try.func84 (by kernel_rfl) rfl
theorem wk84 {gI : Gh} {wI : World} {x0 : BoxBoxLoom} {x1 : BoxShuttle} {up0 : Value} (rp0 : RV gI.m wI x0 up0) {up1 : Value} (rp1 : RV gI.m wI x1 up1) {r : Bool} (h : f84 x0 x1 = some r) : Fn Try.prog 84 #[up0, up1] gI wI (fun _ _ v => v = .bool (r)) := by
 unfold f84 at h
 refine fn_of_E Try.func84 rfl (Nat.le_of_ble_eq_true rfl) fun g0 hm hfr => ?_
 have rp0 : RV g0.m wI x0 up0 := hm ▸ rp0
 have rp1 : RV g0.m wI x1 up1 := hm ▸ rp1
 show E _ 48 none _ _ _ _ _
 refine E_seq (E_region (EL_do .plain rfl (D_box (g := g0) rfl rp0 fun g1 w1 p1 hs q1 => ?_)))
 have hfr := hfr.ext hs
 have rp1 := rp1.ext hs
 refine EL_do .plain rfl (D_box (g := g1) rfl rp1 fun g2 w2 p2 hs q2 => ?_)
 have hfr := hfr.ext hs
 have q1 := q1.ext hs
 refine EL_at (.bool false) rfl rfl ?_
 refine EL_nil (thn_n ?_)
 obtain ⟨d7, hx, h⟩ := bsome h
 refine E_join (fun e w => ∃ (g : Gh) , Fr gI wI g w ∧ e 4 = .bool (d7)) (fun Q' hQ => ?_) (fun rC uC hR => ?_)
 ·replace h := hx
  clear hx
  have jA := PT_field (part_BoxShuttle_0).1 q2
  refine L_load (x := .tmp 5) Try.isAgg3 Try.sizeOf3 jA fun vC mA i7 => ?_
  obtain rfl := RV_int.1 mA
  obtain ⟨x5, j7, h⟩ := bsome h
  rcases csome h with ⟨l5, h⟩ | ⟨l5, h⟩
  ·have pA := PT_field (part_BoxShuttle_1).1 q2
   refine L_load (x := .tmp 10) Try.isAgg3 Try.sizeOf3 pA fun aD qA v7 => ?_
   obtain rfl := RV_int.1 qA
   obtain ⟨i6, g8, h⟩ := bsome h
   rcases csome h with ⟨i3, h⟩ | ⟨i3, h⟩
   ·have k8 := PT_field (part_BoxBoxLoom_0).1 q1
    have rA := PT_field (part_BoxLoom_0).1 k8
    refine L_load (x := .tmp 17) Try.isAgg22 Try.sizeOf22 rA fun m7 l8 m8 => ?_
    have yA := PT_field (part_BoxShuttle_1).1 q2
    refine L_load (x := .tmp 19) Try.isAgg3 Try.sizeOf3 yA fun bD aB n8 => ?_
    obtain rfl := RV_int.1 aB
    obtain ⟨a7, i8, h⟩ := bsome h
    have dB := PT_idx l8 i8
    refine L_load (x := .tmp 21) Try.isAgg3 Try.sizeOf3 dB fun cD iB q8 => ?_
    obtain rfl := RV_int.1 iB
    have jB := PT_field (part_BoxShuttle_2).1 q2
    refine L_load (x := .tmp 24) Try.isAgg3 Try.sizeOf3 jB fun eD lB r8 => ?_
    obtain rfl := RV_int.1 lB
    obtain ⟨v6, t8, h⟩ := bsome h
    rcases csome h with ⟨t5, h⟩ | ⟨t5, h⟩
    ·have x8 := PT_field (part_BoxShuttle_3).1 q2
     have mB := PT_field (part_Span_0).1 x8
     refine L_load (x := .tmp 31) Try.isAgg3 Try.sizeOf3 mB fun gD nB k9 => ?_
     obtain rfl := RV_int.1 nB
     have a9 := PT_field (part_BoxShuttle_3).1 q2
     have oB := PT_field (part_Span_1).1 a9
     refine L_load (x := .tmp 34) Try.isAgg3 Try.sizeOf3 oB fun iD tB l9 => ?_
     obtain rfl := RV_int.1 tB
     obtain ⟨y6, n9, h⟩ := bsome h
     rcases csome h with ⟨x6, h⟩ | ⟨x6, h⟩
     ·have u9 := PT_field (part_BoxShuttle_3).1 q2
      have vB := PT_field (part_Span_0).1 u9
      refine L_load (x := .tmp 41) Try.isAgg3 Try.sizeOf3 vB fun jD yB gA => ?_
      obtain rfl := RV_int.1 yB
      have y9 := PT_field (part_BoxShuttle_3).1 q2
      have zB := PT_field (part_Span_1).1 y9
      refine L_load (x := .tmp 44) Try.isAgg3 Try.sizeOf3 zB fun kD aC iA => ?_
      obtain rfl := RV_int.1 aC
      refine E_drawL (g := g2) (n := 44) [(2, (fun v g w => RV g.m w ([(x1).Colour] : List Int) v ∧ OS 3007 g w 3 ([(x1).Colour] : List Int) v ∧ FullV v)), (3, (fun v g w => v = .bool (x5))), (7, (fun v g w => RV g.m w ([(x1).Side] : List Int) v ∧ OS 3012 g w 3 ([(x1).Side] : List Int) v ∧ FullV v)), (8, (fun v g w => v = .bool (i6))), (21, (fun v g w => RV g.m w ([(x1).Box] : List Int) v ∧ OS 3026 g w 3 ([(x1).Box] : List Int) v ∧ FullV v)), (22, (fun v g w => v = .bool (v6))), (31, (fun v g w => RV g.m w ([((x1).Yarn).Low, ((x1).Yarn).High] : List Int) v ∧ OS 3036 g w 3 ([((x1).Yarn).Low, ((x1).Yarn).High] : List Int) v ∧ FullV v)), (32, (fun v g w => v = .bool (y6)))] [0, 1, 2, 3, 4, 5, 6, 7, 8, 9, 10, 11, 12, 13, 14, 15, 16, 17, 18, 19, 20, 21, 22, 23, 24, 25, 26, 27, 28, 29, 30, 31, 32, 33, 34, 35, 36, 37, 38, 39, 40, 41, 42, 43] rfl mixed (by kernel_rfl) (⟨fun _ => up_and up_rv (up_and up_os (up_eq _)), fun _ => up_eq _, fun _ => up_and up_rv (up_and up_os (up_eq _)), fun _ => up_eq _, fun _ => up_and up_rv (up_and up_os (up_eq _)), fun _ => up_eq _, fun _ => up_and up_rv (up_and up_os (up_eq _)), fun _ => up_eq _, trivial⟩) ?_
      refine L_p (fPtr p2 0) rfl rfl (P_fieldAddr at_87_0 rfl (PT.ptr q2)) ?_
      refine L_ld (c := .int .i64 ((x1).Colour)) rfl rfl .plain (fun _ _ h => h.ch) i7 rfl ?_
      refine L_do (φ := fun v g w => RV g.m w ([(x1).Colour] : List Int) v ∧ OS 3007 g w 3 ([(x1).Colour] : List Int) v ∧ FullV v) rfl rfl .plain (fun g w hd => D_buildSlice (g := g) 3007 (xs := ([(x1).Colour] : List Int)) (vs := [.int .i64 ((x1).Colour)]) Try.underlying22 Try.sizeOf3 Try.zeroValue3 rfl rfl (.cons rfl .nil) (RVs.cons (RV_int.2 rfl) RVs.nil) rfl rfl fun g' w' v hs o r hxt hfl => ⟨g', hxt, r, o, hfl⟩) (fun o0 hv => ?_)
      clear hv
      refine L_do (φ := fun v g w => v = .bool (x5)) rfl rfl .plain (fun g w hd => D_call (g := g) (vs := [.int .i64 (0), .int .i64 (9), o0]) en87 (.cons rfl (.cons rfl (.cons rfl .nil))) (wk87 (word (A := fun g w => RV g.m w ([(x1).Colour] : List Int) o0 ∧ OS 3007 g w 3 ([(x1).Colour] : List Int) o0 ∧ FullV o0) 2 rfl rfl (deps_of hd)).1 j7) fun g' w' v hs hr => ⟨g', hs, hr⟩) (fun v8 hv => ?_)
      obtain ⟨_, _, _, rfl⟩ := hv
      refine L_p (.bool (x5)) rfl rfl (P_move rfl) ?_
      refine L_y (fPtr p2 1) rfl rfl rfl rfl l5 (P_fieldAddr at_87_1 rfl (PT.ptr q2)) ?_
      refine L_ld (c := .int .i64 ((x1).Side)) rfl rfl (.yes2 rfl rfl l5) (fun _ _ h => h.ch) v7 rfl ?_
      refine L_do (φ := fun v g w => RV g.m w ([(x1).Side] : List Int) v ∧ OS 3012 g w 3 ([(x1).Side] : List Int) v ∧ FullV v) rfl rfl (.yes2 rfl rfl l5) (fun g w hd => D_buildSlice (g := g) 3012 (xs := ([(x1).Side] : List Int)) (vs := [.int .i64 ((x1).Side)]) Try.underlying22 Try.sizeOf3 Try.zeroValue3 rfl rfl (.cons rfl .nil) (RVs.cons (RV_int.2 rfl) RVs.nil) rfl rfl fun g' w' v hs o r hxt hfl => ⟨g', hxt, r, o, hfl⟩) (fun u3 hv => ?_)
      clear hv
      refine L_do (φ := fun v g w => v = .bool (i6)) rfl rfl (.yes2 rfl rfl l5) (fun g w hd => D_call (g := g) (vs := [.int .i64 (0), .int .i64 (1), u3]) en87 (.cons rfl (.cons rfl (.cons rfl .nil))) (wk87 (word (A := fun g w => RV g.m w ([(x1).Side] : List Int) u3 ∧ OS 3012 g w 3 ([(x1).Side] : List Int) u3 ∧ FullV u3) 7 rfl rfl (deps_of hd)).1 g8) fun g' w' v hs hr => ⟨g', hs, hr⟩) (fun d9 hv => ?_)
      obtain ⟨_, _, _, rfl⟩ := hv
      refine L_p (.bool (i6)) rfl rfl (P_pick (b := x5) rfl (pick_t l5 rfl)) ?_
      refine L_p (.bool (i6)) rfl rfl (P_move rfl) ?_
      refine L_y (fPtr p1 0) rfl rfl rfl rfl i3 (P_fieldAddr at_102_0 rfl (PT.ptr q1)) ?_
      refine L_y (fPtr (fPtr p1 0) 0) rfl rfl rfl rfl i3 (P_fieldAddr at_25_0 rfl (PT.ptr k8)) ?_
      refine L_ld (c := m7) rfl rfl (.yes2 rfl rfl i3) (fun _ _ h => h.ch) m8 rfl ?_
      refine L_y (fPtr p2 1) rfl rfl rfl rfl i3 (P_fieldAddr at_87_1 rfl (PT.ptr q2)) ?_
      refine L_ld (c := .int .i64 ((x1).Side)) rfl rfl (.yes2 rfl rfl i3) (fun _ _ h => h.ch) n8 rfl ?_
      refine L_y (ePtr m7 (x1).Side 1) rfl rfl rfl rfl i3 (P_indexAddr (α := Int) Try.underlying22 Try.sizeOf3 rfl l8 rfl i8) ?_
      refine L_ld (c := .int .i64 (a7)) rfl rfl (.yes2 rfl rfl i3) (fun _ _ h => h.ch) q8 rfl ?_
      refine L_y (.int .i64 ((w64 (a7 - (1 : Int))))) rfl rfl rfl rfl i3 (P_int rfl rfl rfl) ?_
      refine L_y (fPtr p2 2) rfl rfl rfl rfl i3 (P_fieldAddr at_87_2 rfl (PT.ptr q2)) ?_
      refine L_ld (c := .int .i64 ((x1).Box)) rfl rfl (.yes2 rfl rfl i3) (fun _ _ h => h.ch) r8 rfl ?_
      refine L_do (φ := fun v g w => RV g.m w ([(x1).Box] : List Int) v ∧ OS 3026 g w 3 ([(x1).Box] : List Int) v ∧ FullV v) rfl rfl (.yes2 rfl rfl i3) (fun g w hd => D_buildSlice (g := g) 3026 (xs := ([(x1).Box] : List Int)) (vs := [.int .i64 ((x1).Box)]) Try.underlying22 Try.sizeOf3 Try.zeroValue3 rfl rfl (.cons rfl .nil) (RVs.cons (RV_int.2 rfl) RVs.nil) rfl rfl fun g' w' v hs o r hxt hfl => ⟨g', hxt, r, o, hfl⟩) (fun i5 hv => ?_)
      clear hv
      refine L_do (φ := fun v g w => v = .bool (v6)) rfl rfl (.yes2 rfl rfl i3) (fun g w hd => D_call (g := g) (vs := [.int .i64 (0), .int .i64 ((w64 (a7 - (1 : Int)))), i5]) en87 (.cons rfl (.cons rfl (.cons rfl .nil))) (wk87 (word (A := fun g w => RV g.m w ([(x1).Box] : List Int) i5 ∧ OS 3026 g w 3 ([(x1).Box] : List Int) i5 ∧ FullV i5) 21 rfl rfl (deps_of hd)).1 t8) fun g' w' v hs hr => ⟨g', hs, hr⟩) (fun z9 hv => ?_)
      obtain ⟨_, _, _, rfl⟩ := hv
      refine L_p (.bool (v6)) rfl rfl (P_pick (b := i6) rfl (pick_t i3 rfl)) ?_
      refine L_p (.bool (v6)) rfl rfl (P_move rfl) ?_
      refine L_y (fPtr p2 3) rfl rfl rfl rfl t5 (P_fieldAddr at_87_3 rfl (PT.ptr q2)) ?_
      refine L_y (fPtr (fPtr p2 3) 0) rfl rfl rfl rfl t5 (P_fieldAddr at_85_0 rfl (PT.ptr x8)) ?_
      refine L_ld (c := .int .i64 (((x1).Yarn).Low)) rfl rfl (.yes2 rfl rfl t5) (fun _ _ h => h.ch) k9 rfl ?_
      refine L_y (fPtr p2 3) rfl rfl rfl rfl t5 (P_fieldAddr at_87_3 rfl (PT.ptr q2)) ?_
      refine L_y (fPtr (fPtr p2 3) 1) rfl rfl rfl rfl t5 (P_fieldAddr at_85_1 rfl (PT.ptr a9)) ?_
      refine L_ld (c := .int .i64 (((x1).Yarn).High)) rfl rfl (.yes2 rfl rfl t5) (fun _ _ h => h.ch) l9 rfl ?_
      refine L_do (φ := fun v g w => RV g.m w ([((x1).Yarn).Low, ((x1).Yarn).High] : List Int) v ∧ OS 3036 g w 3 ([((x1).Yarn).Low, ((x1).Yarn).High] : List Int) v ∧ FullV v) rfl rfl (.yes2 rfl rfl t5) (fun g w hd => D_buildSlice (g := g) 3036 (xs := ([((x1).Yarn).Low, ((x1).Yarn).High] : List Int)) (vs := [.int .i64 (((x1).Yarn).Low), .int .i64 (((x1).Yarn).High)]) Try.underlying22 Try.sizeOf3 Try.zeroValue3 rfl rfl (.cons rfl (.cons rfl .nil)) (RVs.cons (RV_int.2 rfl) (RVs.cons (RV_int.2 rfl) RVs.nil)) rfl rfl fun g' w' v hs o r hxt hfl => ⟨g', hxt, r, o, hfl⟩) (fun j6 hv => ?_)
      clear hv
      refine L_do (φ := fun v g w => v = .bool (y6)) rfl rfl (.yes2 rfl rfl t5) (fun g w hd => D_call (g := g) (vs := [.int .i64 (0), .int .i64 (1000), j6]) en87 (.cons rfl (.cons rfl (.cons rfl .nil))) (wk87 (word (A := fun g w => RV g.m w ([((x1).Yarn).Low, ((x1).Yarn).High] : List Int) j6 ∧ OS 3036 g w 3 ([((x1).Yarn).Low, ((x1).Yarn).High] : List Int) j6 ∧ FullV j6) 31 rfl rfl (deps_of hd)).1 n9) fun g' w' v hs hr => ⟨g', hs, hr⟩) (fun cC hv => ?_)
      obtain ⟨_, _, _, rfl⟩ := hv
      refine L_p (.bool (y6)) rfl rfl (P_pick (b := v6) rfl (pick_t t5 rfl)) ?_
      refine L_p (.bool (y6)) rfl rfl (P_move rfl) ?_
      refine L_y (fPtr p2 3) rfl rfl rfl rfl x6 (P_fieldAddr at_87_3 rfl (PT.ptr q2)) ?_
      refine L_y (fPtr (fPtr p2 3) 0) rfl rfl rfl rfl x6 (P_fieldAddr at_85_0 rfl (PT.ptr u9)) ?_
      refine L_ld (c := .int .i64 (((x1).Yarn).Low)) rfl rfl (.yes2 rfl rfl x6) (fun _ _ h => h.ch) gA rfl ?_
      refine L_y (fPtr p2 3) rfl rfl rfl rfl x6 (P_fieldAddr at_87_3 rfl (PT.ptr q2)) ?_
      refine L_y (fPtr (fPtr p2 3) 1) rfl rfl rfl rfl x6 (P_fieldAddr at_85_1 rfl (PT.ptr y9)) ?_
      refine L_ld (c := .int .i64 (((x1).Yarn).High)) rfl rfl (.yes2 rfl rfl x6) (fun _ _ h => h.ch) iA rfl ?_
      refine L_y (.bool ((decide (((x1).Yarn).Low ≤ ((x1).Yarn).High)))) rfl rfl rfl rfl x6 (P_int rfl rfl rfl) ?_
      refine L_p (.bool ((decide (((x1).Yarn).Low ≤ ((x1).Yarn).High)))) rfl rfl (P_pick (b := y6) rfl (pick_t x6 rfl)) ?_
      refine L_p (.bool ((decide (((x1).Yarn).Low ≤ ((x1).Yarn).High)))) rfl rfl (P_assign rfl) ?_
      refine L_nil fun eC lD hall => ?_
      have hs := hall.1
      have hfr := hfr.ext hs
      have mD := (word_all (A := fun g w => RV g.m w ([(x1).Colour] : List Int) o0 ∧ OS 3007 g w 3 ([(x1).Colour] : List Int) o0 ∧ FullV o0) 2 rfl hall).1
      have o341 := (word_all (A := fun g w => RV g.m w ([(x1).Colour] : List Int) o0 ∧ OS 3007 g w 3 ([(x1).Colour] : List Int) o0 ∧ FullV o0) 2 rfl hall).2.1
      have nD := (word_all (A := fun g w => RV g.m w ([(x1).Side] : List Int) u3 ∧ OS 3012 g w 3 ([(x1).Side] : List Int) u3 ∧ FullV u3) 7 rfl hall).1
      have o346 := (word_all (A := fun g w => RV g.m w ([(x1).Side] : List Int) u3 ∧ OS 3012 g w 3 ([(x1).Side] : List Int) u3 ∧ FullV u3) 7 rfl hall).2.1
      have oD := (word_all (A := fun g w => RV g.m w ([(x1).Box] : List Int) i5 ∧ OS 3026 g w 3 ([(x1).Box] : List Int) i5 ∧ FullV i5) 21 rfl hall).1
      have o360 := (word_all (A := fun g w => RV g.m w ([(x1).Box] : List Int) i5 ∧ OS 3026 g w 3 ([(x1).Box] : List Int) i5 ∧ FullV i5) 21 rfl hall).2.1
      have sD := (word_all (A := fun g w => RV g.m w ([((x1).Yarn).Low, ((x1).Yarn).High] : List Int) j6 ∧ OS 3036 g w 3 ([((x1).Yarn).Low, ((x1).Yarn).High] : List Int) j6 ∧ FullV j6) 31 rfl hall).1
      have o370 := (word_all (A := fun g w => RV g.m w ([((x1).Yarn).Low, ((x1).Yarn).High] : List Int) j6 ∧ OS 3036 g w 3 ([((x1).Yarn).Low, ((x1).Yarn).High] : List Int) j6 ∧ FullV j6) 31 rfl hall).2.1
      clear hs hall
      refine EL_nil ?_
      obtain rfl := sinj h
      exact hQ _ _ ⟨eC, hfr, rfl⟩
     ·refine E_drawL (g := g2) (n := 44) [(2, (fun v g w => RV g.m w ([(x1).Colour] : List Int) v ∧ OS 3007 g w 3 ([(x1).Colour] : List Int) v ∧ FullV v)), (3, (fun v g w => v = .bool (x5))), (7, (fun v g w => RV g.m w ([(x1).Side] : List Int) v ∧ OS 3012 g w 3 ([(x1).Side] : List Int) v ∧ FullV v)), (8, (fun v g w => v = .bool (i6))), (21, (fun v g w => RV g.m w ([(x1).Box] : List Int) v ∧ OS 3026 g w 3 ([(x1).Box] : List Int) v ∧ FullV v)), (22, (fun v g w => v = .bool (v6))), (31, (fun v g w => RV g.m w ([((x1).Yarn).Low, ((x1).Yarn).High] : List Int) v ∧ OS 3036 g w 3 ([((x1).Yarn).Low, ((x1).Yarn).High] : List Int) v ∧ FullV v)), (32, (fun v g w => v = .bool (y6)))] [0, 1, 2, 3, 4, 5, 6, 7, 8, 9, 10, 11, 12, 13, 14, 15, 16, 17, 18, 19, 20, 21, 22, 23, 24, 25, 26, 27, 28, 29, 30, 31, 32, 33, 34, 35, 36, 37, 38, 39, 40, 41, 42, 43] rfl mixed (by kernel_rfl) (⟨fun _ => up_and up_rv (up_and up_os (up_eq _)), fun _ => up_eq _, fun _ => up_and up_rv (up_and up_os (up_eq _)), fun _ => up_eq _, fun _ => up_and up_rv (up_and up_os (up_eq _)), fun _ => up_eq _, fun _ => up_and up_rv (up_and up_os (up_eq _)), fun _ => up_eq _, trivial⟩) ?_
      refine L_p (fPtr p2 0) rfl rfl (P_fieldAddr at_87_0 rfl (PT.ptr q2)) ?_
      refine L_ld (c := .int .i64 ((x1).Colour)) rfl rfl .plain (fun _ _ h => h.ch) i7 rfl ?_
      refine L_do (φ := fun v g w => RV g.m w ([(x1).Colour] : List Int) v ∧ OS 3007 g w 3 ([(x1).Colour] : List Int) v ∧ FullV v) rfl rfl .plain (fun g w hd => D_buildSlice (g := g) 3007 (xs := ([(x1).Colour] : List Int)) (vs := [.int .i64 ((x1).Colour)]) Try.underlying22 Try.sizeOf3 Try.zeroValue3 rfl rfl (.cons rfl .nil) (RVs.cons (RV_int.2 rfl) RVs.nil) rfl rfl fun g' w' v hs o r hxt hfl => ⟨g', hxt, r, o, hfl⟩) (fun o0 hv => ?_)
      clear hv
      refine L_do (φ := fun v g w => v = .bool (x5)) rfl rfl .plain (fun g w hd => D_call (g := g) (vs := [.int .i64 (0), .int .i64 (9), o0]) en87 (.cons rfl (.cons rfl (.cons rfl .nil))) (wk87 (word (A := fun g w => RV g.m w ([(x1).Colour] : List Int) o0 ∧ OS 3007 g w 3 ([(x1).Colour] : List Int) o0 ∧ FullV o0) 2 rfl rfl (deps_of hd)).1 j7) fun g' w' v hs hr => ⟨g', hs, hr⟩) (fun v8 hv => ?_)
      obtain ⟨_, _, _, rfl⟩ := hv
      refine L_p (.bool (x5)) rfl rfl (P_move rfl) ?_
      refine L_y (fPtr p2 1) rfl rfl rfl rfl l5 (P_fieldAddr at_87_1 rfl (PT.ptr q2)) ?_
      refine L_ld (c := .int .i64 ((x1).Side)) rfl rfl (.yes2 rfl rfl l5) (fun _ _ h => h.ch) v7 rfl ?_
      refine L_do (φ := fun v g w => RV g.m w ([(x1).Side] : List Int) v ∧ OS 3012 g w 3 ([(x1).Side] : List Int) v ∧ FullV v) rfl rfl (.yes2 rfl rfl l5) (fun g w hd => D_buildSlice (g := g) 3012 (xs := ([(x1).Side] : List Int)) (vs := [.int .i64 ((x1).Side)]) Try.underlying22 Try.sizeOf3 Try.zeroValue3 rfl rfl (.cons rfl .nil) (RVs.cons (RV_int.2 rfl) RVs.nil) rfl rfl fun g' w' v hs o r hxt hfl => ⟨g', hxt, r, o, hfl⟩) (fun u3 hv => ?_)
      clear hv
      refine L_do (φ := fun v g w => v = .bool (i6)) rfl rfl (.yes2 rfl rfl l5) (fun g w hd => D_call (g := g) (vs := [.int .i64 (0), .int .i64 (1), u3]) en87 (.cons rfl (.cons rfl (.cons rfl .nil))) (wk87 (word (A := fun g w => RV g.m w ([(x1).Side] : List Int) u3 ∧ OS 3012 g w 3 ([(x1).Side] : List Int) u3 ∧ FullV u3) 7 rfl rfl (deps_of hd)).1 g8) fun g' w' v hs hr => ⟨g', hs, hr⟩) (fun d9 hv => ?_)
      obtain ⟨_, _, _, rfl⟩ := hv
      refine L_p (.bool (i6)) rfl rfl (P_pick (b := x5) rfl (pick_t l5 rfl)) ?_
      refine L_p (.bool (i6)) rfl rfl (P_move rfl) ?_
      refine L_y (fPtr p1 0) rfl rfl rfl rfl i3 (P_fieldAddr at_102_0 rfl (PT.ptr q1)) ?_
      refine L_y (fPtr (fPtr p1 0) 0) rfl rfl rfl rfl i3 (P_fieldAddr at_25_0 rfl (PT.ptr k8)) ?_
      refine L_ld (c := m7) rfl rfl (.yes2 rfl rfl i3) (fun _ _ h => h.ch) m8 rfl ?_
      refine L_y (fPtr p2 1) rfl rfl rfl rfl i3 (P_fieldAddr at_87_1 rfl (PT.ptr q2)) ?_
      refine L_ld (c := .int .i64 ((x1).Side)) rfl rfl (.yes2 rfl rfl i3) (fun _ _ h => h.ch) n8 rfl ?_
      refine L_y (ePtr m7 (x1).Side 1) rfl rfl rfl rfl i3 (P_indexAddr (α := Int) Try.underlying22 Try.sizeOf3 rfl l8 rfl i8) ?_
      refine L_ld (c := .int .i64 (a7)) rfl rfl (.yes2 rfl rfl i3) (fun _ _ h => h.ch) q8 rfl ?_
      refine L_y (.int .i64 ((w64 (a7 - (1 : Int))))) rfl rfl rfl rfl i3 (P_int rfl rfl rfl) ?_
      refine L_y (fPtr p2 2) rfl rfl rfl rfl i3 (P_fieldAddr at_87_2 rfl (PT.ptr q2)) ?_
      refine L_ld (c := .int .i64 ((x1).Box)) rfl rfl (.yes2 rfl rfl i3) (fun _ _ h => h.ch) r8 rfl ?_
      refine L_do (φ := fun v g w => RV g.m w ([(x1).Box] : List Int) v ∧ OS 3026 g w 3 ([(x1).Box] : List Int) v ∧ FullV v) rfl rfl (.yes2 rfl rfl i3) (fun g w hd => D_buildSlice (g := g) 3026 (xs := ([(x1).Box] : List Int)) (vs := [.int .i64 ((x1).Box)]) Try.underlying22 Try.sizeOf3 Try.zeroValue3 rfl rfl (.cons rfl .nil) (RVs.cons (RV_int.2 rfl) RVs.nil) rfl rfl fun g' w' v hs o r hxt hfl => ⟨g', hxt, r, o, hfl⟩) (fun i5 hv => ?_)
      clear hv
      refine L_do (φ := fun v g w => v = .bool (v6)) rfl rfl (.yes2 rfl rfl i3) (fun g w hd => D_call (g := g) (vs := [.int .i64 (0), .int .i64 ((w64 (a7 - (1 : Int)))), i5]) en87 (.cons rfl (.cons rfl (.cons rfl .nil))) (wk87 (word (A := fun g w => RV g.m w ([(x1).Box] : List Int) i5 ∧ OS 3026 g w 3 ([(x1).Box] : List Int) i5 ∧ FullV i5) 21 rfl rfl (deps_of hd)).1 t8) fun g' w' v hs hr => ⟨g', hs, hr⟩) (fun z9 hv => ?_)
      obtain ⟨_, _, _, rfl⟩ := hv
      refine L_p (.bool (v6)) rfl rfl (P_pick (b := i6) rfl (pick_t i3 rfl)) ?_
      refine L_p (.bool (v6)) rfl rfl (P_move rfl) ?_
      refine L_y (fPtr p2 3) rfl rfl rfl rfl t5 (P_fieldAddr at_87_3 rfl (PT.ptr q2)) ?_
      refine L_y (fPtr (fPtr p2 3) 0) rfl rfl rfl rfl t5 (P_fieldAddr at_85_0 rfl (PT.ptr x8)) ?_
      refine L_ld (c := .int .i64 (((x1).Yarn).Low)) rfl rfl (.yes2 rfl rfl t5) (fun _ _ h => h.ch) k9 rfl ?_
      refine L_y (fPtr p2 3) rfl rfl rfl rfl t5 (P_fieldAddr at_87_3 rfl (PT.ptr q2)) ?_
      refine L_y (fPtr (fPtr p2 3) 1) rfl rfl rfl rfl t5 (P_fieldAddr at_85_1 rfl (PT.ptr a9)) ?_
      refine L_ld (c := .int .i64 (((x1).Yarn).High)) rfl rfl (.yes2 rfl rfl t5) (fun _ _ h => h.ch) l9 rfl ?_
      refine L_do (φ := fun v g w => RV g.m w ([((x1).Yarn).Low, ((x1).Yarn).High] : List Int) v ∧ OS 3036 g w 3 ([((x1).Yarn).Low, ((x1).Yarn).High] : List Int) v ∧ FullV v) rfl rfl (.yes2 rfl rfl t5) (fun g w hd => D_buildSlice (g := g) 3036 (xs := ([((x1).Yarn).Low, ((x1).Yarn).High] : List Int)) (vs := [.int .i64 (((x1).Yarn).Low), .int .i64 (((x1).Yarn).High)]) Try.underlying22 Try.sizeOf3 Try.zeroValue3 rfl rfl (.cons rfl (.cons rfl .nil)) (RVs.cons (RV_int.2 rfl) (RVs.cons (RV_int.2 rfl) RVs.nil)) rfl rfl fun g' w' v hs o r hxt hfl => ⟨g', hxt, r, o, hfl⟩) (fun j6 hv => ?_)
      clear hv
      refine L_do (φ := fun v g w => v = .bool (y6)) rfl rfl (.yes2 rfl rfl t5) (fun g w hd => D_call (g := g) (vs := [.int .i64 (0), .int .i64 (1000), j6]) en87 (.cons rfl (.cons rfl (.cons rfl .nil))) (wk87 (word (A := fun g w => RV g.m w ([((x1).Yarn).Low, ((x1).Yarn).High] : List Int) j6 ∧ OS 3036 g w 3 ([((x1).Yarn).Low, ((x1).Yarn).High] : List Int) j6 ∧ FullV j6) 31 rfl rfl (deps_of hd)).1 n9) fun g' w' v hs hr => ⟨g', hs, hr⟩) (fun cC hv => ?_)
      obtain ⟨_, _, _, rfl⟩ := hv
      refine L_p (.bool (y6)) rfl rfl (P_pick (b := v6) rfl (pick_t t5 rfl)) ?_
      refine L_p (.bool (y6)) rfl rfl (P_move rfl) ?_
      iterate 7 refine L_s rfl rfl rfl x6 rfl ?_
      refine L_p (.bool false) rfl rfl (P_pick (b := y6) rfl (pick_f x6 rfl)) ?_
      refine L_p (.bool false) rfl rfl (P_assign rfl) ?_
      refine L_nil fun iC tD hall => ?_
      have hs := hall.1
      have hfr := hfr.ext hs
      have uD := (word_all (A := fun g w => RV g.m w ([(x1).Colour] : List Int) o0 ∧ OS 3007 g w 3 ([(x1).Colour] : List Int) o0 ∧ FullV o0) 2 rfl hall).1
      have o390 := (word_all (A := fun g w => RV g.m w ([(x1).Colour] : List Int) o0 ∧ OS 3007 g w 3 ([(x1).Colour] : List Int) o0 ∧ FullV o0) 2 rfl hall).2.1
      have vD := (word_all (A := fun g w => RV g.m w ([(x1).Side] : List Int) u3 ∧ OS 3012 g w 3 ([(x1).Side] : List Int) u3 ∧ FullV u3) 7 rfl hall).1
      have o395 := (word_all (A := fun g w => RV g.m w ([(x1).Side] : List Int) u3 ∧ OS 3012 g w 3 ([(x1).Side] : List Int) u3 ∧ FullV u3) 7 rfl hall).2.1
      have xD := (word_all (A := fun g w => RV g.m w ([(x1).Box] : List Int) i5 ∧ OS 3026 g w 3 ([(x1).Box] : List Int) i5 ∧ FullV i5) 21 rfl hall).1
      have o409 := (word_all (A := fun g w => RV g.m w ([(x1).Box] : List Int) i5 ∧ OS 3026 g w 3 ([(x1).Box] : List Int) i5 ∧ FullV i5) 21 rfl hall).2.1
      have yD := (word_all (A := fun g w => RV g.m w ([((x1).Yarn).Low, ((x1).Yarn).High] : List Int) j6 ∧ OS 3036 g w 3 ([((x1).Yarn).Low, ((x1).Yarn).High] : List Int) j6 ∧ FullV j6) 31 rfl hall).1
      have o419 := (word_all (A := fun g w => RV g.m w ([((x1).Yarn).Low, ((x1).Yarn).High] : List Int) j6 ∧ OS 3036 g w 3 ([((x1).Yarn).Low, ((x1).Yarn).High] : List Int) j6 ∧ FullV j6) 31 rfl hall).2.1
      clear hs hall
      refine EL_nil ?_
      obtain rfl := sinj h
      exact hQ _ _ ⟨iC, hfr, rfl⟩
    ·refine E_drawL (g := g2) (n := 44) [(2, (fun v g w => RV g.m w ([(x1).Colour] : List Int) v ∧ OS 3007 g w 3 ([(x1).Colour] : List Int) v ∧ FullV v)), (3, (fun v g w => v = .bool (x5))), (7, (fun v g w => RV g.m w ([(x1).Side] : List Int) v ∧ OS 3012 g w 3 ([(x1).Side] : List Int) v ∧ FullV v)), (8, (fun v g w => v = .bool (i6))), (21, (fun v g w => RV g.m w ([(x1).Box] : List Int) v ∧ OS 3026 g w 3 ([(x1).Box] : List Int) v ∧ FullV v)), (22, (fun v g w => v = .bool (v6)))] [0, 1, 2, 3, 4, 5, 6, 7, 8, 9, 10, 11, 12, 13, 14, 15, 16, 17, 18, 19, 20, 21, 22, 23, 24, 25, 26, 27, 28, 29, 30, 31, 32, 33, 34, 35, 36, 37, 38, 39, 40, 41, 42, 43] rfl mixed (by kernel_rfl) (⟨fun _ => up_and up_rv (up_and up_os (up_eq _)), fun _ => up_eq _, fun _ => up_and up_rv (up_and up_os (up_eq _)), fun _ => up_eq _, fun _ => up_and up_rv (up_and up_os (up_eq _)), fun _ => up_eq _, trivial⟩) ?_
     refine L_p (fPtr p2 0) rfl rfl (P_fieldAddr at_87_0 rfl (PT.ptr q2)) ?_
     refine L_ld (c := .int .i64 ((x1).Colour)) rfl rfl .plain (fun _ _ h => h.ch) i7 rfl ?_
     refine L_do (φ := fun v g w => RV g.m w ([(x1).Colour] : List Int) v ∧ OS 3007 g w 3 ([(x1).Colour] : List Int) v ∧ FullV v) rfl rfl .plain (fun g w hd => D_buildSlice (g := g) 3007 (xs := ([(x1).Colour] : List Int)) (vs := [.int .i64 ((x1).Colour)]) Try.underlying22 Try.sizeOf3 Try.zeroValue3 rfl rfl (.cons rfl .nil) (RVs.cons (RV_int.2 rfl) RVs.nil) rfl rfl fun g' w' v hs o r hxt hfl => ⟨g', hxt, r, o, hfl⟩) (fun o0 hv => ?_)
     clear hv
     refine L_do (φ := fun v g w => v = .bool (x5)) rfl rfl .plain (fun g w hd => D_call (g := g) (vs := [.int .i64 (0), .int .i64 (9), o0]) en87 (.cons rfl (.cons rfl (.cons rfl .nil))) (wk87 (word (A := fun g w => RV g.m w ([(x1).Colour] : List Int) o0 ∧ OS 3007 g w 3 ([(x1).Colour] : List Int) o0 ∧ FullV o0) 2 rfl rfl (deps_of hd)).1 j7) fun g' w' v hs hr => ⟨g', hs, hr⟩) (fun v8 hv => ?_)
     obtain ⟨_, _, _, rfl⟩ := hv
     refine L_p (.bool (x5)) rfl rfl (P_move rfl) ?_
     refine L_y (fPtr p2 1) rfl rfl rfl rfl l5 (P_fieldAddr at_87_1 rfl (PT.ptr q2)) ?_
     refine L_ld (c := .int .i64 ((x1).Side)) rfl rfl (.yes2 rfl rfl l5) (fun _ _ h => h.ch) v7 rfl ?_
     refine L_do (φ := fun v g w => RV g.m w ([(x1).Side] : List Int) v ∧ OS 3012 g w 3 ([(x1).Side] : List Int) v ∧ FullV v) rfl rfl (.yes2 rfl rfl l5) (fun g w hd => D_buildSlice (g := g) 3012 (xs := ([(x1).Side] : List Int)) (vs := [.int .i64 ((x1).Side)]) Try.underlying22 Try.sizeOf3 Try.zeroValue3 rfl rfl (.cons rfl .nil) (RVs.cons (RV_int.2 rfl) RVs.nil) rfl rfl fun g' w' v hs o r hxt hfl => ⟨g', hxt, r, o, hfl⟩) (fun u3 hv => ?_)
     clear hv
     refine L_do (φ := fun v g w => v = .bool (i6)) rfl rfl (.yes2 rfl rfl l5) (fun g w hd => D_call (g := g) (vs := [.int .i64 (0), .int .i64 (1), u3]) en87 (.cons rfl (.cons rfl (.cons rfl .nil))) (wk87 (word (A := fun g w => RV g.m w ([(x1).Side] : List Int) u3 ∧ OS 3012 g w 3 ([(x1).Side] : List Int) u3 ∧ FullV u3) 7 rfl rfl (deps_of hd)).1 g8) fun g' w' v hs hr => ⟨g', hs, hr⟩) (fun d9 hv => ?_)
     obtain ⟨_, _, _, rfl⟩ := hv
     refine L_p (.bool (i6)) rfl rfl (P_pick (b := x5) rfl (pick_t l5 rfl)) ?_
     refine L_p (.bool (i6)) rfl rfl (P_move rfl) ?_
     refine L_y (fPtr p1 0) rfl rfl rfl rfl i3 (P_fieldAddr at_102_0 rfl (PT.ptr q1)) ?_
     refine L_y (fPtr (fPtr p1 0) 0) rfl rfl rfl rfl i3 (P_fieldAddr at_25_0 rfl (PT.ptr k8)) ?_
     refine L_ld (c := m7) rfl rfl (.yes2 rfl rfl i3) (fun _ _ h => h.ch) m8 rfl ?_
     refine L_y (fPtr p2 1) rfl rfl rfl rfl i3 (P_fieldAddr at_87_1 rfl (PT.ptr q2)) ?_
     refine L_ld (c := .int .i64 ((x1).Side)) rfl rfl (.yes2 rfl rfl i3) (fun _ _ h => h.ch) n8 rfl ?_
     refine L_y (ePtr m7 (x1).Side 1) rfl rfl rfl rfl i3 (P_indexAddr (α := Int) Try.underlying22 Try.sizeOf3 rfl l8 rfl i8) ?_
     refine L_ld (c := .int .i64 (a7)) rfl rfl (.yes2 rfl rfl i3) (fun _ _ h => h.ch) q8 rfl ?_
     refine L_y (.int .i64 ((w64 (a7 - (1 : Int))))) rfl rfl rfl rfl i3 (P_int rfl rfl rfl) ?_
     refine L_y (fPtr p2 2) rfl rfl rfl rfl i3 (P_fieldAddr at_87_2 rfl (PT.ptr q2)) ?_
     refine L_ld (c := .int .i64 ((x1).Box)) rfl rfl (.yes2 rfl rfl i3) (fun _ _ h => h.ch) r8 rfl ?_
     refine L_do (φ := fun v g w => RV g.m w ([(x1).Box] : List Int) v ∧ OS 3026 g w 3 ([(x1).Box] : List Int) v ∧ FullV v) rfl rfl (.yes2 rfl rfl i3) (fun g w hd => D_buildSlice (g := g) 3026 (xs := ([(x1).Box] : List Int)) (vs := [.int .i64 ((x1).Box)]) Try.underlying22 Try.sizeOf3 Try.zeroValue3 rfl rfl (.cons rfl .nil) (RVs.cons (RV_int.2 rfl) RVs.nil) rfl rfl fun g' w' v hs o r hxt hfl => ⟨g', hxt, r, o, hfl⟩) (fun i5 hv => ?_)
     clear hv
     refine L_do (φ := fun v g w => v = .bool (v6)) rfl rfl (.yes2 rfl rfl i3) (fun g w hd => D_call (g := g) (vs := [.int .i64 (0), .int .i64 ((w64 (a7 - (1 : Int)))), i5]) en87 (.cons rfl (.cons rfl (.cons rfl .nil))) (wk87 (word (A := fun g w => RV g.m w ([(x1).Box] : List Int) i5 ∧ OS 3026 g w 3 ([(x1).Box] : List Int) i5 ∧ FullV i5) 21 rfl rfl (deps_of hd)).1 t8) fun g' w' v hs hr => ⟨g', hs, hr⟩) (fun z9 hv => ?_)
     obtain ⟨_, _, _, rfl⟩ := hv
     refine L_p (.bool (v6)) rfl rfl (P_pick (b := i6) rfl (pick_t i3 rfl)) ?_
     refine L_p (.bool (v6)) rfl rfl (P_move rfl) ?_
     iterate 8 refine L_s rfl rfl rfl t5 rfl ?_
     refine L_p (.bool false) rfl rfl (P_pick (b := v6) rfl (pick_f t5 rfl)) ?_
     refine L_dead (fun _ => rfl) 9 rfl ?_
     refine L_p (.bool false) rfl rfl (P_assign rfl) ?_
     refine L_nil fun lC zD hall => ?_
     have hs := hall.1
     have hfr := hfr.ext hs
     have aE := (word_all (A := fun g w => RV g.m w ([(x1).Colour] : List Int) o0 ∧ OS 3007 g w 3 ([(x1).Colour] : List Int) o0 ∧ FullV o0) 2 rfl hall).1
     have o439 := (word_all (A := fun g w => RV g.m w ([(x1).Colour] : List Int) o0 ∧ OS 3007 g w 3 ([(x1).Colour] : List Int) o0 ∧ FullV o0) 2 rfl hall).2.1
     have bE := (word_all (A := fun g w => RV g.m w ([(x1).Side] : List Int) u3 ∧ OS 3012 g w 3 ([(x1).Side] : List Int) u3 ∧ FullV u3) 7 rfl hall).1
     have o444 := (word_all (A := fun g w => RV g.m w ([(x1).Side] : List Int) u3 ∧ OS 3012 g w 3 ([(x1).Side] : List Int) u3 ∧ FullV u3) 7 rfl hall).2.1
     have cE := (word_all (A := fun g w => RV g.m w ([(x1).Box] : List Int) i5 ∧ OS 3026 g w 3 ([(x1).Box] : List Int) i5 ∧ FullV i5) 21 rfl hall).1
     have o458 := (word_all (A := fun g w => RV g.m w ([(x1).Box] : List Int) i5 ∧ OS 3026 g w 3 ([(x1).Box] : List Int) i5 ∧ FullV i5) 21 rfl hall).2.1
     clear hs hall
     refine EL_nil ?_
     obtain rfl := sinj h
     exact hQ _ _ ⟨lC, hfr, rfl⟩
   ·refine E_drawL (g := g2) (n := 44) [(2, (fun v g w => RV g.m w ([(x1).Colour] : List Int) v ∧ OS 3007 g w 3 ([(x1).Colour] : List Int) v ∧ FullV v)), (3, (fun v g w => v = .bool (x5))), (7, (fun v g w => RV g.m w ([(x1).Side] : List Int) v ∧ OS 3012 g w 3 ([(x1).Side] : List Int) v ∧ FullV v)), (8, (fun v g w => v = .bool (i6)))] [0, 1, 2, 3, 4, 5, 6, 7, 8, 9, 10, 11, 12, 13, 14, 15, 16, 17, 18, 19, 20, 21, 22, 23, 24, 25, 26, 27, 28, 29, 30, 31, 32, 33, 34, 35, 36, 37, 38, 39, 40, 41, 42, 43] rfl mixed (by kernel_rfl) (⟨fun _ => up_and up_rv (up_and up_os (up_eq _)), fun _ => up_eq _, fun _ => up_and up_rv (up_and up_os (up_eq _)), fun _ => up_eq _, trivial⟩) ?_
    refine L_p (fPtr p2 0) rfl rfl (P_fieldAddr at_87_0 rfl (PT.ptr q2)) ?_
    refine L_ld (c := .int .i64 ((x1).Colour)) rfl rfl .plain (fun _ _ h => h.ch) i7 rfl ?_
    refine L_do (φ := fun v g w => RV g.m w ([(x1).Colour] : List Int) v ∧ OS 3007 g w 3 ([(x1).Colour] : List Int) v ∧ FullV v) rfl rfl .plain (fun g w hd => D_buildSlice (g := g) 3007 (xs := ([(x1).Colour] : List Int)) (vs := [.int .i64 ((x1).Colour)]) Try.underlying22 Try.sizeOf3 Try.zeroValue3 rfl rfl (.cons rfl .nil) (RVs.cons (RV_int.2 rfl) RVs.nil) rfl rfl fun g' w' v hs o r hxt hfl => ⟨g', hxt, r, o, hfl⟩) (fun o0 hv => ?_)
    clear hv
    refine L_do (φ := fun v g w => v = .bool (x5)) rfl rfl .plain (fun g w hd => D_call (g := g) (vs := [.int .i64 (0), .int .i64 (9), o0]) en87 (.cons rfl (.cons rfl (.cons rfl .nil))) (wk87 (word (A := fun g w => RV g.m w ([(x1).Colour] : List Int) o0 ∧ OS 3007 g w 3 ([(x1).Colour] : List Int) o0 ∧ FullV o0) 2 rfl rfl (deps_of hd)).1 j7) fun g' w' v hs hr => ⟨g', hs, hr⟩) (fun v8 hv => ?_)
    obtain ⟨_, _, _, rfl⟩ := hv
    refine L_p (.bool (x5)) rfl rfl (P_move rfl) ?_
    refine L_y (fPtr p2 1) rfl rfl rfl rfl l5 (P_fieldAddr at_87_1 rfl (PT.ptr q2)) ?_
    refine L_ld (c := .int .i64 ((x1).Side)) rfl rfl (.yes2 rfl rfl l5) (fun _ _ h => h.ch) v7 rfl ?_
    refine L_do (φ := fun v g w => RV g.m w ([(x1).Side] : List Int) v ∧ OS 3012 g w 3 ([(x1).Side] : List Int) v ∧ FullV v) rfl rfl (.yes2 rfl rfl l5) (fun g w hd => D_buildSlice (g := g) 3012 (xs := ([(x1).Side] : List Int)) (vs := [.int .i64 ((x1).Side)]) Try.underlying22 Try.sizeOf3 Try.zeroValue3 rfl rfl (.cons rfl .nil) (RVs.cons (RV_int.2 rfl) RVs.nil) rfl rfl fun g' w' v hs o r hxt hfl => ⟨g', hxt, r, o, hfl⟩) (fun u3 hv => ?_)
    clear hv
    refine L_do (φ := fun v g w => v = .bool (i6)) rfl rfl (.yes2 rfl rfl l5) (fun g w hd => D_call (g := g) (vs := [.int .i64 (0), .int .i64 (1), u3]) en87 (.cons rfl (.cons rfl (.cons rfl .nil))) (wk87 (word (A := fun g w => RV g.m w ([(x1).Side] : List Int) u3 ∧ OS 3012 g w 3 ([(x1).Side] : List Int) u3 ∧ FullV u3) 7 rfl rfl (deps_of hd)).1 g8) fun g' w' v hs hr => ⟨g', hs, hr⟩) (fun d9 hv => ?_)
    obtain ⟨_, _, _, rfl⟩ := hv
    refine L_p (.bool (i6)) rfl rfl (P_pick (b := x5) rfl (pick_t l5 rfl)) ?_
    refine L_p (.bool (i6)) rfl rfl (P_move rfl) ?_
    iterate 12 refine L_s rfl rfl rfl i3 rfl ?_
    refine L_p (.bool false) rfl rfl (P_pick (b := i6) rfl (pick_f i3 rfl)) ?_
    refine L_dead (fun _ => rfl) 19 rfl ?_
    refine L_p (.bool false) rfl rfl (P_assign rfl) ?_
    refine L_nil fun mC dE hall => ?_
    have hs := hall.1
    have hfr := hfr.ext hs
    have eE := (word_all (A := fun g w => RV g.m w ([(x1).Colour] : List Int) o0 ∧ OS 3007 g w 3 ([(x1).Colour] : List Int) o0 ∧ FullV o0) 2 rfl hall).1
    have o488 := (word_all (A := fun g w => RV g.m w ([(x1).Colour] : List Int) o0 ∧ OS 3007 g w 3 ([(x1).Colour] : List Int) o0 ∧ FullV o0) 2 rfl hall).2.1
    have gE := (word_all (A := fun g w => RV g.m w ([(x1).Side] : List Int) u3 ∧ OS 3012 g w 3 ([(x1).Side] : List Int) u3 ∧ FullV u3) 7 rfl hall).1
    have o493 := (word_all (A := fun g w => RV g.m w ([(x1).Side] : List Int) u3 ∧ OS 3012 g w 3 ([(x1).Side] : List Int) u3 ∧ FullV u3) 7 rfl hall).2.1
    clear hs hall
    refine EL_nil ?_
    obtain rfl := sinj h
    exact hQ _ _ ⟨mC, hfr, rfl⟩
  ·refine E_drawL (g := g2) (n := 44) [(2, (fun v g w => RV g.m w ([(x1).Colour] : List Int) v ∧ OS 3007 g w 3 ([(x1).Colour] : List Int) v ∧ FullV v)), (3, (fun v g w => v = .bool (x5)))] [0, 1, 2, 3, 4, 5, 6, 7, 8, 9, 10, 11, 12, 13, 14, 15, 16, 17, 18, 19, 20, 21, 22, 23, 24, 25, 26, 27, 28, 29, 30, 31, 32, 33, 34, 35, 36, 37, 38, 39, 40, 41, 42, 43] rfl mixed (by kernel_rfl) (⟨fun _ => up_and up_rv (up_and up_os (up_eq _)), fun _ => up_eq _, trivial⟩) ?_
   refine L_p (fPtr p2 0) rfl rfl (P_fieldAddr at_87_0 rfl (PT.ptr q2)) ?_
   refine L_ld (c := .int .i64 ((x1).Colour)) rfl rfl .plain (fun _ _ h => h.ch) i7 rfl ?_
   refine L_do (φ := fun v g w => RV g.m w ([(x1).Colour] : List Int) v ∧ OS 3007 g w 3 ([(x1).Colour] : List Int) v ∧ FullV v) rfl rfl .plain (fun g w hd => D_buildSlice (g := g) 3007 (xs := ([(x1).Colour] : List Int)) (vs := [.int .i64 ((x1).Colour)]) Try.underlying22 Try.sizeOf3 Try.zeroValue3 rfl rfl (.cons rfl .nil) (RVs.cons (RV_int.2 rfl) RVs.nil) rfl rfl fun g' w' v hs o r hxt hfl => ⟨g', hxt, r, o, hfl⟩) (fun o0 hv => ?_)
   clear hv
   refine L_do (φ := fun v g w => v = .bool (x5)) rfl rfl .plain (fun g w hd => D_call (g := g) (vs := [.int .i64 (0), .int .i64 (9), o0]) en87 (.cons rfl (.cons rfl (.cons rfl .nil))) (wk87 (word (A := fun g w => RV g.m w ([(x1).Colour] : List Int) o0 ∧ OS 3007 g w 3 ([(x1).Colour] : List Int) o0 ∧ FullV o0) 2 rfl rfl (deps_of hd)).1 j7) fun g' w' v hs hr => ⟨g', hs, hr⟩) (fun v8 hv => ?_)
   obtain ⟨_, _, _, rfl⟩ := hv
   refine L_p (.bool (x5)) rfl rfl (P_move rfl) ?_
   iterate 4 refine L_s rfl rfl rfl l5 rfl ?_
   refine L_p (.bool false) rfl rfl (P_pick (b := x5) rfl (pick_f l5 rfl)) ?_
   refine L_dead (fun _ => rfl) 33 rfl ?_
   refine L_p (.bool false) rfl rfl (P_assign rfl) ?_
   refine L_nil fun qC iE hall => ?_
   have hs := hall.1
   have hfr := hfr.ext hs
   have jE := (word_all (A := fun g w => RV g.m w ([(x1).Colour] : List Int) o0 ∧ OS 3007 g w 3 ([(x1).Colour] : List Int) o0 ∧ FullV o0) 2 rfl hall).1
   have o537 := (word_all (A := fun g w => RV g.m w ([(x1).Colour] : List Int) o0 ∧ OS 3007 g w 3 ([(x1).Colour] : List Int) o0 ∧ FullV o0) 2 rfl hall).2.1
   clear hs hall
   refine EL_nil ?_
   obtain rfl := sinj h
   exact hQ _ _ ⟨qC, hfr, rfl⟩
 ·clear hx
  obtain ⟨kE, hfr, bA⟩ := hR
  refine E_ret ?_
  obtain rfl := sinj h
  exact end1 rfl rfl (show _ = .bool (d7) from bA) ⟨_, hfr, rfl⟩
def f85 (x0 : BoxBoxLoom) : Option (Bool) :=
 jn (σ := Unit) (fun _ =>
  some (true)
  ) fun z9 =>
 lp (σ := Int) (fun bA i3 =>
  bif (decide (i3 < ((((x0).BoxLoom).Boxes).length : Int))) then
   jn (σ := Unit) (fun _ =>
    bA ((w64 (i3 + (1 : Int))))
    ) fun v7 =>
   (idx (((x0).BoxLoom).Boxes) i3).bind fun l5 =>
   Option.bind (α := Bool) (
    (f87 ((1 : Int)) ((4 : Int)) (([l5] : List Int))).bind fun y130 =>
    bif (!y130) then
     some (true)
    else
     (idx (((x0).BoxLoom).At) i3).bind fun y135 =>
     (f87 ((0 : Int)) ((w64 (l5 - (1 : Int)))) (([y135] : List Int))).bind fun y140 =>
     some ((!y140))
    ) fun t5 =>
   bif t5 then
    some (false)
   else
    v7 ()
  else
   z9 ()
  ) big ((0 : Int))
theorem en85 : Enters Try.prog 85 := enters_of Try.func85 (by kernel_rfl) rfl
theorem wk85 {gI : Gh} {wI : World} {x0 : BoxBoxLoom} {up0 : Value} (rp0 : RV gI.m wI x0 up0) {r : Bool} (h : f85 x0 = some r) : Fn Try.prog 85 #[up0] gI wI (fun _ _ v => v = .bool (r)) := by
 unfold f85 at h
 refine fn_of_E Try.func85 rfl (Nat.le_of_ble_eq_true rfl) fun g0 hm hfr => ?_
 have rp0 : RV g0.m wI x0 up0 := hm ▸ rp0
 show E _ 32 none _ _ _ _ _
 refine E_seq (E_region (EL_do .plain rfl (D_box (g := g0) rfl rp0 fun g1 w1 p1 hs q1 => ?_)))
 have hfr := hfr.ext hs
 refine EL_at (.bool false) rfl rfl ?_
 refine EL_nil (thn_n (E_joinC h (fun (s : Unit) e w => ∃ (g : Gh) , Fr gI wI g w) (fun X73 z9 jA h => ?_) ?_))
 ·refine E_seq (E_region (EL_p (fPtr p1 0) (P_fieldAddr at_102_0 rfl (PT.ptr q1)) rfl ?_))
  have gA := PT_field (part_BoxBoxLoom_0).1 q1
  refine EL_p (fPtr (fPtr p1 0) 0) (P_fieldAddr at_25_0 rfl (PT.ptr gA)) rfl ?_
  have zB := PT_field (part_BoxLoom_0).1 gA
  refine EL_do .plain rfl (D_load (g := g1) Try.isAgg22 Try.sizeOf22 rfl zB fun i6 iA => ?_)
  refine EL_p (.int .i64 ((((x0).BoxLoom).Boxes).length : Int)) (P_len Try.underlying22 rfl iA) rfl ?_
  refine EL_mw (.int .i64 (0)) rfl rfl ?_
  refine EL_nil (thn_n (E_block ?_))
  refine E_lp h (fun (s : Int) e w => ∃ (g : Gh) , Fr gI wI g w ∧ e 1 = p1 ∧ PT g.m w (x0 : BoxBoxLoom) p1 ∧ e 7 = i6 ∧ RV g.m w (((x0).BoxLoom).Boxes : List Int) i6 ∧ e 8 = .int .i64 (((((x0).BoxLoom).Boxes).length : Int)) ∧ e 9 = .int .i64 (s)) ⟨g1, hfr, rfl, q1, rfl, iA, rfl, rfl⟩ (fun X77 bA mA => ?_)
  rintro i3 mC jD ⟨g8, hfr, v6, u3, x6, i5, y6, x5⟩ h
  refine E_seq (E_region (EL_p (.bool ((decide (i3 < ((((x0).BoxLoom).Boxes).length : Int))))) (P_int x5 y6 rfl) rfl ?_))
  refine EL_nil (thn_n (E_seq ?_))
  rcases csome h with ⟨i7, h⟩ | ⟨i7, h⟩
  ·refine E_ct i7 rfl ?_
   refine E_skip (thn_n (E_joinC h (fun (s : Unit) e w => ∃ (g : Gh) , Fr gI wI g w ∧ e 1 = p1 ∧ PT g.m w (x0 : BoxBoxLoom) p1 ∧ e 7 = i6 ∧ RV g.m w (((x0).BoxLoom).Boxes : List Int) i6 ∧ e 8 = .int .i64 (((((x0).BoxLoom).Boxes).length : Int)) ∧ e 9 = .int .i64 (i3)) (fun X111 v7 n9 h => ?_) ?_))
   ·refine E_block ?_
    refine E_seq (E_region (EL_mv x5 rfl ?_))
    obtain ⟨l5, j7, h⟩ := bsome h
    refine EL_p (ePtr i6 i3 1) (P_indexAddr (α := Int) Try.underlying22 Try.sizeOf3 x6 i5 x5 j7) rfl ?_
    have pA := PT_idx i5 j7
    refine EL_do .plain rfl (D_load (g := g8) Try.isAgg3 Try.sizeOf3 rfl pA fun qC qA => ?_)
    obtain rfl := RV_int.1 qA
    refine EL_at (.int .i64 (i3)) rfl rfl ?_
    refine EL_at (.int .i64 (l5)) rfl rfl ?_
    refine EL_nil (thn_n ?_)
    obtain ⟨t5, hx, h⟩ := bsome h
    refine E_join (fun e w => ∃ (g : Gh) , Fr gI wI g w ∧ e 1 = p1 ∧ PT g.m w (x0 : BoxBoxLoom) p1 ∧ e 7 = i6 ∧ RV g.m w (((x0).BoxLoom).Boxes : List Int) i6 ∧ e 8 = .int .i64 (((((x0).BoxLoom).Boxes).length : Int)) ∧ e 9 = .int .i64 (i3) ∧ e 30 = .bool (t5)) (fun Q' hQ => ?_) (fun aC rC hR => ?_)
    ·replace h := hx
     clear hx
     refine E_region (EL_mw (.int .i64 (l5)) rfl rfl ?_)
     refine EL_do .plain rfl (D_buildSlice (g := g8) 3015 (xs := ([l5] : List Int)) (vs := [.int .i64 (l5)]) Try.underlying22 Try.sizeOf3 Try.zeroValue3 rfl rfl (.cons rfl .nil) (RVs.cons (RV_int.2 rfl) RVs.nil) rfl rfl fun rA uC yA hs o128 aB hxt hfl => ?_)
     have hfr := hfr.stp hs
     have u3 := u3.stp hs
     have i5 := i5.stp hs
     obtain ⟨y130, u9, h⟩ := bsome h
     refine EL_do .plain rfl (D_call (g := rA) (vs := [.int .i64 (1), .int .i64 (4), yA]) en87 (.cons rfl (.cons rfl (.cons rfl .nil))) (wk87 aB u9) fun a7 cC vC hs hr => ?_)
     have hfr := hfr.ext hs
     have u3 := u3.ext hs
     have i5 := i5.ext hs
     subst hr
     refine EL_p (.bool (!y130)) (P_not rfl) rfl ?_
     refine EL_mw (.bool (!y130)) rfl rfl ?_
     rcases csome h with ⟨o0, h⟩ | ⟨o0, h⟩
     ·refine EL_s rfl rfl o0 rfl rfl ?_
      iterate 10 refine EL_s rfl rfl o0 rfl rfl ?_
      refine EL_p (.bool true) (P_pick (b := (!y130)) rfl (pick_t o0 rfl)) rfl ?_
      refine EL_nil ?_
      obtain rfl := sinj h
      exact hQ _ _ ⟨a7, hfr, v6, u3, x6, i5, y6, x5, rfl⟩
     ·refine EL_y (.int .i64 (l5)) (P_move rfl) rfl rfl o0 rfl ?_
      refine EL_y (.int .i64 ((w64 (l5 - (1 : Int))))) (P_int rfl rfl rfl) rfl rfl o0 rfl ?_
      refine EL_y (fPtr p1 0) (P_fieldAddr at_102_0 v6 (PT.ptr u3)) rfl rfl o0 rfl ?_
      have i8 := PT_field (part_BoxBoxLoom_0).1 u3
      refine EL_y (fPtr (fPtr p1 0) 1) (P_fieldAddr at_25_1 rfl (PT.ptr i8)) rfl rfl o0 rfl ?_
      have dB := PT_field (part_BoxLoom_1).1 i8
      refine EL_do (.yes2 rfl rfl o0) rfl (D_load (g := a7) Try.isAgg22 Try.sizeOf22 rfl dB fun iB k8 => ?_)
      refine EL_y (.int .i64 (i3)) (P_move rfl) rfl rfl o0 rfl ?_
      obtain ⟨y135, m7, h⟩ := bsome h
      refine EL_y (ePtr iB i3 1) (P_indexAddr (α := Int) Try.underlying22 Try.sizeOf3 rfl k8 rfl m7) rfl rfl o0 rfl ?_
      have jB := PT_idx k8 m7
      refine EL_do (.yes2 rfl rfl o0) rfl (D_load (g := a7) Try.isAgg3 Try.sizeOf3 rfl jB fun aD lB => ?_)
      obtain rfl := RV_int.1 lB
      refine EL_do (.yes2 rfl rfl o0) rfl (D_buildSlice (g := a7) 3027 (xs := ([y135] : List Int)) (vs := [.int .i64 (y135)]) Try.underlying22 Try.sizeOf3 Try.zeroValue3 rfl rfl (.cons rfl .nil) (RVs.cons (RV_int.2 rfl) RVs.nil) rfl rfl fun mB bD nB hs o138 oB hxt hfl => ?_)
      have hfr := hfr.stp hs
      have u3 := u3.stp hs
      have i5 := i5.stp hs
      obtain ⟨y140, y9, h⟩ := bsome h
      refine EL_do (.yes2 rfl rfl o0) rfl (D_call (g := mB) (vs := [.int .i64 (0), .int .i64 ((w64 (l5 - (1 : Int)))), nB]) en87 (.cons rfl (.cons rfl (.cons rfl .nil))) (wk87 oB y9) fun tB eC cD hs hr => ?_)
      have hfr := hfr.ext hs
      have u3 := u3.ext hs
      have i5 := i5.ext hs
      subst hr
      refine EL_y (.bool (!y140)) (P_not rfl) rfl rfl o0 rfl ?_
      refine EL_p (.bool (!y140)) (P_pick (b := (!y130)) rfl (pick_f o0 rfl)) rfl ?_
      refine EL_nil ?_
      obtain rfl := sinj h
      exact hQ _ _ ⟨tB, hfr, v6, u3, x6, i5, y6, x5, rfl⟩
    ·clear hx
     obtain ⟨vB, hfr, l8, m8, n8, q8, r8, t8, j6⟩ := hR
     rcases csome h with ⟨d7, h⟩ | ⟨d7, h⟩
     ·refine E_cond_true (Eq.trans (show ev _ _ = .bool (t5) from j6) (congrArg Value.bool d7)) ?_
      refine E_seq (E_region (EL_at (.bool false) rfl rfl ?_))
      refine EL_nil (thn_n (E_ret (blk_r ?_)))
      refine thn_r ?_
      refine thn_r ?_
      refine blk_r ?_
      refine thn_r ?_
      obtain rfl := sinj h
      exact end1 rfl rfl (show _ = .bool false from rfl) ⟨_, hfr, rfl⟩
     ·refine E_cond_false (Eq.trans (show ev _ _ = .bool (t5) from j6) (congrArg Value.bool d7)) ?_
      exact E_skip (blk_n (thn_n (n9 () _ _ ⟨vB, hfr, l8, m8, n8, q8, r8, t8⟩ h)))
   ·rintro _ iC eD ⟨yB, hfr, v8, x8, a9, d9, k9, l9⟩ h
    refine E_region (EL_in (.int .i64 ((w64 (i3 + (1 : Int))))) l9 rfl rfl rfl ?_)
    refine EL_mw (.int .i64 ((w64 (i3 + (1 : Int))))) rfl rfl ?_
    exact EL_nil (thn_n (mA ((w64 (i3 + (1 : Int)))) _ _ ⟨yB, hfr, v8, x8, a9, d9, k9, rfl⟩ h))
  ·refine E_cf i7 rfl ?_
   refine E_exit ?_
   refine thn_e ?_
   refine thn_e ?_
   refine blk_hit ?_
   exact thn_n (jA () _ _ ⟨g8, hfr⟩ h)
 ·rintro _ lC gD ⟨iD, hfr⟩ h
  refine E_seq (E_region (EL_at (.bool true) rfl rfl ?_))
  refine EL_nil (thn_n (E_ret ?_))
  obtain rfl := sinj h
  exact end1 rfl rfl (show _ = .bool true from rfl) ⟨_, hfr, rfl⟩
end Go.Proofs.Ytmpjooneiaiffaa
