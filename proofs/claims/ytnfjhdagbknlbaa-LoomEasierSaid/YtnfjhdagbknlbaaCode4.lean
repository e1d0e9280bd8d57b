import Derived.Test.YtnfjhdagbknlbaaCode3
set_option maxRecDepth 8000
set_option maxHeartbeats 4000000
namespace Go.Proofs.Ytnfjhdagbknlbaa
open Go.RowKit
def f81 (x0 : Int) (x1 : Int) (x2 : List Int) : Option (Bool) :=
 (f95 x2 ((fun a0 => f96 a0 x0 x1))).bind fun y4 =>
 some ((!y4))
theorem en81 : Enters Try.prog 81 := enters_of Try.func81 (by kernel_rfl) rfl
theorem wk81 {gI : Gh} {wI : World} {x0 : Int} {x1 : Int} {x2 : List Int} {up2 : Value} (rp2 : RV gI.m wI x2 up2) {r : Bool} (h : f81 x0 x1 x2 = some r) : Fn Try.prog 81 #[.int .i64 (x0), .int .i64 (x1), up2] gI wI (fun _ _ v => v = .bool (r)) := by
 unfold f81 at h
 refine fn_of_E Try.func81 rfl (Nat.le_of_ble_eq_true rfl) fun g0 hm hfr => ?_
 have rp2 : RV g0.m wI x2 up2 := hm ▸ rp2
 show E _ 11 none _ _ _ _ _
 refine E_seq (E_region (EL_do .plain rfl (D_box (g := g0) rfl (RV_int.2 rfl) fun g1 w1 p1 hs q1 => ?_)))
 have hfr := hfr.ext hs
 have rp2 := rp2.ext hs
 refine EL_do .plain rfl (D_box (g := g1) rfl (RV_int.2 rfl) fun g2 w2 p2 hs q2 => ?_)
 have hfr := hfr.ext hs
 have rp2 := rp2.ext hs
 have q1 := q1.ext hs
 refine EL_at (.bool false) rfl rfl ?_
 refine EL_nil (thn_n (E_seq (E_region (EL_mw up2 rfl rfl ?_))))
 refine EL_p ((.func (.func 96) #[] #[p1, p2])) (P_makeFunc (capf_0_2 (show ev _ _ = p1 from rfl) (show ev _ _ = p2 from rfl))) rfl ?_
 obtain ⟨y4, o0, h⟩ := bsome h
 refine EL_do .plain rfl (D_call (g := g2) (vs := [up2, (.func (.func 96) #[] #[p1, p2])]) en95 (.cons rfl (.cons rfl .nil)) (wk95 rp2 ⟨96, #[], #[p1, p2], rfl, en96, fun g' w' hch a0 b0 r hu0 hr => by obtain rfl := RV_int.1 hu0; exact Fn.mono (wk96  (q1.ch hch) (q2.ch hch) hr) fun _ _ _ h => RV_bool.2 h⟩ o0) fun g3 w3_ v3 hs hr => ?_)
 have hfr := hfr.ext hs
 subst hr
 refine EL_p (.bool (!y4)) (P_not rfl) rfl ?_
 refine EL_at (.bool (!y4)) rfl rfl ?_
 refine EL_nil (thn_n (E_ret ?_))
 obtain rfl := sinj h
 exact end1 rfl rfl (show _ = .bool (!y4) from rfl) ⟨_, hfr, rfl⟩
def f83 (x0 : LoomLoomMill) (x1 : Int) (x2 : List (Int × LoomRun)) : Option ((List Bool)) :=
 (shl64 (1 : Int) (((x0).orders).length : Int)).bind fun y6 =>
 (mks 1 (false : Bool) y6).bind fun y7 =>
 (idx y7 (0 : Int)).bind fun y9 =>
 Option.bind (α := (List Bool)) (
  lp (σ := (List Bool) × (Vector (Vector Int 7) 128) × Int) (fun aE (r8, rA, u3) =>
   jn (σ := Unit) (fun _ =>
    Option.bind (α := (List Bool) × (Vector (Vector Int 7) 128)) (
     lp (σ := (List Bool) × (Vector (Vector Int 7) 128) × Int) (fun bE (x6, x5, o0) =>
      bif (decide (o0 < (((x0).orders).length : Int))) then
       Option.bind (α := (List Bool) × (Vector (Vector Int 7) 128)) (
        (idx (x5).toList u3).bind fun cE =>
        (idx (cE).toList o0).bind fun jH =>
        jn (σ := Unit) (fun _ =>
         (f98 x0 ((vmod x5 u3 (fun b => (vset b o0 ((1048576 : Int)))))) u3 o0 x1 x2).bind fun d7 =>
         bif (decide (d7 < (1048576 : Int))) then
          (idx ((x0).orders) o0).bind fun eC =>
          (idx ((vmod x5 u3 (fun b => (vset b o0 ((1048576 : Int)))))).toList u3).bind fun dE =>
          (idx (dE).toList o0).bind fun kH =>
          (idx x6 u3).bind fun lH =>
          some ((List.set x6 (Int.toNat u3) true), (vmod ((vmod x5 u3 (fun b => (vset b o0 ((1048576 : Int)))))) u3 (fun b => (vset b o0 ((w64 (d7 + (eC).Woven)))))))
         else
          some (x6, (vmod x5 u3 (fun b => (vset b o0 ((1048576 : Int))))))
         ) fun eE =>
        (shr64 u3 o0).bind fun yA =>
        bif ((bit64 .and yA (1 : Int)) == (0 : Int)) then
         some (x6, (vmod x5 u3 (fun b => (vset b o0 ((1048576 : Int))))))
        else
         eE ()
        ) fun (x8, a9) =>
       bE (x8, a9, (w64 (o0 + (1 : Int))))
      else
       some (x6, x5)
      ) big (r8, rA, (0 : Int))
     ) fun (d9, k9) =>
    aE (d9, k9, (w64 (u3 + (1 : Int))))
    ) fun iE =>
   bif (decide (u3 < y6)) then
    iE ()
   else
    some (r8)
   ) big ((List.set y7 (Int.toNat (0 : Int)) true), ((Vector.replicate 128 (⟨List.toArray [0, 0, 0, 0, 0, 0, 0], rfl⟩ : Vector Int 7)) : Vector (Vector Int 7) 128), (1 : Int))
  ) fun aB =>
 some (aB)
theorem en83 : Enters Try.prog 83 := enters_of Try.func83 (by kernel_rfl) rfl
theorem wk83 {gI : Gh} {wI : World} {x0 : LoomLoomMill} {x1 : Int} {x2 : List (Int × LoomRun)} {up0 : Value} (rp0 : RV gI.m wI x0 up0) {up2 : Value} (mq2 : MR (Value.int .i64) gI wI x2 up2) {r : (List Bool)} (h : f83 x0 x1 x2 = some r) : Fn Try.prog 83 #[up0, .int .i64 (x1), up2] gI wI (fun m w v => RV m w (r) v) := by
 unfold f83 at h
 refine fn_of_E Try.func83 rfl (Nat.le_of_ble_eq_true rfl) fun g0 hm hfr => ?_
 have rp0 : RV g0.m wI x0 up0 := hm ▸ rp0
 have mq2 := MQ.enter mq2 hm hfr
 show E _ 65 none _ _ _ _ _
 refine E_seq (E_region (EL_do .plain rfl (D_box (g := g0) rfl rp0 fun g1 w1 p1 hs q1 => ?_)))
 have hfr := hfr.ext hs
 have rp0 := rp0.ext hs
 have mq2 := mq2.ext hs
 refine EL_at (.slice none 0 0) rfl rfl ?_
 have b2 : OA 4006 g1 w1 4 ([] : List Bool) (.slice none 0 0) := OA.nil
 refine EL_nil (thn_n (E_seq (E_region (EL_do .plain rfl (D_allocOc (g := g1) 2007 ((Vector.replicate 128 (⟨List.toArray [0, 0, 0, 0, 0, 0, 0], rfl⟩ : Vector Int 7)) : Vector (Vector Int 7) 128) Try.zeroValue150 (fun m w => ⟨_, (rep_replicate (rep_vec (flat_chunk rep_int (flat_chunk rep_int (flat_chunk rep_int (flat_chunk rep_int (flat_chunk rep_int (flat_chunk rep_int (flat_chunk rep_int flat_nil))))))) rfl)), by kernel_rfl⟩) fun g3 w3 p3 hs b3 cb => ?_)))))
 have hfr := hfr.stp hs
 have rp0 := rp0.stp hs
 have mq2 := mq2.stp hs
 have q1 := q1.stp hs
 have b2 := b2.stp hs rfl
 clear cb
 refine EL_nil (thn_n (E_seq (E_region (EL_p (fPtr p1 2) (P_fieldAddr at_96_1 rfl (PT.ptr q1)) rfl ?_))))
 have q4 := PT_field (part_LoomLoomMill_1).1 q1
 refine EL_do .plain rfl (D_load (g := g3) Try.isAgg25 Try.sizeOf25 rfl q4 fun v5 r5 => ?_)
 refine EL_p (.int .i64 (((x0).orders).length : Int)) (P_len Try.underlying25 rfl r5) rfl ?_
 obtain ⟨y6, yH, h⟩ := bsome h
 refine EL_p (.int .i64 (y6)) (P_int rfl rfl (congrArg (Option.map (Value.int .i64)) yH)) rfl ?_
 refine EL_at (.int .i64 (y6)) rfl rfl ?_
 refine EL_nil (thn_n (E_seq (E_region (EL_mw (.int .i64 (y6)) rfl rfl ?_))))
 obtain ⟨y7, zH, h⟩ := bsome h
 refine EL_do .plain rfl (D_makeSliceM (g := g3) 9017 (false : Bool) rfl Try.underlying101 info_4 rfl (fun _ _ => rfl) rfl rfl zH fun g8 w8 v8 hs b8 => ?_)
 have hfr := hfr.stp hs
 have rp0 := rp0.stp hs
 have mq2 := mq2.stp hs
 have q1 := q1.stp hs
 have b2 := b2.stp hs rfl
 have b3 := b3.stp hs rfl
 have q4 := q4.stp hs
 have r5 := r5.stp hs
 refine EL_at v8 rfl rfl ?_
 refine EL_nil (thn_n (E_seq (E_region (EL_mw v8 rfl rfl ?_))))
 obtain ⟨y9, iH, h⟩ := bsome h
 refine EL_p (ePtr v8 (0 : Int) 1) (P_indexAddrM (α := Bool) Try.underlying101 Try.sizeOf4 rfl b8 rfl iH) rfl ?_
 refine EL_do .plain rfl (D_storeM (g := g8) (α := Bool) (a' := true) Try.sizeOf4 rfl b8 iH rfl (RV_bool.2 rfl) fun aI iJ hs b10 => ?_)
 have hfr := hfr.stp hs
 have rp0 := rp0.stp hs
 have mq2 := mq2.stp hs
 have q1 := q1.stp hs
 have b3 := b3.stp hs rfl
 have q4 := q4.stp hs
 have r5 := r5.stp hs
 refine EL_nil (thn_n ?_)
 obtain ⟨aB, hx, h⟩ := bsome h
 refine E_join (fun e w => ∃ (g : Gh) , Fr gI wI g w ∧ e 6 = v8 ∧ OM 9017 g w 4 (aB : List Bool) v8) (fun Q' hQ => ?_) (fun bI pI hR => ?_)
 ·replace h := hx
  clear hx
  refine E_seq (E_region (EL_at (.int .i64 (1)) rfl rfl ?_))
  refine EL_nil (thn_n (E_block ?_))
  refine E_lp h (fun (s : (List Bool) × (Vector (Vector Int 7) 128) × Int) e w => ∃ (g : Gh) , Fr gI wI g w ∧ e 1 = .int .i64 (x1) ∧ e 2 = up2 ∧ MQ (Value.int .i64) wI.heap.size g w (x2 : List (Int × LoomRun)) up2 ∧ e 3 = p1 ∧ PT g.m w (x0 : LoomLoomMill) p1 ∧ e 6 = v8 ∧ OM 9017 g w 4 (s.1 : List Bool) v8 ∧ e 7 = p3 ∧ OB 2007 g w 150 (s.2.1 : Vector (Vector Int 7) 128) p3 ∧ e 8 = .int .i64 (y6) ∧ e 9 = .int .i64 (s.2.2)) ⟨aI, hfr, rfl, rfl, mq2, rfl, q1, rfl, b10, rfl, b3, rfl, rfl⟩ (fun X271 aE vG => ?_)
  rintro ⟨r8, rA, u3⟩ dI qI ⟨jE, hfr, kE, lE, mE, nE, oE, bD, cD, rE, sE, eD, gD⟩ h
  refine E_joinC h (fun (s : Unit) e w => ∃ (g : Gh) , Fr gI wI g w ∧ e 1 = .int .i64 (x1) ∧ e 2 = up2 ∧ MQ (Value.int .i64) wI.heap.size g w (x2 : List (Int × LoomRun)) up2 ∧ e 3 = p1 ∧ PT g.m w (x0 : LoomLoomMill) p1 ∧ e 6 = v8 ∧ OM 9017 g w 4 (r8 : List Bool) v8 ∧ e 7 = p3 ∧ OB 2007 g w 150 (rA : Vector (Vector Int 7) 128) p3 ∧ e 8 = .int .i64 (y6) ∧ e 9 = .int .i64 (u3)) (fun X274 iE xG h => ?_) ?_
  ·refine E_seq (E_region (EL_mv gD rfl ?_))
   refine EL_mv eD rfl ?_
   refine EL_in (.bool ((decide (u3 < y6)))) rfl rfl rfl rfl ?_
   refine EL_nil (thn_n ?_)
   rcases csome h with ⟨mC, h⟩ | ⟨mC, h⟩
   ·refine E_ct mC rfl ?_
    exact E_skip (thn_n (xG () _ _ ⟨jE, hfr, kE, lE, mE, nE, oE, bD, cD, rE, sE, eD, gD⟩ h))
   ·refine E_cf mC rfl ?_
    refine E_exit ?_
    refine thn_e ?_
    refine thn_e ?_
    refine blk_hit ?_
    obtain rfl := sinj h
    exact hQ _ _ ⟨jE, hfr, bD, cD⟩
  ·rintro _ iI sI ⟨tE, hfr, uE, vE, xE, iD, dB, yE, zE, cF, dF, eF, iF⟩ h
   obtain ⟨⟨d9, k9⟩, hx, h⟩ := bsome h
   refine E_join (fun e w => ∃ (g : Gh) , Fr gI wI g w ∧ e 1 = .int .i64 (x1) ∧ e 2 = up2 ∧ MQ (Value.int .i64) wI.heap.size g w (x2 : List (Int × LoomRun)) up2 ∧ e 3 = p1 ∧ PT g.m w (x0 : LoomLoomMill) p1 ∧ e 6 = v8 ∧ OM 9017 g w 4 (d9 : List Bool) v8 ∧ e 7 = p3 ∧ OB 2007 g w 150 (k9 : Vector (Vector Int 7) 128) p3 ∧ e 8 = .int .i64 (y6) ∧ e 9 = .int .i64 (u3)) (fun Q' hQ => ?_) (fun jI tI hR => ?_)
   ·replace h := hx
    clear hx
    refine E_block ?_
    refine E_seq (E_region (EL_p (fPtr p1 2) (P_fieldAddr at_96_1 iD (PT.ptr dB)) rfl ?_))
    have mH := PT_field (part_LoomLoomMill_1).1 dB
    refine EL_do .plain rfl (D_load (g := tE) Try.isAgg25 Try.sizeOf25 rfl mH fun uI nH => ?_)
    refine EL_p (.int .i64 (((x0).orders).length : Int)) (P_len Try.underlying25 rfl nH) rfl ?_
    refine EL_mw (.int .i64 (0)) rfl rfl ?_
    refine EL_nil (thn_n (E_block ?_))
    refine E_lp h (fun (s : (List Bool) × (Vector (Vector Int 7) 128) × Int) e w => ∃ (g : Gh) , Fr gI wI g w ∧ e 1 = .int .i64 (x1) ∧ e 2 = up2 ∧ MQ (Value.int .i64) wI.heap.size g w (x2 : List (Int × LoomRun)) up2 ∧ e 3 = p1 ∧ PT g.m w (x0 : LoomLoomMill) p1 ∧ e 6 = v8 ∧ OM 9017 g w 4 (s.1 : List Bool) v8 ∧ e 7 = p3 ∧ OB 2007 g w 150 (s.2.1 : Vector (Vector Int 7) 128) p3 ∧ e 8 = .int .i64 (y6) ∧ e 9 = .int .i64 (u3) ∧ e 27 = .int .i64 ((((x0).orders).length : Int)) ∧ e 28 = .int .i64 (s.2.2)) ⟨tE, hfr, uE, vE, xE, iD, dB, yE, zE, cF, dF, eF, iF, rfl, rfl⟩ (fun X405 bE yG => ?_)
    rintro ⟨x6, x5, o0⟩ kI vI ⟨nF, hfr, iB, jB, i7, lB, m7, mB, k8, l9, n9, nB, l8, bA, n8⟩ h
    refine E_seq (E_region (EL_p (.bool ((decide (o0 < (((x0).orders).length : Int))))) (P_int n8 bA rfl) rfl ?_))
    refine EL_nil (thn_n (E_seq ?_))
    rcases csome h with ⟨qC, h⟩ | ⟨qC, h⟩
    ·refine E_ct qC rfl ?_
     refine E_skip (thn_n ?_)
     obtain ⟨⟨x8, a9⟩, hx, h⟩ := bsome h
     refine E_join (fun e w => ∃ (g : Gh) , Fr gI wI g w ∧ e 1 = .int .i64 (x1) ∧ e 2 = up2 ∧ MQ (Value.int .i64) wI.heap.size g w (x2 : List (Int × LoomRun)) up2 ∧ e 3 = p1 ∧ PT g.m w (x0 : LoomLoomMill) p1 ∧ e 6 = v8 ∧ OM 9017 g w 4 (x8 : List Bool) v8 ∧ e 7 = p3 ∧ OB 2007 g w 150 (a9 : Vector (Vector Int 7) 128) p3 ∧ e 8 = .int .i64 (y6) ∧ e 9 = .int .i64 (u3) ∧ e 27 = .int .i64 ((((x0).orders).length : Int)) ∧ e 28 = .int .i64 (o0)) (fun Q' hQ => ?_) (fun lI xI hR => ?_)
     ·replace h := hx
      clear hx
      refine E_block ?_
      refine E_seq (E_region (EL_mv n8 rfl ?_))
      refine EL_at (.int .i64 (o0)) rfl rfl ?_
      refine EL_nil (thn_n (E_seq (E_region (EL_mv l8 rfl ?_))))
      refine EL_mw (.int .i64 (o0)) rfl rfl ?_
      obtain ⟨cE, oD, h⟩ := bsome h
      obtain ⟨hi469, he469⟩ := vat_idx oD
      refine EL_p (fPtr p3 ((u3 : Int).toNat * 7)) (P_indexAddrA (α := Vector Int 7) Try.underlying150 Try.sizeOf148 l9 (OB.ptr n9) rfl oD) rfl ?_
      obtain ⟨jH, sD, h⟩ := bsome h
      obtain ⟨hi471, he471⟩ := vat_idx sD
      refine EL_p (fPtr p3 (((u3 : Int).toNat * 7) + (o0 : Int).toNat * 1)) (P_indexAddrA2 (α := Int) (o1 := ((u3 : Int).toNat * 7)) rfl Try.underlying148 Try.sizeOf3 rfl (OB.ptr n9) rfl sD) rfl ?_
      refine EL_do .plain rfl (D_storeFc (g := nF) (SubS.at_ (SubS.dynC hi469 (SubS.dyn hi471) rfl) (by first | rfl | exact Nat.add_assoc _ _ _ | simp only [Nat.add_assoc, Nat.zero_add] | omega)) Try.sizeOf3 rfl n9 rfl (RV_int.2 rfl) fun oF yI hs b472 rst hos => ?_)
      clear rst hos
      have hfr := hfr.stp hs
      have i7 := i7.stp hs
      have m7 := m7.stp hs
      have k8 := k8.stp hs rfl
      refine EL_nil (thn_n (E_joinC h (fun (s : Unit) e w => ∃ (g : Gh) , Fr gI wI g w ∧ e 1 = .int .i64 (x1) ∧ e 2 = up2 ∧ MQ (Value.int .i64) wI.heap.size g w (x2 : List (Int × LoomRun)) up2 ∧ e 3 = p1 ∧ PT g.m w (x0 : LoomLoomMill) p1 ∧ e 6 = v8 ∧ OM 9017 g w 4 (x6 : List Bool) v8 ∧ e 7 = p3 ∧ OB 2007 g w 150 ((vmod x5 u3 (fun b => (vset b o0 ((1048576 : Int))))) : Vector (Vector Int 7) 128) p3 ∧ e 8 = .int .i64 (y6) ∧ e 9 = .int .i64 (u3) ∧ e 10 = .int .i64 (o0) ∧ e 27 = .int .i64 ((((x0).orders).length : Int)) ∧ e 28 = .int .i64 (o0)) (fun X475 eE zG h => ?_) ?_))
      ·refine E_seq (E_region (EL_mv l8 rfl ?_))
       refine EL_mw (.int .i64 (o0)) rfl rfl ?_
       obtain ⟨yA, aH, h⟩ := bsome h
       refine EL_p (.int .i64 (yA)) (P_int rfl rfl (congrArg (Option.map (Value.int .i64)) aH)) rfl ?_
       refine EL_in (.int .i64 ((bit64 .and yA (1 : Int)))) rfl rfl rfl rfl ?_
       refine EL_in (.bool (((bit64 .and yA (1 : Int)) == (0 : Int)))) rfl rfl rfl rfl ?_
       refine EL_nil (thn_n ?_)
       rcases csome h with ⟨rC, h⟩ | ⟨rC, h⟩
       ·refine E_ct rC rfl ?_
        refine E_exit ?_
        refine thn_e ?_
        refine blk_hit ?_
        obtain ⟨rfl, rfl⟩ := pairs2 h
        exact hQ _ _ ⟨oF, hfr, iB, jB, i7, lB, m7, mB, k8, l9, b472, nB, l8, bA, n8⟩
       ·refine E_cf rC rfl ?_
        exact E_skip (thn_n (zG () _ _ ⟨oF, hfr, iB, jB, i7, lB, m7, mB, k8, l9, b472, nB, l8, rfl, bA, n8⟩ h))
      ·rintro _ mI zI ⟨pF, hfr, oB, tB, t5, u9, l5, vB, i6, z9, j6, jD, m8, iA, zB, cC⟩ h
       refine E_seq (E_region (EL_do .plain rfl (D_load (g := pF) Try.isAgg96 Try.sizeOf96 u9 l5 fun oH yB => ?_)))
       refine EL_mv m8 rfl ?_
       refine EL_mv iA rfl ?_
       refine EL_mv oB rfl ?_
       refine EL_mv tB rfl ?_
       obtain ⟨d7, cH, h⟩ := bsome h
       refine EL_do .plain rfl (D_callF (g := pF) (vs := [oH, p3, .int .i64 (u3), .int .i64 (o0), .int .i64 (x1), up2]) en98 (.cons rfl (.cons z9 (.cons rfl (.cons rfl (.cons rfl (.cons rfl .nil)))))) (wk98 (RV.lent yB) (OB.lent j6) (MR.lent t5.r) cH) fun qF nI aJ hs hr => ?_)
       have hfr := hfr.ext hs
       have t5 := t5.ext hs
       have l5 := l5.ext hs
       have i6 := i6.ext hs
       have j6 := j6.ext hs
       have yB := yB.ext hs
       subst hr
       refine EL_at (.int .i64 (d7)) rfl rfl ?_
       refine EL_nil (thn_n (E_seq (E_region (EL_mw (.int .i64 (d7)) rfl rfl ?_))))
       refine EL_in (.bool ((decide (d7 < (1048576 : Int))))) rfl rfl rfl rfl ?_
       refine EL_nil (thn_n ?_)
       rcases csome h with ⟨uC, h⟩ | ⟨uC, h⟩
       ·refine E_ct uC rfl ?_
        refine E_seq ?_
        have lD := PT_field (part_LoomLoomMill_1).1 l5
        refine L_load (x := .tmp 51) Try.isAgg25 Try.sizeOf25 lD fun mD vC dH => ?_
        obtain ⟨eC, tD, h⟩ := bsome h
        have aD := PT_idx vC tD
        have nD := PT_field (part_LoomOrder_2).1 aD
        refine L_load (x := .tmp 55) Try.isAgg3 Try.sizeOf3 nD fun bJ pH gH => ?_
        obtain rfl := RV_int.1 pH
        obtain ⟨dE, uD, h⟩ := bsome h
        obtain ⟨hi490, he490⟩ := vat_idx uD
        obtain ⟨kH, vD, h⟩ := bsome h
        obtain ⟨hi492, he492⟩ := vat_idx vD
        refine E_drawL (g := qF) (n := 12) [] [0, 1, 2, 3, 4, 5, 6, 7, 8, 9, 10, 11] rfl mixed (by kernel_rfl) trivial ?_
        refine L_p (.int .i64 (u3)) rfl rfl (P_move m8) ?_
        refine L_p (.int .i64 (o0)) rfl rfl (P_move iA) ?_
        refine L_p (.int .i64 (d7)) rfl rfl (P_move rfl) ?_
        refine L_p (fPtr p1 2) rfl rfl (P_fieldAddr at_96_1 u9 (PT.ptr l5)) ?_
        refine L_ld (c := mD) rfl rfl .plain (fun _ _ h => h.ch) dH rfl ?_
        refine L_p (.int .i64 (o0)) rfl rfl (P_move iA) ?_
        refine L_p (ePtr mD o0 5) rfl rfl (P_indexAddr (α := LoomOrder) Try.underlying25 Try.sizeOf82 rfl vC rfl tD) ?_
        refine L_p (fPtr (ePtr mD o0 5) 2) rfl rfl (P_fieldAddr at_82_2 rfl (PT.ptr aD)) ?_
        refine L_ld (c := .int .i64 ((eC).Woven)) rfl rfl .plain (fun _ _ h => h.ch) gH rfl ?_
        refine L_p (.int .i64 ((w64 (d7 + (eC).Woven)))) rfl rfl (P_int rfl rfl rfl) ?_
        refine L_p (fPtr p3 ((u3 : Int).toNat * 7)) rfl rfl (P_indexAddrA (α := Vector Int 7) Try.underlying150 Try.sizeOf148 z9 (OB.ptr j6) rfl uD) ?_
        refine L_p (fPtr p3 (((u3 : Int).toNat * 7) + (o0 : Int).toNat * 1)) rfl rfl (P_indexAddrA2 (α := Int) (o1 := ((u3 : Int).toNat * 7)) rfl Try.underlying148 Try.sizeOf3 rfl (OB.ptr j6) rfl vD) ?_
        refine L_nl fun qH cJ hs => ?_
        have hfr := hfr.ext hs
        have t5 := t5.ext hs
        have l5 := l5.ext hs
        have i6 := i6.ext hs
        have j6 := j6.ext hs
        have yB := yB.ext hs
        have lD := lD.ext hs
        have vC := vC.ext hs
        have aD := aD.ext hs
        have nD := nD.ext hs
        clear hs
        refine EL_do .plain rfl (D_storeFc (g := qH) (SubS.at_ (SubS.dynC hi490 (SubS.dyn hi492) rfl) (by first | rfl | exact Nat.add_assoc _ _ _ | simp only [Nat.add_assoc, Nat.zero_add] | omega)) Try.sizeOf3 rfl j6 rfl (RV_int.2 rfl) fun sH dJ hs b525 rst hos => ?_)
        clear rst hos
        have hfr := hfr.stp hs
        have t5 := t5.stp hs
        have l5 := l5.stp hs
        have i6 := i6.stp hs rfl
        refine EL_nil (thn_n (E_region (EL_mv vB rfl ?_)))
        refine EL_mv m8 rfl ?_
        obtain ⟨lH, xD, h⟩ := bsome h
        refine EL_p (ePtr v8 u3 1) (P_indexAddrM (α := Bool) Try.underlying101 Try.sizeOf4 rfl i6 rfl xD) rfl ?_
        refine EL_do .plain rfl (D_storeM (g := sH) (α := Bool) (a' := true) Try.sizeOf4 rfl i6 xD rfl (RV_bool.2 rfl) fun tH eJ hs b527 => ?_)
        have hfr := hfr.stp hs
        have t5 := t5.stp hs
        have l5 := l5.stp hs
        have b525 := b525.stp hs rfl
        refine EL_nil (blk_n ?_)
        obtain ⟨rfl, rfl⟩ := pairs2 h
        exact hQ _ _ ⟨tH, hfr, oB, tB, t5, u9, l5, vB, b527, z9, b525, jD, m8, zB, cC⟩
       ·refine E_cf uC rfl ?_
        refine E_skip (blk_n ?_)
        obtain ⟨rfl, rfl⟩ := pairs2 h
        exact hQ _ _ ⟨qF, hfr, oB, tB, t5, u9, l5, vB, i6, z9, j6, jD, m8, zB, cC⟩
     ·clear hx
      obtain ⟨uH, hfr, rF, sF, tF, uF, vF, xF, yF, zF, aG, bG, cG, yD, zD⟩ := hR
      refine E_region (EL_in (.int .i64 ((w64 (o0 + (1 : Int))))) zD rfl rfl rfl ?_)
      refine EL_mw (.int .i64 ((w64 (o0 + (1 : Int))))) rfl rfl ?_
      exact EL_nil (thn_n (yG (x8, a9, (w64 (o0 + (1 : Int)))) _ _ ⟨uH, hfr, rF, sF, tF, uF, vF, xF, yF, zF, aG, bG, cG, yD, rfl⟩ h))
    ·refine E_cf qC rfl ?_
     refine E_exit ?_
     refine thn_e ?_
     refine thn_e ?_
     refine blk_hit ?_
     refine blk_n ?_
     obtain ⟨rfl, rfl⟩ := pairs2 h
     exact hQ _ _ ⟨nF, hfr, iB, jB, i7, lB, m7, mB, k8, l9, n9, nB, l8⟩
   ·clear hx
    obtain ⟨xH, hfr, eG, gG, hG, iG, jG, kG, lG, mG, nG, oG, sG⟩ := hR
    refine E_region (EL_mv sG rfl ?_)
    refine EL_in (.int .i64 ((w64 (u3 + (1 : Int))))) rfl rfl rfl rfl ?_
    refine EL_at (.int .i64 ((w64 (u3 + (1 : Int))))) rfl rfl ?_
    exact EL_nil (thn_n (vG (d9, k9, (w64 (u3 + (1 : Int)))) _ _ ⟨xH, hfr, eG, gG, hG, iG, jG, kG, lG, mG, nG, oG, rfl⟩ h))
 ·clear hx
  obtain ⟨gJ, hfr, tG, uG⟩ := hR
  refine E_seq (E_region (EL_mv tG rfl ?_))
  refine EL_at v8 rfl rfl ?_
  refine EL_nil (thn_n (E_ret ?_))
  obtain ⟨gp531, hs, rp531⟩ := OM.pub uG
  have hfr := hfr.stp hs
  obtain rfl := sinj h
  exact end1 rfl rfl (show _ = v8 from rfl) ⟨_, hfr, rp531⟩
def f85 (x0 : List Int) (x1 : List Int) : Option (Int) :=
 jn (σ := Unit) (fun _ =>
  jn (σ := Unit) (fun _ =>
   some ((0 : Int))
   ) fun vB =>
  bif (decide (((x0).length : Int) < ((x1).length : Int))) then
   some ((-1 : Int))
  else
   vB ()
  ) fun yB =>
 lp (σ := Int) (fun k33 o0 =>
  bif (decide (o0 < ((x0).length : Int))) then
   jn (σ := Unit) (fun _ =>
    k33 ((w64 (o0 + (1 : Int))))
    ) fun zB =>
   (idx x0 o0).bind fun d7 =>
   jn (σ := Unit) (fun _ =>
    (idx x1 o0).bind fun i7 =>
    (f90 d7 i7).bind fun u3 =>
    bif (u3 != (0 : Int)) then
     some (u3)
    else
     zB ()
    ) fun k54 =>
   bif (decide (o0 ≥ ((x1).length : Int))) then
    some ((1 : Int))
   else
    k54 ()
  else
   yB ()
  ) big ((0 : Int))
theorem en85 : Enters Try.prog 85 := enters_of Try.func85 (by kernel_rfl) rfl
theorem wk85 {gI : Gh} {wI : World} {x0 : List Int} {x1 : List Int} {up0 : Value} (rp0 : RV gI.m wI x0 up0) {up1 : Value} (rp1 : RV gI.m wI x1 up1) {r : Int} (h : f85 x0 x1 = some r) : Fn Try.prog 85 #[up0, up1] gI wI (fun _ _ v => v = .int .i64 (r)) := by
 unfold f85 at h
 refine fn_of_E Try.func85 rfl (Nat.le_of_ble_eq_true rfl) fun g0 hm hfr => ?_
 have rp0 : RV g0.m wI x0 up0 := hm ▸ rp0
 have rp1 : RV g0.m wI x1 up1 := hm ▸ rp1
 show E _ 36 none _ _ _ _ _
 refine E_seq (E_region (EL_at (.int .i64 (0)) rfl rfl ?_))
 refine EL_nil (thn_n (E_joinC h (fun (s : Unit) e w => ∃ (g : Gh) , Fr gI wI g w ∧ e 0 = up0 ∧ RV g.m w (x0 : List Int) up0 ∧ e 1 = up1 ∧ RV g.m w (x1 : List Int) up1) (fun X32 yB eC h => ?_) ?_))
 ·refine E_seq (E_region (EL_mw up0 rfl rfl ?_))
  refine EL_p (.int .i64 ((x0).length : Int)) (P_len Try.underlying22 rfl rp0) rfl ?_
  refine EL_mw (.int .i64 (0)) rfl rfl ?_
  refine EL_nil (thn_n (E_block ?_))
  refine E_lp h (fun (s : Int) e w => ∃ (g : Gh) , Fr gI wI g w ∧ e 0 = up0 ∧ RV g.m w (x0 : List Int) up0 ∧ e 1 = up1 ∧ RV g.m w (x1 : List Int) up1 ∧ e 9 = up0 ∧ RV g.m w (x0 : List Int) up0 ∧ e 10 = .int .i64 (((x0).length : Int)) ∧ e 11 = .int .i64 (s)) ⟨g0, hfr, rfl, rp0, rfl, rp1, rfl, rp0, rfl, rfl⟩ (fun X33 k33 mC => ?_)
  rintro o0 lD uD ⟨a9, hfr, n8, r8, x5, i6, v8, j6, m7, l5⟩ h
  refine E_seq (E_region (EL_in (.bool ((decide (o0 < ((x0).length : Int))))) l5 m7 rfl rfl ?_))
  refine EL_nil (thn_n (E_seq ?_))
  rcases csome h with ⟨g8, h⟩ | ⟨g8, h⟩
  ·refine E_ct g8 rfl ?_
   refine E_skip (thn_n (E_joinC h (fun (s : Unit) e w => ∃ (g : Gh) , Fr gI wI g w ∧ e 0 = up0 ∧ RV g.m w (x0 : List Int) up0 ∧ e 1 = up1 ∧ RV g.m w (x1 : List Int) up1 ∧ e 9 = up0 ∧ RV g.m w (x0 : List Int) up0 ∧ e 10 = .int .i64 (((x0).length : Int)) ∧ e 11 = .int .i64 (o0)) (fun X49 zB qC h => ?_) ?_))
   ·refine E_block ?_
    refine E_seq (E_region (EL_mv l5 rfl ?_))
    obtain ⟨d7, d9, h⟩ := bsome h
    refine EL_p (ePtr up0 o0 1) (P_indexAddr (α := Int) Try.underlying22 Try.sizeOf3 v8 j6 l5 d9) rfl ?_
    have aD := PT_idx j6 d9
    refine EL_do .plain rfl (D_load (g := a9) Try.isAgg3 Try.sizeOf3 rfl aD fun vD bD => ?_)
    obtain rfl := RV_int.1 bD
    refine EL_at (.int .i64 (o0)) rfl rfl ?_
    refine EL_at (.int .i64 (d7)) rfl rfl ?_
    refine EL_nil (thn_n (E_joinC h (fun (s : Unit) e w => ∃ (g : Gh) , Fr gI wI g w ∧ e 0 = up0 ∧ RV g.m w (x0 : List Int) up0 ∧ e 1 = up1 ∧ RV g.m w (x1 : List Int) up1 ∧ e 5 = .int .i64 (o0) ∧ e 6 = .int .i64 (d7) ∧ e 9 = up0 ∧ RV g.m w (x0 : List Int) up0 ∧ e 10 = .int .i64 (((x0).length : Int)) ∧ e 11 = .int .i64 (o0)) (fun X54 k54 rC h => ?_) ?_))
    ·refine E_seq (E_region (EL_mw (.int .i64 (o0)) rfl rfl ?_))
     refine EL_mv x5 rfl ?_
     refine EL_p (.int .i64 ((x1).length : Int)) (P_len Try.underlying22 rfl i6) rfl ?_
     refine EL_in (.bool ((decide (o0 ≥ ((x1).length : Int))))) rfl rfl rfl rfl ?_
     refine EL_nil (thn_n ?_)
     rcases csome h with ⟨k8, h⟩ | ⟨k8, h⟩
     ·refine E_ct k8 rfl ?_
      refine E_seq (E_region (EL_at (.int .i64 (1)) rfl rfl ?_))
      refine EL_nil (thn_n (E_ret (thn_r ?_)))
      refine blk_r ?_
      refine thn_r ?_
      refine thn_r ?_
      refine blk_r ?_
      refine thn_r ?_
      obtain rfl := sinj h
      exact end1 rfl rfl (show _ = .int .i64 (1) from rfl) ⟨_, hfr, rfl⟩
     ·refine E_cf k8 rfl ?_
      exact E_skip (thn_n (rC () _ _ ⟨a9, hfr, n8, r8, x5, i6, rfl, rfl, v8, j6, m7, l5⟩ h))
    ·rintro _ mD xD ⟨cC, hfr, z9, x6, x8, t5, bA, iA, rA, y6, k9, l9⟩ h
     refine E_seq (E_region (EL_mv x8 rfl ?_))
     refine EL_mv bA rfl ?_
     obtain ⟨i7, n9, h⟩ := bsome h
     refine EL_p (ePtr up1 o0 1) (P_indexAddr (α := Int) Try.underlying22 Try.sizeOf3 rfl t5 rfl n9) rfl ?_
     have cD := PT_idx t5 n9
     refine EL_do .plain rfl (D_load (g := cC) Try.isAgg3 Try.sizeOf3 rfl cD fun yD eD => ?_)
     obtain rfl := RV_int.1 eD
     refine EL_at (.int .i64 (i7)) rfl rfl ?_
     refine EL_nil (thn_n (E_seq (E_region (EL_mv iA rfl ?_))))
     refine EL_mw (.int .i64 (i7)) rfl rfl ?_
     obtain ⟨u3, uC, h⟩ := bsome h
     refine EL_do .plain rfl (D_call (g := cC) (vs := [.int .i64 (d7), .int .i64 (i7)]) en90 (.cons rfl (.cons rfl .nil)) (wk90  uC) fun gD nD zD hs hr => ?_)
     have hfr := hfr.ext hs
     have x6 := x6.ext hs
     have t5 := t5.ext hs
     have y6 := y6.ext hs
     subst hr
     refine EL_at (.int .i64 (u3)) rfl rfl ?_
     refine EL_nil (thn_n (E_seq (E_region (EL_mw (.int .i64 (u3)) rfl rfl ?_))))
     refine EL_in (.bool ((u3 != (0 : Int)))) rfl rfl rfl rfl ?_
     refine EL_nil (thn_n ?_)
     rcases csome h with ⟨l8, h⟩ | ⟨l8, h⟩
     ·refine E_ct l8 rfl ?_
      refine E_seq (E_region (EL_mw (.int .i64 (u3)) rfl rfl ?_))
      refine EL_at (.int .i64 (u3)) rfl rfl ?_
      refine EL_nil (thn_n (E_ret (blk_r ?_)))
      refine thn_r ?_
      refine thn_r ?_
      refine blk_r ?_
      refine thn_r ?_
      obtain rfl := sinj h
      exact end1 rfl rfl (show _ = .int .i64 (u3) from rfl) ⟨_, hfr, rfl⟩
     ·refine E_cf l8 rfl ?_
      exact E_skip (blk_n (thn_n (qC () _ _ ⟨gD, hfr, z9, x6, x8, t5, rA, y6, k9, l9⟩ h)))
   ·rintro _ oD aE ⟨iD, hfr, yA, aB, dB, iB, jB, lB, u9, y9⟩ h
    refine E_region (EL_in (.int .i64 ((w64 (o0 + (1 : Int))))) y9 rfl rfl rfl ?_)
    refine EL_mw (.int .i64 ((w64 (o0 + (1 : Int))))) rfl rfl ?_
    exact EL_nil (thn_n (mC ((w64 (o0 + (1 : Int)))) _ _ ⟨iD, hfr, yA, aB, dB, iB, jB, lB, u9, rfl⟩ h))
  ·refine E_cf g8 rfl ?_
   refine E_exit ?_
   refine thn_e ?_
   refine thn_e ?_
   refine blk_hit ?_
   exact thn_n (eC () _ _ ⟨a9, hfr, n8, r8, x5, i6⟩ h)
 ·rintro _ sD bE ⟨jD, hfr, mB, nB, oB, tB⟩ h
  refine E_joinC h (fun (s : Unit) e w => ∃ (g : Gh) , Fr gI wI g w) (fun X67 vB vC h => ?_) ?_
  ·refine E_seq (E_region (EL_mv mB rfl ?_))
   refine EL_p (.int .i64 ((x0).length : Int)) (P_len Try.underlying22 rfl nB) rfl ?_
   refine EL_mv oB rfl ?_
   refine EL_p (.int .i64 ((x1).length : Int)) (P_len Try.underlying22 rfl tB) rfl ?_
   refine EL_in (.bool ((decide (((x0).length : Int) < ((x1).length : Int))))) rfl rfl rfl rfl ?_
   refine EL_nil (thn_n ?_)
   rcases csome h with ⟨m8, h⟩ | ⟨m8, h⟩
   ·refine E_ct m8 rfl ?_
    refine E_seq (E_region (EL_at (.int .i64 (-1)) rfl rfl ?_))
    refine EL_nil (thn_n (E_ret (thn_r ?_)))
    obtain rfl := sinj h
    exact end1 rfl rfl (show _ = .int .i64 (-1) from rfl) ⟨_, hfr, rfl⟩
   ·refine E_cf m8 rfl ?_
    exact E_skip (thn_n (vC () _ _ ⟨jD, hfr⟩ h))
  ·rintro _ tD cE ⟨dE, hfr⟩ h
   refine E_seq (E_region (EL_at (.int .i64 (0)) rfl rfl ?_))
   refine EL_nil (thn_n (E_ret ?_))
   obtain rfl := sinj h
   exact end1 rfl rfl (show _ = .int .i64 (0) from rfl) ⟨_, hfr, rfl⟩
def f87 (x0 : List Int) (x1 : Int → Int → Option Int) : Option ((List Int)) :=
 (f101 ((wu64 ((x0).length : Int)))).bind fun y2 =>
 (f100 big x0 ((0 : Int)) (((x0).length : Int)) y2 x1).bind fun y4 =>
 some (y4)
theorem en87 : Enters Try.prog 87 := enters_of Try.func87 (by kernel_rfl) rfl
theorem wk87 {iI : Nat} {gI : Gh} {wI : World} {x0 : List Int} {x1 : Int → Int → Option Int} {up0 : Value} (mp0 : OM iI gI wI 3 x0 up0) {up1 : Value} (rp1 : FnV2 Try.prog x1 up1 gI wI) {r : (List Int)} (h : f87 x0 x1 = some r) : FnM Try.prog 87 #[up0, up1] iI gI wI (fun g w v => v = .tuple #[] ∧ OM iI g w 3 r up0) := by
 unfold f87 at h
 refine fnM_of_E Try.func87 rfl (Nat.le_of_ble_eq_true rfl) fun g0 hm hfr => ?_
 have o0 := mp0
 replace mp0 := mp0.enter
 rw [← hm] at mp0
 replace hm : g0.m = gI.m := by rw [hm]
 obtain ⟨ff1, fa1, fc1, rfl, fen1, fcl1⟩ := rp1
 show E _ 14 none _ _ _ _ _
 refine E_seq (E_region (EL_mw up0 rfl rfl ?_))
 refine EL_p (.int .i64 ((x0).length : Int)) (P_lenM Try.underlying22 rfl mp0) rfl ?_
 refine EL_at (.int .i64 ((x0).length : Int)) rfl rfl ?_
 refine EL_nil (thn_n (E_region (EL_mw up0 rfl rfl ?_)))
 refine EL_mw (.int .i64 ((x0).length : Int)) rfl rfl ?_
 refine EL_mw (.int .i64 ((x0).length : Int)) rfl rfl ?_
 refine EL_p (.int .u64 (wu64 ((x0).length : Int))) (P_intu64 Try.underlying3 Try.underlying77 rfl) rfl ?_
 obtain ⟨y2, hy2, h⟩ := bsome h
 refine EL_do .plain rfl (D_call (g := g0) (vs := [.int .u64 (wu64 ((x0).length : Int))]) en101 (.cons rfl .nil) (wk101  hy2) fun g1 w1_ v1 hs hr => ?_)
 have hfr := hfr.ext hs
 have mp0 := mp0.ext hs
 subst hr
 refine EL_mw ((.func (.func ff1) fa1 fc1)) rfl rfl ?_
 obtain ⟨y4, u3, h⟩ := bsome h
 refine EL_do .plain rfl (D_callM (g := g1) (i := 1) (vs := [up0, .int .i64 (0), .int .i64 ((x0).length : Int), .int .i64 (y2), (.func (.func ff1) fa1 fc1)]) en100 (.cons rfl (.cons rfl (.cons rfl (.cons rfl (.cons rfl .nil))))) (wk100 big mp0 (FnV2.ch ⟨_, _, _, rfl, fen1, fcl1⟩ hfr.ch) u3) fun g3 w3_ v3 hs hr => ?_)
 obtain ⟨hrv, b3⟩ := hr
 have hfr := hfr.stp hs
 subst hrv
 refine EL_nil ?_
 obtain rfl := sinj h
 exact end0n rfl rfl ⟨_, hfr, rfl, o0.back b3⟩
def f88 (x0 : Int) (x1 : Int) (z0 : List LoomRun) : Option (Int) :=
 (idx z0 x0).bind fun y2 =>
 (idx z0 x1).bind fun y7 =>
 (f90 ((y2).From) ((y7).From)).bind fun o0 =>
 (idx z0 x0).bind fun x5 =>
 (idx z0 x1).bind fun i6 =>
 (f90 ((x5).Order) ((i6).Order)).bind fun u3 =>
 (f89 (([o0, u3] : List Int))).bind fun t5 =>
 some (t5)
theorem en88 : Enters Try.prog 88 := enters_of Try.func88 (by kernel_rfl) rfl
theorem wk88 {gI : Gh} {wI : World} {x0 : Int} {x1 : Int} {z0 : List LoomRun} {pf0 : Value} (qf0 : PT gI.m wI z0 pf0) {r : Int} (h : f88 x0 x1 z0 = some r) : Fn Try.prog 88 #[.int .i64 (x0), .int .i64 (x1), pf0] gI wI (fun _ _ v => v = .int .i64 (r)) := by
 unfold f88 at h
 refine fn_of_E Try.func88 rfl (Nat.le_of_ble_eq_true rfl) fun g0 hm hfr => ?_
 have qf0 : PT g0.m wI z0 pf0 := hm ▸ qf0
 show E _ 30 none _ _ _ _ _
 refine E_seq (E_region (EL_at (.int .i64 (0)) rfl rfl ?_))
 refine EL_nil (thn_n (E_seq (L_load (x := .tmp 2) Try.isAgg31 Try.sizeOf31 qf0 fun v1 r1 hl1 => ?_)))
 obtain ⟨y2, hy2, h⟩ := bsome h
 have q3 := PT_idx r1 hy2
 have q4 := PT_field (part_LoomRun_2).1 q3
 refine L_load (x := .tmp 9) Try.isAgg3 Try.sizeOf3 q4 fun v5 r5 l9 => ?_
 obtain rfl := RV_int.1 r5
 refine L_load (x := .tmp 2) Try.isAgg31 Try.sizeOf31 qf0 fun v6 r6 n9 => ?_
 obtain ⟨y7, i7, h⟩ := bsome h
 have q8 := PT_idx r6 i7
 have q9 := PT_field (part_LoomRun_2).1 q8
 refine L_load (x := .tmp 14) Try.isAgg3 Try.sizeOf3 q9 fun rA u9 m8 => ?_
 obtain rfl := RV_int.1 u9
 obtain ⟨o0, n8, h⟩ := bsome h
 refine L_load (x := .tmp 2) Try.isAgg31 Try.sizeOf31 qf0 fun j6 m7 r8 => ?_
 obtain ⟨x5, x6, h⟩ := bsome h
 have g8 := PT_idx m7 x6
 have y9 := PT_field (part_LoomRun_0).1 g8
 refine L_load (x := .tmp 20) Try.isAgg3 Try.sizeOf3 y9 fun yA z9 v8 => ?_
 obtain rfl := RV_int.1 z9
 refine L_load (x := .tmp 2) Try.isAgg31 Try.sizeOf31 qf0 fun y6 k8 x8 => ?_
 obtain ⟨i6, d7, h⟩ := bsome h
 have l8 := PT_idx k8 d7
 have bA := PT_field (part_LoomRun_0).1 l8
 refine L_load (x := .tmp 25) Try.isAgg3 Try.sizeOf3 bA fun aB iA a9 => ?_
 obtain rfl := RV_int.1 iA
 obtain ⟨u3, d9, h⟩ := bsome h
 obtain ⟨t5, k9, h⟩ := bsome h
 refine E_drawL (g := g0) (n := 25) [(10, (fun v g w => v = .int .i64 (o0))), (21, (fun v g w => v = .int .i64 (u3))), (22, (fun v g w => RV g.m w ([o0, u3] : List Int) v ∧ OS 3028 g w 3 ([o0, u3] : List Int) v ∧ FullV v)), (23, (fun v g w => v = .int .i64 (t5)))] [0, 1, 2, 3, 4, 5, 6, 7, 8, 9, 10, 11, 12, 13, 14, 15, 16, 17, 18, 19, 20, 21, 22, 23, 24] rfl mixed (by kernel_rfl) (⟨fun _ => up_eq _, fun _ => up_eq _, fun _ => up_and up_rv (up_and up_os (up_eq _)), fun _ => up_eq _, trivial⟩) ?_
 refine L_ld (c := v1) rfl rfl .plain (fun _ _ h => h.ch) hl1 rfl ?_
 refine L_p (.int .i64 (x0)) rfl rfl (P_move rfl) ?_
 refine L_p (ePtr v1 x0 3) rfl rfl (P_indexAddr (α := LoomRun) Try.underlying31 Try.sizeOf76 rfl r1 rfl hy2) ?_
 refine L_p (fPtr (ePtr v1 x0 3) 2) rfl rfl (P_fieldAddr at_76_2 rfl (PT.ptr q3)) ?_
 refine L_ld (c := .int .i64 ((y2).From)) rfl rfl .plain (fun _ _ h => h.ch) l9 rfl ?_
 refine L_ld (c := v6) rfl rfl .plain (fun _ _ h => h.ch) n9 rfl ?_
 refine L_p (.int .i64 (x1)) rfl rfl (P_move rfl) ?_
 refine L_p (ePtr v6 x1 3) rfl rfl (P_indexAddr (α := LoomRun) Try.underlying31 Try.sizeOf76 rfl r6 rfl i7) ?_
 refine L_p (fPtr (ePtr v6 x1 3) 2) rfl rfl (P_fieldAddr at_76_2 rfl (PT.ptr q8)) ?_
 refine L_ld (c := .int .i64 ((y7).From)) rfl rfl .plain (fun _ _ h => h.ch) m8 rfl ?_
 refine L_do (φ := fun v g w => v = .int .i64 (o0)) rfl rfl .plain (fun g w hd => D_call (g := g) (vs := [.int .i64 ((y2).From), .int .i64 ((y7).From)]) en90 (.cons rfl (.cons rfl .nil)) (wk90  n8) fun g' w' v hs hr => ⟨g', hs, hr⟩) (fun dB hv => ?_)
 obtain ⟨_, _, _, rfl⟩ := hv
 refine L_ld (c := j6) rfl rfl .plain (fun _ _ h => h.ch) r8 rfl ?_
 refine L_p (.int .i64 (x0)) rfl rfl (P_move rfl) ?_
 refine L_p (ePtr j6 x0 3) rfl rfl (P_indexAddr (α := LoomRun) Try.underlying31 Try.sizeOf76 rfl m7 rfl x6) ?_
 refine L_p (fPtr (ePtr j6 x0 3) 0) rfl rfl (P_fieldAddr at_76_0 rfl (PT.ptr g8)) ?_
 refine L_ld (c := .int .i64 ((x5).Order)) rfl rfl .plain (fun _ _ h => h.ch) v8 rfl ?_
 refine L_ld (c := y6) rfl rfl .plain (fun _ _ h => h.ch) x8 rfl ?_
 refine L_p (.int .i64 (x1)) rfl rfl (P_move rfl) ?_
 refine L_p (ePtr y6 x1 3) rfl rfl (P_indexAddr (α := LoomRun) Try.underlying31 Try.sizeOf76 rfl k8 rfl d7) ?_
 refine L_p (fPtr (ePtr y6 x1 3) 0) rfl rfl (P_fieldAddr at_76_0 rfl (PT.ptr l8)) ?_
 refine L_ld (c := .int .i64 ((i6).Order)) rfl rfl .plain (fun _ _ h => h.ch) a9 rfl ?_
 refine L_do (φ := fun v g w => v = .int .i64 (u3)) rfl rfl .plain (fun g w hd => D_call (g := g) (vs := [.int .i64 ((x5).Order), .int .i64 ((i6).Order)]) en90 (.cons rfl (.cons rfl .nil)) (wk90  d9) fun g' w' v hs hr => ⟨g', hs, hr⟩) (fun iB hv => ?_)
 obtain ⟨_, _, _, rfl⟩ := hv
 refine L_do (φ := fun v g w => RV g.m w ([o0, u3] : List Int) v ∧ OS 3028 g w 3 ([o0, u3] : List Int) v ∧ FullV v) rfl rfl .plain (fun g w hd => D_buildSlice (g := g) 3028 (xs := ([o0, u3] : List Int)) (vs := [.int .i64 (o0), .int .i64 (u3)]) Try.underlying22 Try.sizeOf3 Try.zeroValue3 rfl rfl (.cons rfl (.cons rfl .nil)) (RVs.cons (RV_int.2 rfl) (RVs.cons (RV_int.2 rfl) RVs.nil)) rfl rfl fun g' w' v hs o r hxt hfl => ⟨g', hxt, r, o, hfl⟩) (fun l5 hv => ?_)
 clear hv
 refine L_do (φ := fun v g w => v = .int .i64 (t5)) rfl rfl .plain (fun g w hd => D_call (g := g) (vs := [l5]) en89 (.cons rfl .nil) (wk89 (word (A := fun g w => RV g.m w ([o0, u3] : List Int) l5 ∧ OS 3028 g w 3 ([o0, u3] : List Int) l5 ∧ FullV l5) 22 rfl rfl (deps_of hd)).1 k9) fun g' w' v hs hr => ⟨g', hs, hr⟩) (fun jB hv => ?_)
 obtain ⟨_, _, _, rfl⟩ := hv
 refine L_p (.int .i64 (t5)) rfl rfl (P_assign rfl) ?_
 refine L_nil fun lB mB hall => ?_
 have hs := hall.1
 have hfr := hfr.ext hs
 have nB := (word_all (A := fun g w => RV g.m w ([o0, u3] : List Int) l5 ∧ OS 3028 g w 3 ([o0, u3] : List Int) l5 ∧ FullV l5) 22 rfl hall).1
 have o55 := (word_all (A := fun g w => RV g.m w ([o0, u3] : List Int) l5 ∧ OS 3028 g w 3 ([o0, u3] : List Int) l5 ∧ FullV l5) 22 rfl hall).2.1
 clear hs hall
 refine EL_nil (thn_n (E_ret ?_))
 obtain rfl := sinj h
 exact end1 rfl rfl (show _ = .int .i64 (t5) from rfl) ⟨_, hfr, rfl⟩
def f51 (x0 : LoomLoomMill) (x1 : List Int) (x2 : List (Int × LoomRun)) : Option ((List Bool)) :=
 (shl64 (1 : Int) (((x0).orders).length : Int)).bind fun y4 =>
 (mks 1 (false : Bool) y4).bind fun y5 =>
 (idx y5 (0 : Int)).bind fun rL =>
 Option.bind (α := (List Bool)) (
  lp (σ := (List Bool) × Int) (fun sG (k9, k8) =>
   bif (decide (k8 < ((x1).length : Int))) then
    Option.bind (α := (List Bool)) (
     (idx x1 k8).bind fun vC =>
     (f83 x0 vC x2).bind fun m8 =>
     (mks 1 (false : Bool) (((k9).length : Int))).bind fun aB =>
     Option.bind (α := (List Bool)) (
      lp (σ := (List Bool) × Int) (fun tG (vB, o0) =>
       bif (decide (o0 < ((aB).length : Int))) then
        Option.bind (α := (List Bool)) (
         (f84 o0).bind fun sE =>
         (sE ((List Bool)) (fun r8 l8 =>
          (idx r8 o0).bind fun rA =>
          bif rA then
           (idx r8 o0).bind fun jJ =>
           some (true, ((List.set r8 (Int.toNat o0) true)))
          else
           (idx m8 l8).bind fun lB =>
           bif lB then
            (idx k9 (bit64 .andNot o0 l8)).bind fun cC =>
            (idx r8 o0).bind fun kJ =>
            some (true, ((List.set r8 (Int.toNat o0) cC)))
           else
            (idx r8 o0).bind fun lJ =>
            some (true, ((List.set r8 (Int.toNat o0) false)))
          ) (vB)).bind fun nD =>
         some (nD)
         ) fun yB =>
        tG (yB, (w64 (o0 + (1 : Int))))
       else
        some (vB)
       ) big (aB, (0 : Int))
      ) fun mC =>
     some (mC)
     ) fun eC =>
    sG (eC, (w64 (k8 + (1 : Int))))
   else
    some (k9)
   ) big ((List.set y5 (Int.toNat (0 : Int)) true), (0 : Int))
  ) fun bD =>
 some (bD)
theorem en51 : Enters Try.prog 51 := enters_of Try.func51 (by kernel_rfl) rfl
theorem wk51 {gI : Gh} {wI : World} {x0 : LoomLoomMill} {x1 : List Int} {x2 : List (Int × LoomRun)} {up0 : Value} (rp0 : RV gI.m wI x0 up0) {up1 : Value} (rp1 : RV gI.m wI x1 up1) {up2 : Value} (mq2 : MR (Value.int .i64) gI wI x2 up2) {r : (List Bool)} (h : f51 x0 x1 x2 = some r) : Fn Try.prog 51 #[up0, up1, up2] gI wI (fun m w v => RV m w (r) v) := by
 unfold f51 at h
 refine fnD_of_E Try.func51 rfl (Nat.le_of_ble_eq_true rfl) fun g0 hm hfr => ?_
 have hmk : MkF g0 wI [] := MkF.start
 have rp0 : RV g0.m wI x0 up0 := hm ▸ rp0
 have rp1 : RV g0.m wI x1 up1 := hm ▸ rp1
 have mq2 := MQ.enter mq2 hm hfr
 show E _ 67 none _ _ _ _ _
 refine E_seq (E_region (EL_do .plain rfl (D_box (g := g0) rfl rp0 fun g1 w1 p1 hs q1 => ?_)))
 have hfr := hfr.ext hs
 have hmk := hmk.ext hs
 have rp1 := rp1.ext hs
 have mq2 := mq2.ext hs
 refine EL_at (.slice none 0 0) rfl rfl ?_
 refine EL_nil (thn_n (E_seq (E_region (EL_p (fPtr p1 2) (P_fieldAddr at_96_1 rfl (PT.ptr q1)) rfl ?_))))
 have q2 := PT_field (part_LoomLoomMill_1).1 q1
 refine EL_do .plain rfl (D_load (g := g1) Try.isAgg25 Try.sizeOf25 rfl q2 fun v3 r3 => ?_)
 refine EL_p (.int .i64 (((x0).orders).length : Int)) (P_len Try.underlying25 rfl r3) rfl ?_
 obtain ⟨y4, tL, h⟩ := bsome h
 refine EL_p (.int .i64 (y4)) (P_int rfl rfl (congrArg (Option.map (Value.int .i64)) tL)) rfl ?_
 obtain ⟨y5, hy5, h⟩ := bsome h
 refine EL_do .plain rfl (D_makeSliceM (g := g1) 9018 (false : Bool) rfl Try.underlying101 info_4 rfl (fun _ _ => rfl) rfl rfl hy5 fun g6 w6 v6 hs b6 => ?_)
 have hfr := hfr.stp hs
 have hmk := hmk.stp hs
 have rp1 := rp1.stp hs
 have mq2 := mq2.stp hs
 have q1 := q1.stp hs
 refine EL_do .plain rfl (D_allocOc (g := g6) 2007 (⟨.slice none 0 0, rfl⟩ : Fv) Try.zeroValue101 (fun _ _ => fv0_rep) fun g7 w7 p7 hs b7 cb => ?_)
 clear cb
 have hfr := hfr.stp hs
 have hmk := hmk.stp hs
 have rp1 := rp1.stp hs
 have mq2 := mq2.stp hs
 have q1 := q1.stp hs
 have b6 := b6.stp hs rfl
 have z7 : OA 4007 g7 w7 4 ([] : List Bool) (.slice none 0 0) := OA.nil
 have on8 := om_one b6
 refine EL_do .plain rfl (D_storeOc (g := g7) (v := v6) (a' := (⟨v6, on8⟩ : Fv)) Try.sizeOf101 rfl b7 rfl (RV_fv.2 rfl) fun g8 w8 hs b8 cb => ?_)
 clear cb
 have hfr := hfr.stp hs
 have hmk := hmk.stp hs
 have rp1 := rp1.stp hs
 have mq2 := mq2.stp hs
 have q1 := q1.stp hs
 have b6 := b6.stp hs rfl
 refine EL_nil (thn_n (E_seq (E_region (EL_do .plain rfl (D_loadO (α := Fv) (g := g8) Try.isAgg101 Try.sizeOf101 rfl b8 fun v9 r9 => ?_)))))
 have e9 : v9 = v6 := RV_fv.1 r9
 clear r9
 subst v9
 obtain ⟨rL, vI, h⟩ := bsome h
 refine EL_p (ePtr v6 (0 : Int) 1) (P_indexAddrM (α := Bool) Try.underlying101 Try.sizeOf4 rfl b6 rfl vI) rfl ?_
 refine EL_do .plain rfl (D_storeM (g := g8) (α := Bool) (a' := true) Try.sizeOf4 rfl b6 vI rfl (RV_bool.2 rfl) fun sN tN hs b11 => ?_)
 have hfr := hfr.stp hs
 have hmk := hmk.stp hs
 have rp1 := rp1.stp hs
 have mq2 := mq2.stp hs
 have q1 := q1.stp hs
 have b8 := b8.stp hs rfl
 refine EL_nil (thn_n ?_)
 obtain ⟨bD, hx, h⟩ := bsome h
 refine E_joinD (fun e ds w => ∃ (g : Gh) , Fr gI wI g w ∧ MkF g w ds ∧ e 7 = p7 ∧ OB 2007 g w 101 (bD : List Bool) p7) (fun Q' hQ => ?_) (fun uL jL dM hR => ?_)
 ·replace h := hx
  clear hx
  refine E_seq (E_region (EL_mw up1 rfl rfl ?_))
  refine EL_p (.int .i64 ((x1).length : Int)) (P_len Try.underlying22 rfl rp1) rfl ?_
  refine EL_mw (.int .i64 (0)) rfl rfl ?_
  refine EL_nil (thn_n (E_block ?_))
  obtain ⟨gp2346, hs, rp2346⟩ := OM.pub b11
  have hfr := hfr.stp hs
  have hmk := hmk.stp hs
  have rp1 := rp1.stp hs
  have mq2 := mq2.stp hs
  have q1 := q1.stp hs
  have b8 := b8.stp hs rfl
  have ub2346 := OB.ofRV b8 rp2346
  refine E_lpD h (fun (s : (List Bool) × Int) e ds w => ∃ (g : Gh) , Fr gI wI g w ∧ MkF g w ds ∧ e 2 = up2 ∧ MQ (Value.int .i64) wI.heap.size g w (x2 : List (Int × LoomRun)) up2 ∧ e 3 = p1 ∧ PT g.m w (x0 : LoomLoomMill) p1 ∧ e 7 = p7 ∧ OB 2007 g w 101 (s.1 : List Bool) p7 ∧ e 21 = up1 ∧ RV g.m w (x1 : List Int) up1 ∧ e 22 = .int .i64 (((x1).length : Int)) ∧ e 23 = .int .i64 (s.2)) ⟨gp2346, hfr, hmk, rfl, mq2, rfl, q1, rfl, ub2346, rfl, rp1, rfl, rfl⟩ (fun X2347 sG xI => ?_)
  rintro ⟨k9, k8⟩ vL lL uG ⟨iD, hfr, hmk, kE, dB, lE, iB, cD, yA, oD, n9, sD, qC⟩ h
  refine E_seq (E_region (EL_in (.bool ((decide (k8 < ((x1).length : Int))))) qC sD rfl rfl ?_))
  refine EL_nil (thn_n (E_seq ?_))
  rcases csome h with ⟨tD, h⟩ | ⟨tD, h⟩
  ·refine E_ct tD rfl ?_
   refine E_skip (thn_n ?_)
   obtain ⟨eC, hx, h⟩ := bsome h
   refine E_joinD (fun e ds w => ∃ (g : Gh) , Fr gI wI g w ∧ MkF g w ds ∧ e 2 = up2 ∧ MQ (Value.int .i64) wI.heap.size g w (x2 : List (Int × LoomRun)) up2 ∧ e 3 = p1 ∧ PT g.m w (x0 : LoomLoomMill) p1 ∧ e 7 = p7 ∧ OB 2007 g w 101 (eC : List Bool) p7 ∧ e 21 = up1 ∧ RV g.m w (x1 : List Int) up1 ∧ e 22 = .int .i64 (((x1).length : Int)) ∧ e 23 = .int .i64 (k8)) (fun Q' hQ => ?_) (fun xL mL eM hR => ?_)
   ·replace h := hx
    clear hx
    refine E_block ?_
    refine E_seq (E_region ?_)
    obtain ⟨vC, vE, h⟩ := bsome h
    refine EL_p (ePtr up1 k8 1) (P_indexAddr (α := Int) Try.underlying22 Try.sizeOf3 oD n9 qC vE) rfl ?_
    have mJ := PT_idx n9 vE
    refine EL_do .plain rfl (D_load (g := iD) Try.isAgg3 Try.sizeOf3 rfl mJ fun iM nJ => ?_)
    obtain rfl := RV_int.1 nJ
    refine EL_at (.int .i64 (vC)) rfl rfl ?_
    refine EL_nil (thn_n (E_seq (L_load (x := .tmp 3) Try.isAgg96 Try.sizeOf96 iB fun vG oJ yI => ?_)))
    obtain ⟨m8, zI, h⟩ := bsome h
    refine L_loadO0 (x := .tmp 7) Try.isAgg101 Try.sizeOf101 yA fun pJ qJ aJ => ?_
    obtain ⟨aB, bJ, h⟩ := bsome h
    have z3524 : OA 4011 iD uG 4 ([] : List Bool) (.slice none 0 0) := OA.nil
    refine E_drawV (g := iD) (w := uG) (i := 2010) (t2 := 101) (a0 := ([] : List Bool)) (a1 := (m8 : List Bool)) (n := 10) [(3, (fun _ v g w => RV g.m w m8 v)), (6, (fun _ v g w => OM 9033 g w 4 aB v)), (7, (fun _ v => varA 2010 101 ([] : List Bool) (m8 : List Bool) v)), (8, (fun _ v g w => OB 2011 g w 101 (⟨.slice none 0 0, rfl⟩ : Fv) v)), (9, (fun e _ g w => OB 2010 g w 101 (m8 : List Bool) (ev e (.tmp 10))))] [0, 1, 2, 3, 4, 5, 6, 7, 8, 9] rfl mixed (by kernel_rfl) (⟨fun _ _ => upV_rv, fun _ _ => upV_om, fun _ _ => up_var0, fun _ _ => upV_ob, fun _ _ => up_var1, trivial⟩) (⟨fun _ _ _ _ _ _ => rfl, fun _ _ _ _ _ _ => rfl, fun _ _ _ _ _ _ => rfl, fun _ _ _ _ _ _ => rfl, wok_store (A := fun p g w => OB 2010 g w 101 (m8 : List Bool) p) rfl, trivial⟩) ?_
    refine L_ld (c := vG) rfl rfl .plain (fun _ _ h => h.ch) yI lE ?_
    refine L_p (.int .i64 (vC)) rfl rfl (P_move rfl) ?_
    refine L_p up2 rfl rfl (P_move kE) ?_
    refine L_do (φ := fun v g w => RV g.m w m8 v) rfl rfl .plain (fun g w hd => D_call (g := g) (vs := [vG, .int .i64 (vC), up2]) en83 (.cons rfl (.cons rfl (.cons rfl .nil))) (wk83 (oJ.stp hd.1) (dB.stp hd.1).r zI) fun g' w' v hs hr => ⟨g', var_ext hs, hr⟩) (fun xG hv => ?_)
    obtain ⟨_, _, _, rq3518⟩ := hv
    refine L_ld (c := pJ) rfl rfl .plain (fun _ _ h => ⟨h.ch, fun b hb ho => h.block b hb (by rw [ho]; decide)⟩) aJ cD ?_
    refine L_p (.int .i64 ((k9).length : Int)) rfl rfl (P_len Try.underlying101 rfl qJ) ?_
    refine L_do (φ := fun v g w => OM 9033 g w 4 aB v) rfl rfl .plain (fun g w hd => D_makeSliceX (g := g) 9033 (false : Bool) rfl Try.underlying101 info_4 rfl (fun _ _ => rfl) rfl rfl bJ fun g' w' v hs b => ⟨g', var_ext hs, b⟩) (fun jD hv => ?_)
    clear hv
    refine L_do (φ := fun v => varA 2010 101 ([] : List Bool) (m8 : List Bool) v) rfl rfl .plain (fun g w hd => D_allocX (g := g) 2010 ([] : List Bool) Try.zeroValue101 (fun m w => ⟨_, rep_nil, rfl⟩) fun g' w' v hs b => ⟨g', var_ext hs, .inl b⟩) (fun mB hv => ?_)
    clear hv
    refine L_do (φ := fun v g w => OB 2011 g w 101 (⟨.slice none 0 0, rfl⟩ : Fv) v) rfl rfl .plain (fun g w hd => D_allocX (g := g) 2011 (⟨.slice none 0 0, rfl⟩ : Fv) Try.zeroValue101 (fun _ _ => fv0_rep) fun g' w' v hs b => ⟨g', var_ext hs, b⟩) (fun nB hv => ?_)
    clear hv
    refine L_do (φ := fun _ g w => OB 2010 g w 101 (m8 : List Bool) mB) rfl rfl .plain (fun g w hd => D_storeV (g := g) Try.sizeOf101 rfl (word (A := varA 2010 101 ([] : List Bool) (m8 : List Bool) mB) 7 rfl rfl (deps_of hd)) rfl (word (A := fun g w => RV g.m w m8 xG) 3 rfl rfl (deps_of hd))) (fun jM hv => ?_)
    clear hv
    refine L_nil fun rJ kM hall => ?_
    have hs := hall.1
    have hfr := hfr.stp hs
    have hmk := hmk.stp hs
    have dB := dB.stp hs
    have iB := iB.stp hs
    have yA := yA.stp hs rfl
    have n9 := n9.stp hs
    have mM := (word_all (A := fun g w => RV g.m w m8 xG) 3 rfl hall)
    have b3543 := (word_all (A := fun g w => OM 9033 g w 4 aB jD) 6 rfl hall)
    have b3544 := (word_all (A := fun g w => OB 2010 g w 101 (m8 : List Bool) mB) 9 rfl hall)
    have b3545 := (word_all (A := fun g w => OB 2011 g w 101 (⟨.slice none 0 0, rfl⟩ : Fv) nB) 8 rfl hall)
    clear hs hall
    have on3547 := om_one b3543
    refine EL_do .plain rfl (D_storeOc (g := rJ) (v := jD) (a' := (⟨jD, on3547⟩ : Fv)) Try.sizeOf101 rfl b3545 rfl (RV_fv.2 rfl) fun yG nM hs b3547 cb => ?_)
    clear cb
    have hfr := hfr.stp hs
    have hmk := hmk.stp hs
    have dB := dB.stp hs
    have iB := iB.stp hs
    have yA := yA.stp hs rfl
    have n9 := n9.stp hs
    have b3543 := b3543.stp hs rfl
    have b3544 := b3544.stp hs rfl
    refine EL_nil (thn_n ?_)
    obtain ⟨mC, hx, h⟩ := bsome h
    refine E_joinD (fun e ds w => ∃ (g : Gh) , Fr gI wI g w ∧ MkF g w ds ∧ e 2 = up2 ∧ MQ (Value.int .i64) wI.heap.size g w (x2 : List (Int × LoomRun)) up2 ∧ e 3 = p1 ∧ PT g.m w (x0 : LoomLoomMill) p1 ∧ e 7 = p7 ∧ OB 2007 g w 101 (k9 : List Bool) p7 ∧ e 11 = nB ∧ BX 2011 9033 g w 4 101 (mC : List Bool) nB ∧ e 21 = up1 ∧ RV g.m w (x1 : List Int) up1 ∧ e 22 = .int .i64 (((x1).length : Int)) ∧ e 23 = .int .i64 (k8)) (fun Q' hQ => ?_) (fun yL nL oM hR => ?_)
    ·replace h := hx
     clear hx
     refine E_seq (E_region (EL_do .plain rfl (D_loadO (α := Fv) (g := yG) Try.isAgg101 Try.sizeOf101 rfl b3547 fun zG aH => ?_)))
     have e4111 : zG = jD := RV_fv.1 aH
     clear aH
     subst zG
     refine EL_p (.int .i64 ((aB).length : Int)) (P_lenM Try.underlying101 rfl b3543) rfl ?_
     refine EL_mw (.int .i64 (0)) rfl rfl ?_
     refine EL_nil (thn_n (E_block ?_))
     refine E_lpD h (fun (s : (List Bool) × Int) e ds w => ∃ (g : Gh) , Fr gI wI g w ∧ MkF g w ds ∧ e 2 = up2 ∧ MQ (Value.int .i64) wI.heap.size g w (x2 : List (Int × LoomRun)) up2 ∧ e 3 = p1 ∧ PT g.m w (x0 : LoomLoomMill) p1 ∧ e 7 = p7 ∧ OB 2007 g w 101 (k9 : List Bool) p7 ∧ e 10 = mB ∧ OB 2010 g w 101 (m8 : List Bool) mB ∧ e 11 = nB ∧ BX 2011 9033 g w 4 101 (s.1 : List Bool) nB ∧ e 21 = up1 ∧ RV g.m w (x1 : List Int) up1 ∧ e 22 = .int .i64 (((x1).length : Int)) ∧ e 23 = .int .i64 (k8) ∧ e 35 = .int .i64 (((aB).length : Int)) ∧ e 36 = .int .i64 (s.2)) ⟨yG, hfr, hmk, kE, dB, lE, iB, cD, yA, rfl, b3544, rfl, ⟨_, b3547, b3543⟩, oD, n9, sD, qC, rfl, rfl⟩ (fun X4112 tG cJ => ?_)
     rintro ⟨vB, o0⟩ zL mE pM ⟨cH, hfr, hmk, nE, y9, oE, bA, eD, iA, rC, u9, v8, ⟨bL, x8, a9⟩, uD, d9, vD, xD, yD, uC⟩ h
     refine E_seq (E_region (EL_in (.bool ((decide (o0 < ((aB).length : Int))))) uC yD rfl rfl ?_))
     refine EL_nil (thn_n (E_seq ?_))
     rcases csome h with ⟨zD, h⟩ | ⟨zD, h⟩
     ·refine E_ct zD rfl ?_
      refine E_skip (thn_n ?_)
      obtain ⟨yB, hx, h⟩ := bsome h
      refine E_joinD (fun e ds w => ∃ (g : Gh) , Fr gI wI g w ∧ MkF g w ds ∧ e 2 = up2 ∧ MQ (Value.int .i64) wI.heap.size g w (x2 : List (Int × LoomRun)) up2 ∧ e 3 = p1 ∧ PT g.m w (x0 : LoomLoomMill) p1 ∧ e 7 = p7 ∧ OB 2007 g w 101 (k9 : List Bool) p7 ∧ e 10 = mB ∧ OB 2010 g w 101 (m8 : List Bool) mB ∧ e 11 = nB ∧ BX 2011 9033 g w 4 101 (yB : List Bool) nB ∧ e 21 = up1 ∧ RV g.m w (x1 : List Int) up1 ∧ e 22 = .int .i64 (((x1).length : Int)) ∧ e 23 = .int .i64 (k8) ∧ e 35 = .int .i64 (((aB).length : Int)) ∧ e 36 = .int .i64 (o0)) (fun Q' hQ => ?_) (fun aM oL qM hR => ?_)
      ·replace h := hx
       clear hx
       refine E_block ?_
       refine E_seq (E_region (EL_mv uC rfl ?_))
       refine EL_do .plain rfl (D_allocOc (g := cH) 2012 (0 : Int) Try.zeroValue3 (fun m w => ⟨_, rep_int, rfl⟩) fun sJ rM vJ hs b4394 cb => ?_)
       have hfr := hfr.stp hs
       have hmk := hmk.stp hs
       have y9 := y9.stp hs
       have bA := bA.stp hs
       have iA := iA.stp hs rfl
       have u9 := u9.stp hs rfl
       have x8 := x8.stp hs rfl
       have a9 := a9.stp hs rfl
       have d9 := d9.stp hs
       clear cb
       refine EL_do .plain rfl (D_storeOc (g := sJ) (v := .int .i64 (o0)) Try.sizeOf3 rfl b4394 rfl (RV_int.2 rfl) fun dH sM hs b4395 cb => ?_)
       clear cb
       have hfr := hfr.stp hs
       have hmk := hmk.stp hs
       have y9 := y9.stp hs
       have bA := bA.stp hs
       have iA := iA.stp hs rfl
       have u9 := u9.stp hs rfl
       have x8 := x8.stp hs rfl
       have a9 := a9.stp hs rfl
       have d9 := d9.stp hs
       refine EL_nil (thn_n (E_seq (E_region (EL_do .plain rfl (D_loadO (g := dH) Try.isAgg3 Try.sizeOf3 rfl b4395 fun tM xJ => ?_)))))
       obtain rfl := RV_int.1 xJ
       obtain ⟨sE, dJ, h⟩ := bsome h
       refine EL_do .plain rfl (D_call (g := dH) (vs := [.int .i64 (o0)]) en84 (.cons rfl .nil) (wk84  dJ) fun uM bM yJ hs hr => ?_)
       have hfr := hfr.ext hs
       have hmk := hmk.ext hs
       have y9 := y9.ext hs
       have bA := bA.ext hs
       have iA := iA.ext hs
       have u9 := u9.ext hs
       have x8 := x8.ext hs
       have a9 := a9.ext hs
       have d9 := d9.ext hs
       have b4395 := b4395.ext hs
       have gH := hr
       refine EL_nil (thn_n (E_block ?_))
       have hB0 := hfr.size
       have hmk0 := hmk
       obtain ⟨nD, hφ, h⟩ := bsome h
       refine E_rangeFunc (σ := ((List Bool))) (s0 := (vB)) 10 rfl (fun _ => 0) [] (fun (s : (List Bool)) (g : Gh) (w : World) => Fr gI wI g w ∧ MkF g w mE ∧ MQ (Value.int .i64) wI.heap.size g w (x2 : List (Int × LoomRun)) up2 ∧ PT g.m w (x0 : LoomLoomMill) p1 ∧ OB 2007 g w 101 (k9 : List Bool) p7 ∧ OB 2010 g w 101 (m8 : List Bool) mB ∧ BX 2011 9033 g w 4 101 (s : List Bool) nB ∧ OB 2012 g w 3 (o0 : Int) vJ ∧ RV g.m w (x1 : List Int) up1 ∧ ItV Try.prog (RA1 (α := Int)) sE yJ g.m w) rfl gH hφ (fun _ _ _ _ => rfl) rfl ra1_size rfl (fun _ _ _ _ _ hx hR => by obtain ⟨hfr, hmk, z2, z3, z4, z5, z6, z7, z8, z9⟩ := hR; exact ⟨hfr.ist hx hB0, hmk.ist hx, z2.ist hx hB0, z3.ist hx, z4.ist hx, z5.ist hx, z6.ist hx, z7.ist hx, z8.ist hx, z9.ist hx⟩) (fun _ _ _ _ _ hx hR => by obtain ⟨hfr, hmk, z2, z3, z4, z5, z6, z7, z8, z9⟩ := hR; exact ⟨hfr.stp hx, hmk.stp hx, z2.stp hx, z3.stp hx, z4.stp hx rfl, z5.stp hx rfl, z6.stp hx rfl, z7.stp hx rfl, z8.stp hx, z9.stp hx⟩) ⟨hfr, hmk, y9, bA, iA, u9, ⟨_, x8, a9⟩, b4395, d9, gH⟩ (fun _ h => by cases h) ?_ ?_
       ·intro cM pL s x b s2 lD zJ vs hsz h hR hrec_0 iF hrd
        obtain ⟨r8, hse⟩ : ∃ y, y = s := ⟨s, rfl⟩
        subst hse
        obtain ⟨hfr, hmk, y6, d7, x6, t5, ⟨i7, l5, x5⟩, u3, i6, j6⟩ := hR
        obtain ⟨l8, hxe⟩ : ∃ y, y = x := ⟨x, rfl⟩
        subst hxe
        obtain ⟨sH, rfl, nF⟩ := ra1_get hrd
        obtain rfl : sH = .int .i64 (l8) := RV_int.1 nF
        have n8 := RFr.refl lD zJ
        refine E_region (EL_at (.int .i64 (l8)) rfl rfl ?_)
        refine EL_nil (thn_n ?_)
        obtain ⟨aK, hbr, hs, hrN⟩ := begin_round hrec_0 iF
        refine ⟨aK, hbr, ?_⟩
        have hfr := hfr.stp hs
        have hmk := hmk.stp hs
        have n8 := n8.stp hs
        have y6 := y6.stp hs
        have d7 := d7.stp hs
        have x6 := x6.stp hs rfl
        have t5 := t5.stp hs rfl
        have l5 := l5.stp hs rfl
        have x5 := x5.stp hs rfl
        have u3 := u3.stp hs rfl
        have i6 := i6.stp hs
        have j6 := j6.stp hs
        have hrec_0 := hrN
        clear hbr hs hrN
        refine E_block ?_
        refine L_loadO0 (α := Fv) (x := .tmp 11) Try.isAgg101 Try.sizeOf101 l5 fun iH jH aE => ?_
        have e4537 : iH = i7.v := RV_fv.1 jH
        clear jH
        subst iH
        refine L_loadO0 (x := .tmp 12) Try.isAgg3 Try.sizeOf3 u3 fun vM bK bE => ?_
        obtain rfl := RV_int.1 bK
        refine L_loadO0 (α := Fv) (x := .tmp 11) Try.isAgg101 Try.sizeOf101 l5 fun kH lH cE => ?_
        have e4539 : kH = i7.v := RV_fv.1 lH
        clear lH
        subst kH
        refine L_loadO0 (x := .tmp 12) Try.isAgg3 Try.sizeOf3 u3 fun xM cK dE => ?_
        obtain rfl := RV_int.1 cK
        obtain ⟨rA, aD, h⟩ := bsome h
        refine L_loadM (x := .tmp 46) Try.isAgg4 Try.sizeOf4 x5 aD fun yM dK eE => ?_
        obtain rfl := RV_bool.1 dK
        rcases csome h with ⟨m7, h⟩ | ⟨m7, h⟩
        ·obtain ⟨jJ, xE, h⟩ := bsome h
         refine E_drawL (g := lD) (n := 21) [] [0, 1, 2, 3, 4, 5, 6, 7, 8, 9, 10, 11, 12, 13, 14, 15, 16, 17, 18, 19, 20] rfl mixed (by kernel_rfl) trivial ?_
         refine L_ld (c := i7.v) rfl rfl .plain (fun _ _ h => ⟨h.ch, fun b hb _ => h.below.block b hb⟩) aE v8 ?_
         refine L_ld (c := .int .i64 (o0)) rfl rfl .plain (fun _ _ h => ⟨h.ch, fun b hb _ => h.below.block b hb⟩) bE rfl ?_
         refine L_ld (c := i7.v) rfl rfl .plain (fun _ _ h => ⟨h.ch, fun b hb _ => h.below.block b hb⟩) cE v8 ?_
         refine L_ld (c := .int .i64 (o0)) rfl rfl .plain (fun _ _ h => ⟨h.ch, fun b hb _ => h.below.block b hb⟩) dE rfl ?_
         refine L_p (ePtr (i7.v) o0 1) rfl rfl (P_indexAddrM (α := Bool) Try.underlying101 Try.sizeOf4 rfl x5 rfl aD) ?_
         refine L_ld (c := .bool (rA)) rfl rfl .plain (fun _ _ h => ⟨h.ch, fun b hb _ => h.below.block b hb⟩) eE rfl ?_
         refine L_p (.bool (rA)) rfl rfl (P_move rfl) ?_
         iterate 5 refine L_s rfl rfl rfl m7 rfl ?_
         refine L_dead (fun _ => rfl) 6 rfl ?_
         refine L_s rfl rfl rfl m7 rfl ?_
         refine L_p (.bool true) rfl rfl (P_pick (b := rA) rfl (pick_t m7 rfl)) ?_
         refine L_p (ePtr (i7.v) o0 1) rfl rfl (P_indexAddrM (α := Bool) Try.underlying101 Try.sizeOf4 rfl x5 rfl xE) ?_
         refine L_nl fun lK zM hs => ?_
         have hfr := hfr.ext hs
         have hmk := hmk.ext hs
         have n8 := n8.ext hs
         have hrec_0 := hrec_0.ext hs
         have y6 := y6.ext hs
         have d7 := d7.ext hs
         have x6 := x6.ext hs
         have t5 := t5.ext hs
         have l5 := l5.ext hs
         have x5 := x5.ext hs
         have u3 := u3.ext hs
         have i6 := i6.ext hs
         have j6 := j6.ext hs
         clear hs
         refine EL_do .plain rfl (D_storeM (g := lK) (α := Bool) (a' := true) Try.sizeOf4 rfl x5 xE rfl (RV_bool.2 rfl) fun bN cN hs b4582 => ?_)
         have hfr := hfr.stp hs
         have hmk := hmk.stp hs
         have n8 := n8.stp hs
         have hrec_0 := hrec_0.stp hs rfl
         have y6 := y6.stp hs
         have d7 := d7.stp hs
         have x6 := x6.stp hs rfl
         have t5 := t5.stp hs rfl
         have l5 := l5.stp hs rfl
         have u3 := u3.stp hs rfl
         have i6 := i6.stp hs
         have j6 := j6.stp hs
         refine EL_nil (blk_n ?_)
         obtain ⟨rfl, rfl⟩ := pairs2 h
         exact ⟨_, n8, ⟨hfr, hmk, y6, d7, x6, t5, ⟨_, l5, b4582⟩, u3, i6, j6⟩, hrec_0, rfl, rfl⟩
        ·refine L_loadO0 (x := .tmp 10) Try.isAgg101 Try.sizeOf101 t5 fun mD tE yE => ?_
         obtain ⟨lB, iE, h⟩ := bsome h
         have mK := PT_idx tE iE
         refine L_load (x := .tmp 51) Try.isAgg4 Try.sizeOf4 mK fun dN nK zE => ?_
         obtain rfl := RV_bool.1 nK
         rcases csome h with ⟨l9, h⟩ | ⟨l9, h⟩
         ·refine L_loadO0 (x := .tmp 7) Try.isAgg101 Try.sizeOf101 x6 fun mH nH eJ => ?_
          refine L_loadO0 (x := .tmp 12) Try.isAgg3 Try.sizeOf3 u3 fun eN oK gJ => ?_
          obtain rfl := RV_int.1 oK
          obtain ⟨cC, cF, h⟩ := bsome h
          have pK := PT_idx nH cF
          refine L_load (x := .tmp 58) Try.isAgg4 Try.sizeOf4 pK fun gN qK iJ => ?_
          obtain rfl := RV_bool.1 qK
          obtain ⟨kJ, dF, h⟩ := bsome h
          refine E_drawL (g := lD) (n := 21) [] [0, 1, 2, 3, 4, 5, 6, 7, 8, 9, 10, 11, 12, 13, 14, 15, 16, 17, 18, 19, 20] rfl mixed (by kernel_rfl) trivial ?_
          refine L_ld (c := i7.v) rfl rfl .plain (fun _ _ h => ⟨h.ch, fun b hb _ => h.below.block b hb⟩) aE v8 ?_
          refine L_ld (c := .int .i64 (o0)) rfl rfl .plain (fun _ _ h => ⟨h.ch, fun b hb _ => h.below.block b hb⟩) bE rfl ?_
          refine L_ld (c := i7.v) rfl rfl .plain (fun _ _ h => ⟨h.ch, fun b hb _ => h.below.block b hb⟩) cE v8 ?_
          refine L_ld (c := .int .i64 (o0)) rfl rfl .plain (fun _ _ h => ⟨h.ch, fun b hb _ => h.below.block b hb⟩) dE rfl ?_
          refine L_p (ePtr (i7.v) o0 1) rfl rfl (P_indexAddrM (α := Bool) Try.underlying101 Try.sizeOf4 rfl x5 rfl aD) ?_
          refine L_ld (c := .bool (rA)) rfl rfl .plain (fun _ _ h => ⟨h.ch, fun b hb _ => h.below.block b hb⟩) eE rfl ?_
          refine L_p (.bool (rA)) rfl rfl (P_move rfl) ?_
          refine L_ld (c := mD) rfl rfl (.yes2 rfl rfl m7) (fun _ _ h => ⟨h.ch, fun b hb _ => h.below.block b hb⟩) yE rC ?_
          refine L_y (.int .i64 (l8)) rfl rfl rfl rfl m7 (P_move rfl) ?_
          refine L_y (ePtr mD l8 1) rfl rfl rfl rfl m7 (P_indexAddr (α := Bool) Try.underlying101 Try.sizeOf4 rfl tE rfl iE) ?_
          refine L_ld (c := .bool (lB)) rfl rfl (.yes2 rfl rfl m7) (fun _ _ h => h.ch) zE rfl ?_
          refine L_y (.bool (lB)) rfl rfl rfl rfl m7 (P_move rfl) ?_
          refine L_ld (c := mH) rfl rfl (.yes2 rfl rfl l9) (fun _ _ h => ⟨h.ch, fun b hb _ => h.below.block b hb⟩) eJ eD ?_
          refine L_ld (c := .int .i64 (o0)) rfl rfl (.yes2 rfl rfl l9) (fun _ _ h => ⟨h.ch, fun b hb _ => h.below.block b hb⟩) gJ rfl ?_
          refine L_y (.int .i64 (l8)) rfl rfl rfl rfl l9 (P_move rfl) ?_
          refine L_y (.int .i64 ((bit64 .andNot o0 l8))) rfl rfl rfl rfl l9 (P_int rfl rfl rfl) ?_
          refine L_y (ePtr mH (bit64 .andNot o0 l8) 1) rfl rfl rfl rfl l9 (P_indexAddr (α := Bool) Try.underlying101 Try.sizeOf4 rfl nH rfl cF) ?_
          refine L_ld (c := .bool (cC)) rfl rfl (.yes2 rfl rfl l9) (fun _ _ h => h.ch) iJ rfl ?_
          refine L_y (.bool (cC)) rfl rfl rfl rfl m7 (P_pick (b := lB) rfl (pick_t l9 rfl)) ?_
          refine L_p (.bool (cC)) rfl rfl (P_pick (b := rA) rfl (pick_f m7 rfl)) ?_
          refine L_p (ePtr (i7.v) o0 1) rfl rfl (P_indexAddrM (α := Bool) Try.underlying101 Try.sizeOf4 rfl x5 rfl dF) ?_
          refine L_nl fun sK iN hs => ?_
          have hfr := hfr.ext hs
          have hmk := hmk.ext hs
          have n8 := n8.ext hs
          have hrec_0 := hrec_0.ext hs
          have y6 := y6.ext hs
          have d7 := d7.ext hs
          have x6 := x6.ext hs
          have t5 := t5.ext hs
          have l5 := l5.ext hs
          have x5 := x5.ext hs
          have u3 := u3.ext hs
          have i6 := i6.ext hs
          have j6 := j6.ext hs
          clear hs
          refine EL_do .plain rfl (D_storeM (g := sK) (α := Bool) (a' := cC) Try.sizeOf4 rfl x5 dF rfl (RV_bool.2 rfl) fun jN kN hs b4631 => ?_)
          have hfr := hfr.stp hs
          have hmk := hmk.stp hs
          have n8 := n8.stp hs
          have hrec_0 := hrec_0.stp hs rfl
          have y6 := y6.stp hs
          have d7 := d7.stp hs
          have x6 := x6.stp hs rfl
          have t5 := t5.stp hs rfl
          have l5 := l5.stp hs rfl
          have u3 := u3.stp hs rfl
          have i6 := i6.stp hs
          have j6 := j6.stp hs
          refine EL_nil (blk_n ?_)
          obtain ⟨rfl, rfl⟩ := pairs2 h
          exact ⟨_, n8, ⟨hfr, hmk, y6, d7, x6, t5, ⟨_, l5, b4631⟩, u3, i6, j6⟩, hrec_0, rfl, rfl⟩
         ·obtain ⟨lJ, eF, h⟩ := bsome h
          refine E_drawL (g := lD) (n := 21) [] [0, 1, 2, 3, 4, 5, 6, 7, 8, 9, 10, 11, 12, 13, 14, 15, 16, 17, 18, 19, 20] rfl mixed (by kernel_rfl) trivial ?_
          refine L_ld (c := i7.v) rfl rfl .plain (fun _ _ h => ⟨h.ch, fun b hb _ => h.below.block b hb⟩) aE v8 ?_
          refine L_ld (c := .int .i64 (o0)) rfl rfl .plain (fun _ _ h => ⟨h.ch, fun b hb _ => h.below.block b hb⟩) bE rfl ?_
          refine L_ld (c := i7.v) rfl rfl .plain (fun _ _ h => ⟨h.ch, fun b hb _ => h.below.block b hb⟩) cE v8 ?_
          refine L_ld (c := .int .i64 (o0)) rfl rfl .plain (fun _ _ h => ⟨h.ch, fun b hb _ => h.below.block b hb⟩) dE rfl ?_
          refine L_p (ePtr (i7.v) o0 1) rfl rfl (P_indexAddrM (α := Bool) Try.underlying101 Try.sizeOf4 rfl x5 rfl aD) ?_
          refine L_ld (c := .bool (rA)) rfl rfl .plain (fun _ _ h => ⟨h.ch, fun b hb _ => h.below.block b hb⟩) eE rfl ?_
          refine L_p (.bool (rA)) rfl rfl (P_move rfl) ?_
          refine L_ld (c := mD) rfl rfl (.yes2 rfl rfl m7) (fun _ _ h => ⟨h.ch, fun b hb _ => h.below.block b hb⟩) yE rC ?_
          refine L_y (.int .i64 (l8)) rfl rfl rfl rfl m7 (P_move rfl) ?_
          refine L_y (ePtr mD l8 1) rfl rfl rfl rfl m7 (P_indexAddr (α := Bool) Try.underlying101 Try.sizeOf4 rfl tE rfl iE) ?_
          refine L_ld (c := .bool (lB)) rfl rfl (.yes2 rfl rfl m7) (fun _ _ h => h.ch) zE rfl ?_
          refine L_y (.bool (lB)) rfl rfl rfl rfl m7 (P_move rfl) ?_
          iterate 6 refine L_s rfl rfl rfl l9 rfl ?_
          refine L_y (.bool false) rfl rfl rfl rfl m7 (P_pick (b := lB) rfl (pick_f l9 rfl)) ?_
          refine L_p (.bool false) rfl rfl (P_pick (b := rA) rfl (pick_f m7 rfl)) ?_
          refine L_p (ePtr (i7.v) o0 1) rfl rfl (P_indexAddrM (α := Bool) Try.underlying101 Try.sizeOf4 rfl x5 rfl eF) ?_
          refine L_nl fun tK lN hs => ?_
          have hfr := hfr.ext hs
          have hmk := hmk.ext hs
          have n8 := n8.ext hs
          have hrec_0 := hrec_0.ext hs
          have y6 := y6.ext hs
          have d7 := d7.ext hs
          have x6 := x6.ext hs
          have t5 := t5.ext hs
          have l5 := l5.ext hs
          have x5 := x5.ext hs
          have u3 := u3.ext hs
          have i6 := i6.ext hs
          have j6 := j6.ext hs
          clear hs
          refine EL_do .plain rfl (D_storeM (g := tK) (α := Bool) (a' := false) Try.sizeOf4 rfl x5 eF rfl (RV_bool.2 rfl) fun mN nN hs b4670 => ?_)
          have hfr := hfr.stp hs
          have hmk := hmk.stp hs
          have n8 := n8.stp hs
          have hrec_0 := hrec_0.stp hs rfl
          have y6 := y6.stp hs
          have d7 := d7.stp hs
          have x6 := x6.stp hs rfl
          have t5 := t5.stp hs rfl
          have l5 := l5.stp hs rfl
          have u3 := u3.stp hs rfl
          have i6 := i6.stp hs
          have j6 := j6.stp hs
          refine EL_nil (blk_n ?_)
          obtain ⟨rfl, rfl⟩ := pairs2 h
          exact ⟨_, n8, ⟨hfr, hmk, y6, d7, x6, t5, ⟨_, l5, b4670⟩, u3, i6, j6⟩, hrec_0, rfl, rfl⟩
       ·intro uK oN ds4672 hsz hR hds
        obtain ⟨hfr, hmk, tH, uH, xH, oF, ⟨dL, pF, qF⟩, eL, rF, gL⟩ := hR
        obtain ⟨D, hdse, hD, hDb⟩ := hds.1 rfl
        subst hdse
        replace hmk := MkF.push hmk0 hmk hD hDb
        clear hD hDb hds
        revert hmk
        generalize ({ target := .collected D, args := #[] } :: mE : List Deferred) = qL
        intro hmk
        refine ⟨fun _ => ?_, fun k c hs _ => absurd hs (Nat.succ_ne_zero k).symm⟩
        refine blk_n (blk_n ?_)
        obtain rfl := sinj h
        exact hQ _ _ _ ⟨uK, hfr, hmk, nE, tH, oE, uH, eD, xH, rC, oF, v8, ⟨_, pF, qF⟩, uD, rF, vD, xD, yD, uC⟩
      ·clear hx
       obtain ⟨vK, hfr, hmk, yH, zH, aI, bI, dI, iI, sF, tF, uF, ⟨iL, vF, xF⟩, yF, zF, aG, bG, cG, eG⟩ := hR
       refine E_region (EL_in (.int .i64 ((w64 (o0 + (1 : Int))))) eG rfl rfl rfl ?_)
       refine EL_mw (.int .i64 ((w64 (o0 + (1 : Int))))) rfl rfl ?_
       exact EL_nil (thn_n (cJ (yB, (w64 (o0 + (1 : Int)))) _ _ _ ⟨vK, hfr, hmk, yH, zH, aI, bI, dI, iI, sF, tF, uF, ⟨_, vF, xF⟩, yF, zF, aG, bG, cG, rfl⟩ h))
     ·refine E_cf zD rfl ?_
      refine E_exit ?_
      refine thn_e ?_
      refine thn_e ?_
      refine blk_hit ?_
      obtain rfl := sinj h
      exact hQ _ _ _ ⟨cH, hfr, hmk, nE, y9, oE, bA, eD, iA, v8, ⟨_, x8, a9⟩, uD, d9, vD, xD⟩
    ·clear hx
     obtain ⟨xK, hfr, hmk, jI, oB, kI, tB, rE, gD, gG, ⟨jE, zB, hG⟩, iG, jB, jG, kG⟩ := hR
     refine E_region (EL_do .plain rfl (D_loadO (α := Fv) (g := xK) Try.isAgg101 Try.sizeOf101 gG zB fun oH pH => ?_))
     have e4675 : oH = jE.v := RV_fv.1 pH
     clear pH
     subst oH
     obtain ⟨gp4677, hs, rp4677⟩ := OM.pub hG
     have hfr := hfr.stp hs
     have hmk := hmk.stp hs
     have oB := oB.stp hs
     have tB := tB.stp hs
     have gD := gD.stp hs rfl
     have zB := zB.stp hs rfl
     have jB := jB.stp hs
     have ub4677 := OB.ofRV zB rp4677
     refine EL_do .plain rfl (D_storeOc (g := gp4677) (v := jE.v) Try.sizeOf101 rE gD rfl rp4677 fun yK pN hs b4676 cb => ?_)
     clear cb
     have hfr := hfr.stp hs
     have hmk := hmk.stp hs
     have oB := oB.stp hs
     have tB := tB.stp hs
     have jB := jB.stp hs
     refine EL_nil (blk_n ?_)
     obtain rfl := sinj h
     exact hQ _ _ _ ⟨yK, hfr, hmk, jI, oB, kI, tB, rE, b4676, iG, jB, jG, kG⟩
   ·clear hx
    obtain ⟨zK, hfr, hmk, lI, mI, nI, pI, qI, sI, lG, mG, nG, oG⟩ := hR
    refine E_region (EL_in (.int .i64 ((w64 (k8 + (1 : Int))))) oG rfl rfl rfl ?_)
    refine EL_mw (.int .i64 ((w64 (k8 + (1 : Int))))) rfl rfl ?_
    exact EL_nil (thn_n (xI (eC, (w64 (k8 + (1 : Int)))) _ _ _ ⟨zK, hfr, hmk, lI, mI, nI, pI, qI, sI, lG, mG, nG, rfl⟩ h))
  ·refine E_cf tD rfl ?_
   refine E_exit ?_
   refine thn_e ?_
   refine thn_e ?_
   refine blk_hit ?_
   obtain rfl := sinj h
   exact hQ _ _ _ ⟨iD, hfr, hmk, cD, yA⟩
 ·clear hx
  obtain ⟨aL, hfr, hmk, tI, uI⟩ := hR
  refine E_seq (E_region (EL_do .plain rfl (D_loadO (g := aL) Try.isAgg101 Try.sizeOf101 tI uI fun qH uE => ?_)))
  refine EL_at qH rfl rfl ?_
  refine EL_nil (thn_n (E_ret (endM (.inr rfl) hmk fun qN rN hs => ?_)))
  have hfr := hfr.stp hs
  have uE := uE.stp hs
  obtain rfl := sinj h
  exact end1 rfl rfl (show _ = qH from rfl) ⟨_, hfr, uE⟩
def f54 (x0 : LoomLoomMill) (x1 : Int) (x2 : List (Int × LoomRun)) : Option (Bool × (List (Int × LoomRun))) :=
 (idx ((x0).orders) x1).bind fun y4 =>
 jn (σ := (List (Int × LoomRun))) (fun lB =>
  some (false, lB)
  ) fun vC =>
 lp (σ := (List (Int × LoomRun)) × Int) (fun aD (y6, o0) =>
  jn (σ := Unit) (fun _ =>
   jn (σ := (List (Int × LoomRun))) (fun v8 =>
    aD (v8, (w64 (o0 + (1 : Int))))
    ) fun bD =>
   (f52 x0).bind fun x6 =>
   lp (σ := (List (Int × LoomRun)) × Int) (fun cD (x5, u3) =>
    bif (decide (u3 < ((x6).length : Int))) then
     jn (σ := (List (Int × LoomRun))) (fun x8 =>
      cD (x8, (w64 (u3 + (1 : Int))))
      ) fun eD =>
     (idx x6 u3).bind fun i6 =>
     (f52 x0).bind fun n8 =>
     (f51 x0 n8 ((mset x5 x1 ((⟨x1, i6, o0⟩ : LoomRun))))).bind fun d7 =>
     (f53 x0).bind fun a9 =>
     (idx d7 a9).bind fun iA =>
     bif iA then
      some (true, (mset x5 x1 ((⟨x1, i6, o0⟩ : LoomRun))))
     else
      eD ((mset x5 x1 ((⟨x1, i6, o0⟩ : LoomRun))))
    else
     bD (x5)
    ) big (y6, (0 : Int))
   ) fun gD =>
  bif (decide ((w64 (o0 + (y4).Woven)) ≤ (y4).Late)) then
   gD ()
  else
   vC (y6)
  ) big (x2, (y4).Early)
theorem en54 : Enters Try.prog 54 := enters_of Try.func54 (by kernel_rfl) rfl
theorem wk54 {iI : Nat} {gI : Gh} {wI : World} {x0 : LoomLoomMill} {x1 : Int} {x2 : List (Int × LoomRun)} {up0 : Value} (rp0 : RV gI.m wI x0 up0) {up2 : Value} (mp2 : MP (Value.int .i64) iI gI wI x2 up2) {r : Bool × (List (Int × LoomRun))} (h : f54 x0 x1 x2 = some r) : FnM Try.prog 54 #[up0, .int .i64 (x1), up2] iI gI wI (fun g w v => v = .bool (r.1) ∧ MP (Value.int .i64) iI g w (r.2) up2) := by
 unfold f54 at h
 refine fnM_of_E Try.func54 rfl (Nat.le_of_ble_eq_true rfl) fun g0 hm hfr => ?_
 have cC := mp2
 replace mp2 := mp2.enter
 rw [← hm] at mp2
 replace hm : g0.m = gI.m := by rw [hm]
 have rp0 : RV g0.m wI x0 up0 := hm ▸ rp0
 show E _ 50 none _ _ _ _ _
 refine E_seq (E_region (EL_do .plain rfl (D_box (g := g0) rfl rp0 fun g1 w1 p1 hs q1 => ?_)))
 have hfr := hfr.ext hs
 have mp2 := mp2.ext hs
 refine EL_at (.bool false) rfl rfl ?_
 refine EL_nil (thn_n (E_seq (E_region (EL_p (fPtr p1 2) (P_fieldAddr at_96_1 rfl (PT.ptr q1)) rfl ?_))))
 have q2 := PT_field (part_LoomLoomMill_1).1 q1
 refine EL_do .plain rfl (D_load (g := g1) Try.isAgg25 Try.sizeOf25 rfl q2 fun v3 r3 => ?_)
 refine EL_mw (.int .i64 (x1)) rfl rfl ?_
 obtain ⟨y4, uF, h⟩ := bsome h
 refine EL_p (ePtr v3 x1 5) (P_indexAddr (α := LoomOrder) Try.underlying25 Try.sizeOf82 rfl r3 rfl uF) rfl ?_
 have q5 := PT_idx r3 uF
 refine EL_do .plain rfl (D_load (g := g1) Try.isAgg82 Try.sizeOf82 rfl q5 fun v6 r6 => ?_)
 refine EL_do .plain rfl (D_allocOc (g := g1) 2007 (⟨0, 0, 0, 0, 0⟩ : LoomOrder) Try.zeroValue82 (fun m w => ⟨_, (rep_two rep_int (rep_two rep_int (rep_two rep_int (rep_two rep_int rep_int)))), rfl⟩) fun g7 w7 p7 hs b7 cb => ?_)
 have hfr := hfr.stp hs
 have mp2 := mp2.stp hs rfl
 have q1 := q1.stp hs
 have r6 := r6.stp hs
 clear cb
 refine EL_do .plain rfl (D_storeOc (g := g7) (v := v6) Try.sizeOf82 rfl b7 rfl r6 fun g8 w8 hs b8 cb => ?_)
 clear cb
 have hfr := hfr.stp hs
 have mp2 := mp2.stp hs rfl
 have q1 := q1.stp hs
 refine EL_nil (thn_n (E_joinC h (fun (s : (List (Int × LoomRun))) e w => ∃ (g : Gh) , FrM iI gI wI g w ∧ e 2 = up2 ∧ MP (Value.int .i64) 1 g w (s : List (Int × LoomRun)) up2) (fun X228 vC xE h => ?_) ?_))
 ·refine E_seq (E_region (EL_p (fPtr p7 3) (P_fieldAddr at_82_3 rfl (OB.ptr b8)) rfl ?_))
  refine EL_do .plain rfl (D_loadF (g := g8) part_LoomOrder_3.1 Try.isAgg3 Try.sizeOf3 rfl b8 fun cH vF => ?_)
  obtain rfl := RV_int.1 vF
  refine EL_at (.int .i64 ((y4).Early)) rfl rfl ?_
  refine EL_nil (thn_n (E_block ?_))
  refine E_lp h (fun (s : (List (Int × LoomRun)) × Int) e w => ∃ (g : Gh) , FrM iI gI wI g w ∧ e 1 = .int .i64 (x1) ∧ e 2 = up2 ∧ MP (Value.int .i64) 1 g w (s.1 : List (Int × LoomRun)) up2 ∧ e 3 = p1 ∧ PT g.m w (x0 : LoomLoomMill) p1 ∧ e 7 = p7 ∧ OB 2007 g w 82 (y4 : LoomOrder) p7 ∧ e 8 = .int .i64 (s.2)) ⟨g8, hfr, rfl, rfl, mp2, rfl, q1, rfl, b8, rfl⟩ (fun X231 aD yE => ?_)
  rintro ⟨y6, o0⟩ tG dH ⟨rA, hfr, iD, mB, nB, jD, lD, d9, i7, oB⟩ h
  refine E_joinC h (fun (s : Unit) e w => ∃ (g : Gh) , FrM iI gI wI g w ∧ e 1 = .int .i64 (x1) ∧ e 2 = up2 ∧ MP (Value.int .i64) 1 g w (y6 : List (Int × LoomRun)) up2 ∧ e 3 = p1 ∧ PT g.m w (x0 : LoomLoomMill) p1 ∧ e 7 = p7 ∧ OB 2007 g w 82 (y4 : LoomOrder) p7 ∧ e 8 = .int .i64 (o0)) (fun X238 gD zE h => ?_) ?_
  ·refine E_seq (E_region (EL_mv oB rfl ?_))
   refine EL_p (fPtr p7 2) (P_fieldAddr at_82_2 d9 (OB.ptr i7)) rfl ?_
   refine EL_do .plain rfl (D_loadF (g := rA) part_LoomOrder_2.1 Try.isAgg3 Try.sizeOf3 rfl i7 fun gH xF => ?_)
   obtain rfl := RV_int.1 xF
   refine EL_in (.int .i64 ((w64 (o0 + (y4).Woven)))) rfl rfl rfl rfl ?_
   refine EL_p (fPtr p7 4) (P_fieldAddr at_82_4 d9 (OB.ptr i7)) rfl ?_
   refine EL_do .plain rfl (D_loadF (g := rA) part_LoomOrder_4.1 Try.isAgg3 Try.sizeOf3 rfl i7 fun iH yF => ?_)
   obtain rfl := RV_int.1 yF
   refine EL_p (.bool ((decide ((w64 (o0 + (y4).Woven)) ≤ (y4).Late)))) (P_int rfl rfl rfl) rfl ?_
   refine EL_nil (thn_n ?_)
   rcases csome h with ⟨yA, h⟩ | ⟨yA, h⟩
   ·refine E_ct yA rfl ?_
    exact E_skip (thn_n (zE () _ _ ⟨rA, hfr, iD, mB, nB, jD, lD, d9, i7, oB⟩ h))
   ·refine E_cf yA rfl ?_
    refine E_exit ?_
    refine thn_e ?_
    refine thn_e ?_
    refine blk_hit ?_
    exact thn_n (xE (y6) _ _ ⟨rA, hfr, mB, nB⟩ h)
  ·rintro _ uG jH ⟨mD, hfr, nD, oD, k9, tB, k8, sD, l9, tD⟩ h
   refine E_joinC h (fun (s : (List (Int × LoomRun))) e w => ∃ (g : Gh) , FrM iI gI wI g w ∧ e 1 = .int .i64 (x1) ∧ e 2 = up2 ∧ MP (Value.int .i64) 1 g w (s : List (Int × LoomRun)) up2 ∧ e 3 = p1 ∧ PT g.m w (x0 : LoomLoomMill) p1 ∧ e 7 = p7 ∧ OB 2007 g w 82 (y4 : LoomOrder) p7 ∧ e 8 = .int .i64 (o0)) (fun X345 bD cF h => ?_) ?_
   ·refine E_block ?_
    refine E_seq (E_region (EL_do .plain rfl (D_load (g := mD) Try.isAgg96 Try.sizeOf96 tB k8 fun zF aG => ?_)))
    obtain ⟨x6, dF, h⟩ := bsome h
    refine EL_do .plain rfl (D_call (g := mD) (vs := [zF]) en52 (.cons rfl .nil) (wk52 aG dF) fun bG vG n9 hs hr => ?_)
    have hfr := hfr.ext hs
    have k9 := k9.ext hs
    have k8 := k8.ext hs
    have l9 := l9.ext hs
    have uD := hr
    refine EL_p (.int .i64 ((x6).length : Int)) (P_len Try.underlying22 rfl uD) rfl ?_
    refine EL_mw (.int .i64 (0)) rfl rfl ?_
    refine EL_nil (thn_n (E_block ?_))
    refine E_lp h (fun (s : (List (Int × LoomRun)) × Int) e w => ∃ (g : Gh) , FrM iI gI wI g w ∧ e 1 = .int .i64 (x1) ∧ e 2 = up2 ∧ MP (Value.int .i64) 1 g w (s.1 : List (Int × LoomRun)) up2 ∧ e 3 = p1 ∧ PT g.m w (x0 : LoomLoomMill) p1 ∧ e 7 = p7 ∧ OB 2007 g w 82 (y4 : LoomOrder) p7 ∧ e 8 = .int .i64 (o0) ∧ e 28 = n9 ∧ RV g.m w (x6 : List Int) n9 ∧ e 29 = .int .i64 (((x6).length : Int)) ∧ e 30 = .int .i64 (s.2)) ⟨bG, hfr, nD, oD, k9, tB, k8, sD, l9, tD, rfl, uD, rfl, rfl⟩ (fun X349 cD eF => ?_)
    rintro ⟨x5, u3⟩ xG cG ⟨aB, hfr, l8, m8, vB, m7, l5, yB, j6, u9, z9, t5, bA, r8⟩ h
    refine E_seq (E_region (EL_in (.bool ((decide (u3 < ((x6).length : Int))))) r8 bA rfl rfl ?_))
    refine EL_nil (thn_n (E_seq ?_))
    rcases csome h with ⟨dB, h⟩ | ⟨dB, h⟩
    ·refine E_ct dB rfl ?_
     refine E_skip (thn_n (E_joinC h (fun (s : (List (Int × LoomRun))) e w => ∃ (g : Gh) , FrM iI gI wI g w ∧ e 1 = .int .i64 (x1) ∧ e 2 = up2 ∧ MP (Value.int .i64) 1 g w (s : List (Int × LoomRun)) up2 ∧ e 3 = p1 ∧ PT g.m w (x0 : LoomLoomMill) p1 ∧ e 7 = p7 ∧ OB 2007 g w 82 (y4 : LoomOrder) p7 ∧ e 8 = .int .i64 (o0) ∧ e 28 = n9 ∧ RV g.m w (x6 : List Int) n9 ∧ e 29 = .int .i64 (((x6).length : Int)) ∧ e 30 = .int .i64 (u3)) (fun X398 eD iF h => ?_) ?_))
     ·refine E_block ?_
      refine E_seq (E_region ?_)
      obtain ⟨i6, eC, h⟩ := bsome h
      refine EL_p (ePtr n9 u3 1) (P_indexAddr (α := Int) Try.underlying22 Try.sizeOf3 z9 t5 r8 eC) rfl ?_
      have eG := PT_idx t5 eC
      refine EL_do .plain rfl (D_load (g := aB) Try.isAgg3 Try.sizeOf3 rfl eG fun kH gG => ?_)
      obtain rfl := RV_int.1 gG
      refine EL_at (.int .i64 (i6)) rfl rfl ?_
      refine EL_nil (thn_n (E_seq (E_region (EL_mv m8 rfl ?_))))
      refine EL_mv l8 rfl ?_
      refine EL_mv l8 rfl ?_
      refine EL_mw (.int .i64 (i6)) rfl rfl ?_
      refine EL_mv u9 rfl ?_
      have vD : RV aB.m cG (⟨x1, i6, o0⟩ : LoomRun) (.agg (setCh [[.int .i64 0], [.int .i64 0], [.int .i64 0]] [(0, .int .i64 (x1)), (1, .int .i64 (i6)), (2, .int .i64 (o0))]).flatten.toArray) := RV_build rfl (rep_pair (rfl) (rep_pair (rfl) (rep_last (rfl))))
      generalize nF : (Value.agg (setCh [[.int .i64 0], [.int .i64 0], [.int .i64 0]] [(0, .int .i64 (x1)), (1, .int .i64 (i6)), (2, .int .i64 (o0))]).flatten.toArray) = hG at vD
      refine EL_p hG (nF ▸ P_build (vs := [(0, .int .i64 (x1)), (1, .int .i64 (i6)), (2, .int .i64 (o0))]) [[.int .i64 0], [.int .i64 0], [.int .i64 0]] lay_76 rfl rfl (.cons rfl (.cons rfl (.cons rfl .nil))) ⟨⟨_, rfl, rfl⟩, ⟨⟨_, rfl, rfl⟩, ⟨⟨_, rfl, rfl⟩, trivial⟩⟩⟩) rfl ?_
      refine EL_do .plain rfl (D_mapUpdate (g := aB) Try.underlying100 key_3 rfl vB rfl rfl vD fun iG lH hs m403 => ?_)
      have hfr := hfr.stp hs
      have l5 := l5.stp hs
      have j6 := j6.stp hs rfl
      have t5 := t5.stp hs
      refine EL_nil (thn_n (E_seq (L_load (x := .tmp 3) Try.isAgg96 Try.sizeOf96 l5 fun xD jG oF => ?_)))
      refine L_load (x := .tmp 3) Try.isAgg96 Try.sizeOf96 l5 fun yD kG pF => ?_
      obtain ⟨n8, qF, h⟩ := bsome h
      obtain ⟨d7, rF, h⟩ := bsome h
      refine L_load (x := .tmp 3) Try.isAgg96 Try.sizeOf96 l5 fun zD lG sF => ?_
      obtain ⟨a9, tF, h⟩ := bsome h
      obtain ⟨iA, iB, h⟩ := bsome h
      refine E_drawL (g := iG) (n := 9) [(2, (fun v g w => RV g.m w n8 v)), (4, (fun v g w => RV g.m w d7 v)), (6, (fun v g w => v = .int .i64 (a9))), (8, (fun v _ _ => v = .bool (iA)))] [0, 1, 2, 3, 4, 5, 6, 7, 8] rfl mixed (by kernel_rfl) (⟨fun _ => up_rv, fun _ => up_rv, fun _ => up_eq _, fun _ => up_eq _, trivial⟩) ?_
      refine L_ld (c := xD) rfl rfl .plain (fun _ _ h => h.ch) oF m7 ?_
      refine L_ld (c := yD) rfl rfl .plain (fun _ _ h => h.ch) pF m7 ?_
      refine L_do (φ := fun v g w => RV g.m w n8 v) rfl rfl .plain (fun g w hd => D_call (g := g) (vs := [yD]) en52 (.cons rfl .nil) (wk52 (kG.ext hd.1) qF) fun g' w' v hs hr => ⟨g', hs, hr⟩) (fun zB hv => ?_)
      obtain ⟨_, _, _, rq406⟩ := hv
      refine L_p up2 rfl rfl (P_move m8) ?_
      refine L_do (φ := fun v g w => RV g.m w d7 v) rfl rfl .plain (fun g w hd => D_call (g := g) (vs := [xD, zB, up2]) en51 (.cons rfl (.cons rfl (.cons rfl .nil))) (wk51 (jG.ext hd.1) (word (A := fun g w => RV g.m w n8 zB) 2 rfl rfl (deps_of hd)) (m403.ext hd.1).r rF) fun g' w' v hs hr => ⟨g', hs, hr⟩) (fun y9 hv => ?_)
      obtain ⟨_, _, _, rq408⟩ := hv
      refine L_ld (c := zD) rfl rfl .plain (fun _ _ h => h.ch) sF m7 ?_
      refine L_do (φ := fun v g w => v = .int .i64 (a9)) rfl rfl .plain (fun g w hd => D_call (g := g) (vs := [zD]) en53 (.cons rfl .nil) (wk53 (lG.ext hd.1) tF) fun g' w' v hs hr => ⟨g', hs, hr⟩) (fun mH hv => ?_)
      obtain ⟨_, _, _, rfl⟩ := hv
      refine L_pur (c := ePtr y9 a9 1) rfl rfl .plain (fun _ _ hd => P_indexAddr (α := Bool) Try.underlying101 Try.sizeOf4 rfl (word (A := fun g w => RV g.m w d7 y9) 4 rfl rfl (deps_of hd)) rfl iB) ?_
      refine L_do (φ := (fun v _ _ => v = .bool (iA))) rfl rfl .plain (fun g w hd => D_load (g := g) Try.isAgg4 Try.sizeOf4 rfl (PT_idx (word (A := fun g w => RV g.m w d7 y9) 4 rfl rfl (hop 7 rfl rfl (deps_of hd))) iB) fun v r => ⟨g, Ext.refl g w, RV_bool.1 r⟩) (fun nH hv => ?_)
      obtain ⟨_, _, _, rfl⟩ := hv
      refine L_nil fun mG oH hall => ?_
      have hs := hall.1
      have hfr := hfr.ext hs
      have m403 := m403.ext hs
      have l5 := l5.ext hs
      have j6 := j6.ext hs
      have t5 := t5.ext hs
      have pH := (word_all (A := fun g w => RV g.m w n8 zB) 2 rfl hall)
      have qH := (word_all (A := fun g w => RV g.m w d7 y9) 4 rfl hall)
      have sH := (PT_idx (word_all (A := fun g w => RV g.m w d7 y9) 4 rfl hall) iB)
      clear hs hall
      refine EL_nil (thn_n ?_)
      rcases csome h with ⟨jB, h⟩ | ⟨jB, h⟩
      ·refine E_ct jB rfl ?_
       refine E_seq (E_region (EL_at (.bool true) rfl rfl ?_))
       refine EL_nil (thn_n (E_ret (blk_r ?_)))
       refine thn_r ?_
       refine thn_r ?_
       refine blk_r ?_
       refine blk_r ?_
       refine thn_r ?_
       refine thn_r ?_
       refine blk_r ?_
       refine thn_r ?_
       obtain rfl := sinj h
       exact end1 rfl rfl (show _ = .bool true from rfl) ⟨_, hfr, rfl, cC.back m403⟩
      ·refine E_cf jB rfl ?_
       exact E_skip (blk_n (thn_n (iF ((mset x5 x1 ((⟨x1, i6, o0⟩ : LoomRun)))) _ _ ⟨mG, hfr, l8, m8, m403, m7, l5, yB, j6, u9, z9, t5, bA, r8⟩ h)))
     ·rintro x8 yG tH ⟨nG, hfr, aE, bE, cE, dE, eE, iE, jE, kE, mC, qC, rC, uC⟩ h
      refine E_region (EL_in (.int .i64 ((w64 (u3 + (1 : Int))))) uC rfl rfl rfl ?_)
      refine EL_mw (.int .i64 ((w64 (u3 + (1 : Int))))) rfl rfl ?_
      exact EL_nil (thn_n (eF (x8, (w64 (u3 + (1 : Int)))) _ _ ⟨nG, hfr, aE, bE, cE, dE, eE, iE, jE, kE, mC, qC, rC, rfl⟩ h))
    ·refine E_cf dB rfl ?_
     refine E_exit ?_
     refine thn_e ?_
     refine thn_e ?_
     refine blk_hit ?_
     exact blk_n (thn_n (cF (x5) _ _ ⟨aB, hfr, l8, m8, vB, m7, l5, yB, j6, u9⟩ h))
   ·rintro v8 zG uH ⟨oG, hfr, lE, mE, nE, oE, rE, sE, tE, uE⟩ h
    refine E_region (EL_mv uE rfl ?_)
    refine EL_in (.int .i64 ((w64 (o0 + (1 : Int))))) rfl rfl rfl rfl ?_
    refine EL_at (.int .i64 ((w64 (o0 + (1 : Int))))) rfl rfl ?_
    exact EL_nil (thn_n (yE (v8, (w64 (o0 + (1 : Int)))) _ _ ⟨oG, hfr, lE, mE, nE, oE, rE, sE, tE, rfl⟩ h))
 ·rintro lB aH xH ⟨yH, hfr, sG, vE⟩ h
  refine E_seq (E_region (EL_at (.bool false) rfl rfl ?_))
  refine EL_nil (thn_n (E_ret ?_))
  obtain rfl := sinj h
  exact end1 rfl rfl (show _ = .bool false from rfl) ⟨_, hfr, rfl, cC.back vE⟩
def f55 (x0 : Int) (x1 : Int → Option Bool) : Option ((List Int) × Bool) :=
 Option.bind (α := (List Int) × Bool) (
  (shl64 (1 : Int) x0).bind fun x8 =>
  lp (σ := (List Int) × Bool × Int) (fun mB (l5, x6, o0) =>
   bif (decide (o0 < x8)) then
    Option.bind (α := (List Int) × Bool) (
     (f59 o0).bind fun i6 =>
     jn (σ := Unit) (fun _ =>
      some (i6, true)
      ) fun nB =>
     Option.bind (α := Bool) (
      bif x6 then
       bif (decide (((i6).length : Int) > ((l5).length : Int))) then
        some (true)
       else
        bif (((i6).length : Int) == ((l5).length : Int)) then
         (f85 i6 l5).bind fun v8 =>
         bif (decide (v8 > (0 : Int))) then
          some (true)
         else
          (x1 o0).bind fun y9 =>
          some ((!y9))
        else
         (x1 o0).bind fun z9 =>
         some ((!z9))
      else
       (x1 o0).bind fun bA =>
       some ((!bA))
      ) fun n8 =>
     bif n8 then
      some (l5, x6)
     else
      nB ()
     ) fun (d9, k9) =>
    mB (d9, k9, (w64 (o0 + (1 : Int))))
   else
    some (l5, x6)
   ) big ([], false, (0 : Int))
  ) fun (l9, a9) =>
 some (l9, a9)
theorem en55 : Enters Try.prog 55 := enters_of Try.func55 (by kernel_rfl) rfl
theorem wk55 {gI : Gh} {wI : World} {x0 : Int} {x1 : Int → Option Bool} {up1 : Value} (rp1 : FnV1 Try.prog x1 up1 gI wI) {r : (List Int) × Bool} (h : f55 x0 x1 = some r) : Fn Try.prog 55 #[.int .i64 (x0), up1] gI wI (fun m w v => ∃ y0 y1, v = .tuple #[y0, y1] ∧ RV m w (r.1) y0 ∧ y1 = .bool (r.2)) := by
 unfold f55 at h
 refine fn_of_E Try.func55 rfl (Nat.le_of_ble_eq_true rfl) fun g0 hm hfr => ?_
 obtain ⟨ff1, fa1, fc1, rfl, fen1, fcl1⟩ := rp1
 show E _ 46 none _ _ _ _ _
 refine E_seq (E_region (EL_at (.slice none 0 0) rfl rfl ?_))
 refine EL_at (.bool false) rfl rfl ?_
 refine EL_nil (thn_n ?_)
 obtain ⟨⟨l9, a9⟩, hx, h⟩ := bsome h
 refine E_join (fun e w => ∃ (g : Gh) (v4 : Value), Fr gI wI g w ∧ e 4 = v4 ∧ RV g.m w (l9 : List Int) v4 ∧ e 5 = .bool (a9)) (fun Q' hQ => ?_) (fun eE oE hR => ?_)
 ·replace h := hx
  clear hx
  refine E_seq (E_region (EL_mw (.int .i64 (x0)) rfl rfl ?_))
  obtain ⟨x8, nD, h⟩ := bsome h
  refine EL_p (.int .i64 (x8)) (P_int rfl rfl (congrArg (Option.map (Value.int .i64)) nD)) rfl ?_
  refine EL_mw (.int .i64 (0)) rfl rfl ?_
  refine EL_nil (thn_n (E_block ?_))
  refine E_lp h (fun (s : (List Int) × Bool × Int) e w => ∃ (g : Gh) (v4 : Value), Fr gI wI g w ∧ e 1 = (.func (.func ff1) fa1 fc1) ∧ e 4 = v4 ∧ RV g.m w (s.1 : List Int) v4 ∧ e 5 = .bool (s.2.1) ∧ e 9 = .int .i64 (x8) ∧ e 10 = .int .i64 (s.2.2)) ⟨g0, (.slice none 0 0), hfr, rfl, rfl, RV_nil, rfl, rfl, rfl⟩ (fun X352 mB oD => ?_)
  rintro ⟨l5, x6, o0⟩ iE rE ⟨oB, i7, hfr, m7, y6, u3, l8, r8, d7⟩ h
  refine E_seq (E_region (EL_in (.bool ((decide (o0 < x8)))) d7 r8 rfl rfl ?_))
  refine EL_nil (thn_n (E_seq ?_))
  rcases csome h with ⟨iA, h⟩ | ⟨iA, h⟩
  ·refine E_ct iA rfl ?_
   refine E_skip (thn_n ?_)
   obtain ⟨⟨d9, k9⟩, hx, h⟩ := bsome h
   refine E_join (fun e w => ∃ (g : Gh) (v4 : Value), Fr gI wI g w ∧ e 1 = (.func (.func ff1) fa1 fc1) ∧ e 4 = v4 ∧ RV g.m w (d9 : List Int) v4 ∧ e 5 = .bool (k9) ∧ e 9 = .int .i64 (x8) ∧ e 10 = .int .i64 (o0)) (fun Q' hQ => ?_) (fun jE sE hR => ?_)
   ·replace h := hx
    clear hx
    refine E_block ?_
    refine E_seq (E_region (EL_mv d7 rfl ?_))
    refine EL_at (.int .i64 (o0)) rfl rfl ?_
    refine EL_nil (thn_n (E_seq (E_region (EL_mw (.int .i64 (o0)) rfl rfl ?_))))
    obtain ⟨i6, sD, h⟩ := bsome h
    refine EL_do .plain rfl (D_call (g := oB) (vs := [.int .i64 (o0)]) en59 (.cons rfl .nil) (wk59  sD) fun rA kE m8 hs hr => ?_)
    have hfr := hfr.ext hs
    have u3 := u3.ext hs
    have j6 := hr
    refine EL_at m8 rfl rfl ?_
    refine EL_nil (thn_n (E_joinC h (fun (s : Unit) e w => ∃ (g : Gh) , Fr gI wI g w ∧ e 1 = (.func (.func ff1) fa1 fc1) ∧ e 7 = m8 ∧ RV g.m w (i6 : List Int) m8 ∧ e 9 = .int .i64 (x8) ∧ e 10 = .int .i64 (o0)) (fun X439 nB tD h => ?_) ?_))
    ·obtain ⟨n8, hx, h⟩ := bsome h
     refine E_join (fun e w => ∃ (g : Gh) , Fr gI wI g w ∧ e 1 = (.func (.func ff1) fa1 fc1) ∧ e 4 = i7 ∧ RV g.m w (l5 : List Int) i7 ∧ e 5 = .bool (x6) ∧ e 7 = m8 ∧ RV g.m w (i6 : List Int) m8 ∧ e 9 = .int .i64 (x8) ∧ e 10 = .int .i64 (o0) ∧ e 41 = .bool (n8)) (fun Q' hQ => ?_) (fun lE tE hR => ?_)
     ·replace h := hx
      clear hx
      refine E_region (EL_mv l8 rfl ?_)
      refine EL_mw (.bool (x6)) rfl rfl ?_
      rcases csome h with ⟨t5, h⟩ | ⟨t5, h⟩
      ·refine EL_y m8 (P_move rfl) rfl rfl t5 rfl ?_
       refine EL_y (.int .i64 ((i6).length : Int)) (P_len Try.underlying22 rfl j6) rfl rfl t5 rfl ?_
       refine EL_y i7 (P_move y6) rfl rfl t5 rfl ?_
       refine EL_y (.int .i64 ((l5).length : Int)) (P_len Try.underlying22 rfl u3) rfl rfl t5 rfl ?_
       refine EL_y (.bool ((decide (((i6).length : Int) > ((l5).length : Int))))) (P_int rfl rfl rfl) rfl rfl t5 rfl ?_
       refine EL_y (.bool ((decide (((i6).length : Int) > ((l5).length : Int))))) (P_move rfl) rfl rfl t5 rfl ?_
       rcases csome h with ⟨x5, h⟩ | ⟨x5, h⟩
       ·refine EL_s rfl rfl x5 rfl rfl ?_
        iterate 5 refine EL_s rfl rfl x5 rfl rfl ?_
        refine EL_dead 4 rfl ?_
        refine EL_s rfl rfl x5 rfl rfl ?_
        refine EL_y (.bool true) (P_pick (b := (decide (((i6).length : Int) > ((l5).length : Int)))) rfl (pick_t x5 rfl)) rfl rfl t5 rfl ?_
        refine EL_p (.bool true) (P_pick (b := x6) rfl (pick_t t5 rfl)) rfl ?_
        refine EL_dead 6 rfl ?_
        refine EL_nil ?_
        obtain rfl := sinj h
        exact hQ _ _ ⟨rA, hfr, m7, y6, u3, l8, rfl, j6, r8, d7, rfl⟩
       ·refine EL_y m8 (P_move rfl) rfl rfl x5 rfl ?_
        refine EL_y (.int .i64 ((i6).length : Int)) (P_len Try.underlying22 rfl j6) rfl rfl x5 rfl ?_
        refine EL_y i7 (P_move y6) rfl rfl x5 rfl ?_
        refine EL_y (.int .i64 ((l5).length : Int)) (P_len Try.underlying22 rfl u3) rfl rfl x5 rfl ?_
        refine EL_y (.bool ((((i6).length : Int) == ((l5).length : Int)))) (P_int rfl rfl rfl) rfl rfl x5 rfl ?_
        refine EL_y (.bool ((((i6).length : Int) == ((l5).length : Int)))) (P_move rfl) rfl rfl x5 rfl ?_
        rcases csome h with ⟨g8, h⟩ | ⟨g8, h⟩
        ·refine EL_y m8 (P_move rfl) rfl rfl g8 rfl ?_
         refine EL_y i7 (P_move y6) rfl rfl g8 rfl ?_
         obtain ⟨v8, uD, h⟩ := bsome h
         refine EL_do (.yes2 rfl rfl g8) rfl (D_call (g := rA) (vs := [m8, i7]) en85 (.cons rfl (.cons rfl .nil)) (wk85 j6 u3 uD) fun tB mE uE hs hr => ?_)
         have hfr := hfr.ext hs
         have u3 := u3.ext hs
         have j6 := j6.ext hs
         subst hr
         refine EL_y (.bool ((decide (v8 > (0 : Int))))) (P_int rfl rfl rfl) rfl rfl g8 rfl ?_
         refine EL_y (.bool ((decide (v8 > (0 : Int))))) (P_pick (b := (((i6).length : Int) == ((l5).length : Int))) rfl (pick_t g8 rfl)) rfl rfl x5 rfl ?_
         refine EL_y (.bool ((decide (v8 > (0 : Int))))) (P_pick (b := (decide (((i6).length : Int) > ((l5).length : Int)))) rfl (pick_f x5 rfl)) rfl rfl t5 rfl ?_
         refine EL_p (.bool ((decide (v8 > (0 : Int))))) (P_pick (b := x6) rfl (pick_t t5 rfl)) rfl ?_
         refine EL_mw (.bool ((decide (v8 > (0 : Int))))) rfl rfl ?_
         rcases csome h with ⟨k8, h⟩ | ⟨k8, h⟩
         ·refine EL_s rfl rfl k8 rfl rfl ?_
          iterate 3 refine EL_s rfl rfl k8 rfl rfl ?_
          refine EL_p (.bool true) (P_pick (b := (decide (v8 > (0 : Int)))) rfl (pick_t k8 rfl)) rfl ?_
          refine EL_nil ?_
          obtain rfl := sinj h
          exact hQ _ _ ⟨tB, hfr, m7, y6, u3, l8, rfl, j6, r8, d7, rfl⟩
         ·refine EL_y ((.func (.func ff1) fa1 fc1)) (P_move m7) rfl rfl k8 rfl ?_
          refine EL_y (.int .i64 (o0)) (P_move rfl) rfl rfl k8 rfl ?_
          obtain ⟨y9, vD, h⟩ := bsome h
          refine EL_do (.yes2 rfl rfl k8) rfl (D_callv (g := tB) (vs := [.int .i64 (o0)]) rfl fen1 (.cons rfl .nil) (fcl1 _ _ hfr.ch _ _ _  (RV_int.2 rfl) vD) fun zD vE xE hs hr => ?_)
          have hfr := hfr.ext hs
          have u3 := u3.ext hs
          have j6 := j6.ext hs
          obtain rfl := RV_bool.1 hr
          refine EL_y (.bool (!y9)) (P_not rfl) rfl rfl k8 rfl ?_
          refine EL_p (.bool (!y9)) (P_pick (b := (decide (v8 > (0 : Int)))) rfl (pick_f k8 rfl)) rfl ?_
          refine EL_nil ?_
          obtain rfl := sinj h
          exact hQ _ _ ⟨zD, hfr, m7, y6, u3, l8, rfl, j6, r8, d7, rfl⟩
        ·refine EL_s rfl rfl g8 rfl rfl ?_
         iterate 3 refine EL_s rfl rfl g8 rfl rfl ?_
         refine EL_y (.bool false) (P_pick (b := (((i6).length : Int) == ((l5).length : Int))) rfl (pick_f g8 rfl)) rfl rfl x5 rfl ?_
         refine EL_y (.bool false) (P_pick (b := (decide (((i6).length : Int) > ((l5).length : Int)))) rfl (pick_f x5 rfl)) rfl rfl t5 rfl ?_
         refine EL_p (.bool false) (P_pick (b := x6) rfl (pick_t t5 rfl)) rfl ?_
         refine EL_mw (.bool false) rfl rfl ?_
         refine EL_y ((.func (.func ff1) fa1 fc1)) (P_move m7) rfl rfl rfl rfl ?_
         refine EL_y (.int .i64 (o0)) (P_move rfl) rfl rfl rfl rfl ?_
         obtain ⟨z9, xD, h⟩ := bsome h
         refine EL_do (.yes2 rfl rfl rfl) rfl (D_callv (g := rA) (vs := [.int .i64 (o0)]) rfl fen1 (.cons rfl .nil) (fcl1 _ _ hfr.ch _ _ _  (RV_int.2 rfl) xD) fun aE yE zE hs hr => ?_)
         have hfr := hfr.ext hs
         have u3 := u3.ext hs
         have j6 := j6.ext hs
         obtain rfl := RV_bool.1 hr
         refine EL_y (.bool (!z9)) (P_not rfl) rfl rfl rfl rfl ?_
         refine EL_p (.bool (!z9)) (P_pick (b := false) rfl (pick_f rfl rfl)) rfl ?_
         refine EL_nil ?_
         obtain rfl := sinj h
         exact hQ _ _ ⟨aE, hfr, m7, y6, u3, l8, rfl, j6, r8, d7, rfl⟩
      ·refine EL_s rfl rfl t5 rfl rfl ?_
       iterate 5 refine EL_s rfl rfl t5 rfl rfl ?_
       refine EL_dead 11 rfl ?_
       refine EL_s rfl rfl t5 rfl rfl ?_
       refine EL_p (.bool false) (P_pick (b := x6) rfl (pick_f t5 rfl)) rfl ?_
       refine EL_mw (.bool false) rfl rfl ?_
       refine EL_y ((.func (.func ff1) fa1 fc1)) (P_move m7) rfl rfl rfl rfl ?_
       refine EL_y (.int .i64 (o0)) (P_move rfl) rfl rfl rfl rfl ?_
       obtain ⟨bA, yD, h⟩ := bsome h
       refine EL_do (.yes2 rfl rfl rfl) rfl (D_callv (g := rA) (vs := [.int .i64 (o0)]) rfl fen1 (.cons rfl .nil) (fcl1 _ _ hfr.ch _ _ _  (RV_int.2 rfl) yD) fun bE cF dF hs hr => ?_)
       have hfr := hfr.ext hs
       have u3 := u3.ext hs
       have j6 := j6.ext hs
       obtain rfl := RV_bool.1 hr
       refine EL_y (.bool (!bA)) (P_not rfl) rfl rfl rfl rfl ?_
       refine EL_p (.bool (!bA)) (P_pick (b := false) rfl (pick_f rfl rfl)) rfl ?_
       refine EL_nil ?_
       obtain rfl := sinj h
       exact hQ _ _ ⟨bE, hfr, m7, y6, u3, l8, rfl, j6, r8, d7, rfl⟩
     ·clear hx
      obtain ⟨vB, hfr, aB, yB, zB, cC, eC, mC, dB, n9, u9⟩ := hR
      rcases csome h with ⟨yA, h⟩ | ⟨yA, h⟩
      ·refine E_cond_true (Eq.trans (show ev _ _ = .bool (n8) from u9) (congrArg Value.bool yA)) ?_
       refine E_exit ?_
       refine thn_e ?_
       refine blk_hit ?_
       obtain ⟨rfl, rfl⟩ := pairs2 h
       exact hQ _ _ ⟨vB, (i7), hfr, aB, yB, zB, cC, dB, n9⟩
      ·refine E_cond_false (Eq.trans (show ev _ _ = .bool (n8) from u9) (congrArg Value.bool yA)) ?_
       exact E_skip (thn_n (tD () _ _ ⟨vB, hfr, aB, eC, mC, dB, n9⟩ h))
    ·rintro _ nE eF ⟨cE, hfr, qC, rC, uC, vC, jB⟩ h
     refine E_region (EL_mv rC rfl ?_)
     refine EL_at m8 rfl rfl ?_
     refine EL_at (.bool true) rfl rfl ?_
     refine EL_nil (blk_n ?_)
     obtain ⟨rfl, rfl⟩ := pairs2 h
     exact hQ _ _ ⟨cE, (m8), hfr, qC, rfl, uC, rfl, vC, jB⟩
   ·clear hx
    obtain ⟨dE, aD, hfr, bD, cD, eD, gD, iD, lB⟩ := hR
    refine E_region (EL_in (.int .i64 ((w64 (o0 + (1 : Int))))) lB rfl rfl rfl ?_)
    refine EL_mw (.int .i64 ((w64 (o0 + (1 : Int))))) rfl rfl ?_
    exact EL_nil (thn_n (oD (d9, k9, (w64 (o0 + (1 : Int)))) _ _ ⟨dE, (aD), hfr, bD, cD, eD, gD, iD, rfl⟩ h))
  ·refine E_cf iA rfl ?_
   refine E_exit ?_
   refine thn_e ?_
   refine thn_e ?_
   refine blk_hit ?_
   obtain ⟨rfl, rfl⟩ := pairs2 h
   exact hQ _ _ ⟨oB, (i7), hfr, y6, u3, l8⟩
 ·clear hx
  obtain ⟨iF, iB, hfr, jD, lD, mD⟩ := hR
  refine E_seq (E_region (EL_mv jD rfl ?_))
  refine EL_mv mD rfl ?_
  refine EL_at iB rfl rfl ?_
  refine EL_at (.bool (a9)) rfl rfl ?_
  refine EL_nil (thn_n (E_ret ?_))
  obtain rfl := sinj h
  exact end2 rfl rfl (show _ = iB from rfl) (show _ = .bool (a9) from rfl) ⟨_, hfr, _, _, rfl, lD, rfl⟩
def f58 (x0 : Int) (z0 : LoomLoomMill) : Option (Bool) :=
 (f59 x0).bind fun y3 =>
 (f51 z0 y3 ([])).bind fun y5 =>
 (f53 z0).bind fun y8 =>
 (idx y5 y8).bind fun y9 =>
 some (y9)
theorem en58 : Enters Try.prog 58 := enters_of Try.func58 (by kernel_rfl) rfl
theorem wk58 {gI : Gh} {wI : World} {x0 : Int} {z0 : LoomLoomMill} {pf0 : Value} (qf0 : PT gI.m wI z0 pf0) {r : Bool} (h : f58 x0 z0 = some r) : Fn Try.prog 58 #[.int .i64 (x0), pf0] gI wI (fun _ _ v => v = .bool (r)) := by
 unfold f58 at h
 refine fn_of_E Try.func58 rfl (Nat.le_of_ble_eq_true rfl) fun g0 hm hfr => ?_
 have qf0 : PT g0.m wI z0 pf0 := hm ▸ qf0
 show E _ 12 none _ _ _ _ _
 refine E_seq (E_region (EL_at (.bool false) rfl rfl ?_))
 refine EL_nil (thn_n (E_seq (L_load (x := .tmp 1) Try.isAgg96 Try.sizeOf96 qf0 fun v1 r1 hl1 => ?_)))
 obtain ⟨y3, hy3, h⟩ := bsome h
 obtain ⟨y5, hy5, h⟩ := bsome h
 refine L_load (x := .tmp 1) Try.isAgg96 Try.sizeOf96 qf0 fun v6 r6 u3 => ?_
 obtain ⟨y8, l5, h⟩ := bsome h
 obtain ⟨y9, o0, h⟩ := bsome h
 refine E_drawL (g := g0) (n := 9) [(2, (fun v g w => RV g.m w y3 v)), (3, (fun v g w => RV g.m w y5 v)), (5, (fun v g w => v = .int .i64 (y8))), (7, (fun v _ _ => v = .bool (y9)))] [0, 1, 2, 3, 4, 5, 6, 7, 8] rfl mixed (by kernel_rfl) (⟨fun _ => up_rv, fun _ => up_rv, fun _ => up_eq _, fun _ => up_eq _, trivial⟩) ?_
 refine L_ld (c := v1) rfl rfl .plain (fun _ _ h => h.ch) hl1 rfl ?_
 refine L_p (.int .i64 (x0)) rfl rfl (P_move rfl) ?_
 refine L_do (φ := fun v g w => RV g.m w y3 v) rfl rfl .plain (fun g w hd => D_call (g := g) (vs := [.int .i64 (x0)]) en59 (.cons rfl .nil) (wk59  hy3) fun g' w' v hs hr => ⟨g', hs, hr⟩) (fun v2 hv => ?_)
 obtain ⟨_, _, _, rq2⟩ := hv
 refine L_do (φ := fun v g w => RV g.m w y5 v) rfl rfl .plain (fun g w hd => D_call (g := g) (vs := [v1, v2, .map none]) en51 (.cons rfl (.cons rfl (.cons rfl .nil))) (wk51 (r1.ext hd.1) (word (A := fun g w => RV g.m w y3 v2) 2 rfl rfl (deps_of hd)) MR.nil hy5) fun g' w' v hs hr => ⟨g', hs, hr⟩) (fun v4 hv => ?_)
 obtain ⟨_, _, _, rq4⟩ := hv
 refine L_ld (c := v6) rfl rfl .plain (fun _ _ h => h.ch) u3 rfl ?_
 refine L_do (φ := fun v g w => v = .int .i64 (y8)) rfl rfl .plain (fun g w hd => D_call (g := g) (vs := [v6]) en53 (.cons rfl .nil) (wk53 (r6.ext hd.1) l5) fun g' w' v hs hr => ⟨g', hs, hr⟩) (fun v7 hv => ?_)
 obtain ⟨_, _, _, rfl⟩ := hv
 refine L_pur (c := ePtr v4 y8 1) rfl rfl .plain (fun _ _ hd => P_indexAddr (α := Bool) Try.underlying101 Try.sizeOf4 rfl (word (A := fun g w => RV g.m w y5 v4) 3 rfl rfl (deps_of hd)) rfl o0) ?_
 refine L_do (φ := (fun v _ _ => v = .bool (y9))) rfl rfl .plain (fun g w hd => D_load (g := g) Try.isAgg4 Try.sizeOf4 rfl (PT_idx (word (A := fun g w => RV g.m w y5 v4) 3 rfl rfl (hop 6 rfl rfl (deps_of hd))) o0) fun v r => ⟨g, Ext.refl g w, RV_bool.1 r⟩) (fun t5 hv => ?_)
 obtain ⟨_, _, _, rfl⟩ := hv
 refine L_p (.bool (y9)) rfl rfl (P_assign rfl) ?_
 refine L_nil fun x5 i6 hall => ?_
 have hs := hall.1
 have hfr := hfr.ext hs
 have j6 := (word_all (A := fun g w => RV g.m w y3 v2) 2 rfl hall)
 have x6 := (word_all (A := fun g w => RV g.m w y5 v4) 3 rfl hall)
 have y6 := (PT_idx (word_all (A := fun g w => RV g.m w y5 v4) 3 rfl hall) o0)
 clear hs hall
 refine EL_nil (thn_n (E_ret ?_))
 obtain rfl := sinj h
 exact end1 rfl rfl (show _ = .bool (y9) from rfl) ⟨_, hfr, rfl⟩
def f68 (x0 : List LoomRun) (x1 : Int) : Option ((List Int)) :=
 Option.bind (α := (List Int)) (
  lp (σ := (List Int) × Int) (fun mB (i6, o0) =>
   bif (decide (o0 < ((x0).length : Int))) then
    Option.bind (α := (List Int)) (
     (idx x0 o0).bind fun x8 =>
     bif ((x8).Loom == x1) then
      (apnd 8 i6 (([o0] : List Int))).bind fun y55 =>
      some (y55)
     else
      some (i6)
     ) fun j6 =>
    mB (j6, (w64 (o0 + (1 : Int))))
   else
    some (i6)
   ) big (([] : List Int), (0 : Int))
  ) fun x6 =>
 (f87 x6 ((fun a0 a1 => f88 a0 a1 x0))).bind fun nB =>
 some (nB)
theorem en68 : Enters Try.prog 68 := enters_of Try.func68 (by kernel_rfl) rfl
theorem wk68 {gI : Gh} {wI : World} {x0 : List LoomRun} {x1 : Int} {up0 : Value} (rp0 : RV gI.m wI x0 up0) {r : (List Int)} (h : f68 x0 x1 = some r) : Fn Try.prog 68 #[up0, .int .i64 (x1)] gI wI (fun m w v => RV m w (r) v) := by
 unfold f68 at h
 refine fn_of_E Try.func68 rfl (Nat.le_of_ble_eq_true rfl) fun g0 hm hfr => ?_
 have rp0 : RV g0.m wI x0 up0 := hm ▸ rp0
 show E _ 27 none _ _ _ _ _
 refine E_seq (E_region (EL_do .plain rfl (D_box (g := g0) rfl rp0 fun g1 w1 p1 hs q1 => ?_)))
 have hfr := hfr.ext hs
 refine EL_at (.slice none 0 0) rfl rfl ?_
 have b2 : OA 4004 g1 w1 3 ([] : List Int) (.slice none 0 0) := OA.nil
 refine EL_nil (thn_n ?_)
 obtain ⟨x6, hx, h⟩ := bsome h
 refine E_join (fun e w => ∃ (g : Gh) (v4 : Value), Fr gI wI g w ∧ e 2 = p1 ∧ PT g.m w (x0 : List LoomRun) p1 ∧ e 4 = v4 ∧ OA 4004 g w 3 (x6 : List Int) v4) (fun Q' hQ => ?_) (fun eD lD hR => ?_)
 ·replace h := hx
  clear hx
  refine E_seq (E_region (EL_do .plain rfl (D_load (g := g1) Try.isAgg31 Try.sizeOf31 rfl q1 fun l8 oB => ?_)))
  refine EL_p (.int .i64 ((x0).length : Int)) (P_len Try.underlying31 rfl oB) rfl ?_
  refine EL_mw (.int .i64 (0)) rfl rfl ?_
  refine EL_nil (thn_n (E_block ?_))
  refine E_lp h (fun (s : (List Int) × Int) e w => ∃ (g : Gh) (v4 : Value), Fr gI wI g w ∧ e 1 = .int .i64 (x1) ∧ e 2 = p1 ∧ PT g.m w (x0 : List LoomRun) p1 ∧ e 4 = v4 ∧ OA 4004 g w 3 (s.1 : List Int) v4 ∧ e 7 = l8 ∧ RV g.m w (x0 : List LoomRun) l8 ∧ e 8 = .int .i64 (((x0).length : Int)) ∧ e 9 = .int .i64 (s.2)) ⟨g1, (.slice none 0 0), hfr, rfl, rfl, q1, rfl, b2, rfl, oB, rfl, rfl⟩ (fun X31 mB vB => ?_)
  rintro ⟨i6, o0⟩ gD mD ⟨a9, r8, hfr, y6, d7, l5, i7, t5, m7, u3, g8, x5⟩ h
  refine E_seq (E_region (EL_in (.bool ((decide (o0 < ((x0).length : Int))))) x5 g8 rfl rfl ?_))
  refine EL_nil (thn_n (E_seq ?_))
  rcases csome h with ⟨m8, h⟩ | ⟨m8, h⟩
  ·refine E_ct m8 rfl ?_
   refine E_skip (thn_n ?_)
   obtain ⟨j6, hx, h⟩ := bsome h
   refine E_join (fun e w => ∃ (g : Gh) (v4 : Value), Fr gI wI g w ∧ e 1 = .int .i64 (x1) ∧ e 2 = p1 ∧ PT g.m w (x0 : List LoomRun) p1 ∧ e 4 = v4 ∧ OA 4004 g w 3 (j6 : List Int) v4 ∧ e 7 = l8 ∧ RV g.m w (x0 : List LoomRun) l8 ∧ e 8 = .int .i64 (((x0).length : Int)) ∧ e 9 = .int .i64 (o0)) (fun Q' hQ => ?_) (fun iD nD hR => ?_)
   ·replace h := hx
    clear hx
    refine E_block ?_
    refine E_seq (E_region (EL_mv x5 rfl ?_))
    obtain ⟨x8, d9, h⟩ := bsome h
    refine EL_p (ePtr l8 o0 3) (P_indexAddr (α := LoomRun) Try.underlying31 Try.sizeOf76 m7 u3 x5 d9) rfl ?_
    have cC := PT_idx u3 d9
    refine EL_do .plain rfl (D_load (g := a9) Try.isAgg76 Try.sizeOf76 rfl cC fun eC k9 => ?_)
    refine EL_do .plain rfl (D_allocOc (g := a9) 2006 (⟨0, 0, 0⟩ : LoomRun) Try.zeroValue76 (fun m w => ⟨_, (rep_two rep_int (rep_two rep_int rep_int)), rfl⟩) fun mC oD qC hs b48 cb => ?_)
    have hfr := hfr.stp hs
    have l5 := l5.stp hs
    have t5 := t5.stp hs rfl
    have u3 := u3.stp hs
    have k9 := k9.stp hs
    clear cb
    refine EL_at (.int .i64 (o0)) rfl rfl ?_
    refine EL_do .plain rfl (D_storeOc (g := mC) (v := eC) Try.sizeOf76 rfl b48 rfl k9 fun l9 sD hs b49 cb => ?_)
    clear cb
    have hfr := hfr.stp hs
    have l5 := l5.stp hs
    have t5 := t5.stp hs rfl
    have u3 := u3.stp hs
    refine EL_nil (thn_n (E_seq (E_region (EL_p (fPtr qC 1) (P_fieldAddr at_76_1 rfl (OB.ptr b49)) rfl ?_))))
    refine EL_do .plain rfl (D_loadF (g := l9) part_LoomRun_1.1 Try.isAgg3 Try.sizeOf3 rfl b49 fun tD rC => ?_)
    obtain rfl := RV_int.1 rC
    refine EL_mv y6 rfl ?_
    refine EL_in (.bool (((x8).Loom == x1))) rfl rfl rfl rfl ?_
    refine EL_nil (thn_n ?_)
    rcases csome h with ⟨n8, h⟩ | ⟨n8, h⟩
    ·refine E_ct n8 rfl ?_
     refine E_region (EL_mv i7 rfl ?_)
     refine EL_mw (.int .i64 (o0)) rfl rfl ?_
     refine EL_do .plain rfl (D_buildSlice (g := l9) 3020 (xs := ([o0] : List Int)) (vs := [.int .i64 (o0)]) Try.underlying22 Try.sizeOf3 Try.zeroValue3 rfl rfl (.cons rfl .nil) (RVs.cons (RV_int.2 rfl) RVs.nil) rfl rfl fun uC uD vD hs o53 vC hxt hfl => ?_)
     have hfr := hfr.stp hs
     have l5 := l5.stp hs
     have t5 := t5.stp hs rfl
     have u3 := u3.stp hs
     obtain ⟨y55, yB, h⟩ := bsome h
     refine EL_do .plain rfl (D_appendA (g := uC) plain_int (i := 4004) Try.underlying22 info_3 rfl rfl t5 rfl vC yB fun aD xD tB hs b54 => ?_)
     have hfr := hfr.stp hs
     have l5 := l5.stp hs
     have u3 := u3.stp hs
     refine EL_at tB rfl rfl ?_
     refine EL_nil (blk_n ?_)
     obtain rfl := sinj h
     exact hQ _ _ ⟨aD, (tB), hfr, y6, d7, l5, rfl, b54, m7, u3, g8, x5⟩
    ·refine E_cf n8 rfl ?_
     refine E_skip (blk_n ?_)
     obtain rfl := sinj h
     exact hQ _ _ ⟨l9, (r8), hfr, y6, d7, l5, i7, t5, m7, u3, g8, x5⟩
   ·clear hx
    obtain ⟨bD, n9, hfr, u9, y9, z9, bA, iA, rA, yA, aB, dB⟩ := hR
    refine E_region (EL_in (.int .i64 ((w64 (o0 + (1 : Int))))) dB rfl rfl rfl ?_)
    refine EL_mw (.int .i64 ((w64 (o0 + (1 : Int))))) rfl rfl ?_
    exact EL_nil (thn_n (vB (j6, (w64 (o0 + (1 : Int)))) _ _ ⟨bD, (n9), hfr, u9, y9, z9, bA, iA, rA, yA, aB, rfl⟩ h))
  ·refine E_cf m8 rfl ?_
   refine E_exit ?_
   refine thn_e ?_
   refine thn_e ?_
   refine blk_hit ?_
   obtain rfl := sinj h
   exact hQ _ _ ⟨a9, (r8), hfr, d7, l5, i7, t5⟩
 ·clear hx
  obtain ⟨cD, k8, hfr, iB, jB, v8, lB⟩ := hR
  refine E_seq (E_region (EL_mv v8 rfl ?_))
  refine EL_p ((.func (.func 88) #[] #[p1])) (P_makeFunc (capf_0_1 (show ev _ _ = p1 from iB))) rfl ?_
  obtain ⟨nB, zB, h⟩ := bsome h
  refine EL_do .plain rfl (D_callM (g := cD) (i := 4004) (vs := [k8, (.func (.func 88) #[] #[p1])]) en87 (.cons rfl (.cons rfl .nil)) (wk87 (lB.toM) ⟨88, #[], #[p1], rfl, en88, fun g' w' hch a0 a1 b0 b1 r hu0 hu1 hr => by obtain rfl := RV_int.1 hu0; obtain rfl := RV_int.1 hu1; exact Fn.mono (wk88  (jB.ch hch) hr) fun _ _ _ h => RV_int.2 h⟩ zB) fun yD jD zD hs hr => ?_)
  obtain ⟨hrv, b58⟩ := hr
  have hfr := hfr.stp hs
  subst hrv
  refine EL_nil (thn_n (E_seq (E_region (EL_mv v8 rfl ?_))))
  refine EL_at k8 rfl rfl ?_
  refine EL_nil (thn_n (E_ret ?_))
  obtain ⟨gp60, hs, rp60⟩ := OM.pub b58
  have hfr := hfr.stp hs
  obtain rfl := sinj h
  exact end1 rfl rfl (show _ = k8 from rfl) ⟨_, hfr, rp60⟩
def f71 (x0 : List Int) : Option (Bool) :=
 (f81 ((0 : Int)) ((300 : Int)) x0).bind fun y2 =>
 some (y2)
theorem en71 : Enters Try.prog 71 := enters_of Try.func71 (by kernel_rfl) rfl
theorem wk71 {gI : Gh} {wI : World} {x0 : List Int} {up0 : Value} (rp0 : RV gI.m wI x0 up0) {r : Bool} (h : f71 x0 = some r) : Fn Try.prog 71 #[up0] gI wI (fun _ _ v => v = .bool (r)) := by
 unfold f71 at h
 refine fn_of_E Try.func71 rfl (Nat.le_of_ble_eq_true rfl) fun g0 hm hfr => ?_
 have rp0 : RV g0.m wI x0 up0 := hm ▸ rp0
 show E _ 5 none _ _ _ _ _
 refine E_seq (E_region (EL_at (.bool false) rfl rfl ?_))
 refine EL_nil (thn_n (E_seq (E_region (EL_mw up0 rfl rfl ?_))))
 obtain ⟨y2, hy2, h⟩ := bsome h
 refine EL_do .plain rfl (D_call (g := g0) (vs := [.int .i64 (0), .int .i64 (300), up0]) en81 (.cons rfl (.cons rfl (.cons rfl .nil))) (wk81 rp0 hy2) fun g1 w1_ v1 hs hr => ?_)
 have hfr := hfr.ext hs
 subst hr
 refine EL_at (.bool (y2)) rfl rfl ?_
 refine EL_nil (thn_n (E_ret ?_))
 obtain rfl := sinj h
 exact end1 rfl rfl (show _ = .bool (y2) from rfl) ⟨_, hfr, rfl⟩
def f80 (x0 : LoomOrder) : Option (Bool) :=
 Option.bind (α := Bool) (
  (f81 ((1 : Int)) ((100 : Int)) (([(x0).Width] : List Int))).bind fun i6 =>
  bif i6 then
   (f81 ((0 : Int)) ((100 : Int)) (([(x0).Chain] : List Int))).bind fun x5 =>
   bif x5 then
    (f81 ((1 : Int)) ((100 : Int)) (([(x0).Woven] : List Int))).bind fun y43 =>
    bif y43 then
     (f71 (([(x0).Early, (x0).Late] : List Int))).bind fun j6 =>
     some (j6)
    else
     some (false)
   else
    some (false)
  else
   some (false)
  ) fun t5 =>
 some (t5)
theorem en80 : Enters Try.prog 80 := enters_of Try.func80 (by kernel_rfl) rfl
theorem wk80 {gI : Gh} {wI : World} {x0 : LoomOrder} {up0 : Value} (rp0 : RV gI.m wI x0 up0) {r : Bool} (h : f80 x0 = some r) : Fn Try.prog 80 #[up0] gI wI (fun _ _ v => v = .bool (r)) := by
 unfold f80 at h
 refine fn_of_E Try.func80 rfl (Nat.le_of_ble_eq_true rfl) fun g0 hm hfr => ?_
 have rp0 : RV g0.m wI x0 up0 := hm ▸ rp0
 show E _ 27 none _ _ _ _ _
 refine E_seq (E_region (EL_do .plain rfl (D_box (g := g0) rfl rp0 fun g1 w1 p1 hs q1 => ?_)))
 have hfr := hfr.ext hs
 refine EL_at (.bool false) rfl rfl ?_
 refine EL_nil (thn_n ?_)
 obtain ⟨t5, hx, h⟩ := bsome h
 refine E_join (fun e w => ∃ (g : Gh) , Fr gI wI g w ∧ e 2 = .bool (t5)) (fun Q' hQ => ?_) (fun nB zB hR => ?_)
 ·replace h := hx
  clear hx
  refine E_region (EL_p (fPtr p1 0) (P_fieldAddr at_82_0 rfl (PT.ptr q1)) rfl ?_)
  have m8 := PT_field (part_LoomOrder_0).1 q1
  refine EL_do .plain rfl (D_load (g := g1) Try.isAgg3 Try.sizeOf3 rfl m8 fun cC n8 => ?_)
  obtain rfl := RV_int.1 n8
  refine EL_do .plain rfl (D_buildSlice (g := g1) 3005 (xs := ([(x0).Width] : List Int)) (vs := [.int .i64 ((x0).Width)]) Try.underlying22 Try.sizeOf3 Try.zeroValue3 rfl rfl (.cons rfl .nil) (RVs.cons (RV_int.2 rfl) RVs.nil) rfl rfl fun r8 eC v8 hs o29 x8 hxt hfl => ?_)
  have hfr := hfr.stp hs
  have q1 := q1.stp hs
  obtain ⟨i6, m7, h⟩ := bsome h
  refine EL_do .plain rfl (D_call (g := r8) (vs := [.int .i64 (1), .int .i64 (100), v8]) en81 (.cons rfl (.cons rfl (.cons rfl .nil))) (wk81 x8 m7) fun y6 oB mC hs hr => ?_)
  have hfr := hfr.ext hs
  have q1 := q1.ext hs
  subst hr
  refine EL_mw (.bool (i6)) rfl rfl ?_
  rcases csome h with ⟨u3, h⟩ | ⟨u3, h⟩
  ·refine EL_y (fPtr p1 1) (P_fieldAddr at_82_1 rfl (PT.ptr q1)) rfl rfl u3 rfl ?_
   have a9 := PT_field (part_LoomOrder_1).1 q1
   refine EL_do (.yes2 rfl rfl u3) rfl (D_load (g := y6) Try.isAgg3 Try.sizeOf3 rfl a9 fun qC d9 => ?_)
   obtain rfl := RV_int.1 d9
   refine EL_do (.yes2 rfl rfl u3) rfl (D_buildSlice (g := y6) 3010 (xs := ([(x0).Chain] : List Int)) (vs := [.int .i64 ((x0).Chain)]) Try.underlying22 Try.sizeOf3 Try.zeroValue3 rfl rfl (.cons rfl .nil) (RVs.cons (RV_int.2 rfl) RVs.nil) rfl rfl fun k9 rC l9 hs o35 n9 hxt hfl => ?_)
   have hfr := hfr.stp hs
   have q1 := q1.stp hs
   obtain ⟨x5, g8, h⟩ := bsome h
   refine EL_do (.yes2 rfl rfl u3) rfl (D_call (g := k9) (vs := [.int .i64 (0), .int .i64 (100), l9]) en81 (.cons rfl (.cons rfl (.cons rfl .nil))) (wk81 n9 g8) fun d7 tB uC hs hr => ?_)
   have hfr := hfr.ext hs
   have q1 := q1.ext hs
   subst hr
   refine EL_p (.bool (x5)) (P_pick (b := i6) rfl (pick_t u3 rfl)) rfl ?_
   refine EL_mw (.bool (x5)) rfl rfl ?_
   rcases csome h with ⟨l5, h⟩ | ⟨l5, h⟩
   ·refine EL_y (fPtr p1 2) (P_fieldAddr at_82_2 rfl (PT.ptr q1)) rfl rfl l5 rfl ?_
    have u9 := PT_field (part_LoomOrder_2).1 q1
    refine EL_do (.yes2 rfl rfl l5) rfl (D_load (g := d7) Try.isAgg3 Try.sizeOf3 rfl u9 fun vC y9 => ?_)
    obtain rfl := RV_int.1 y9
    refine EL_do (.yes2 rfl rfl l5) rfl (D_buildSlice (g := d7) 3016 (xs := ([(x0).Woven] : List Int)) (vs := [.int .i64 ((x0).Woven)]) Try.underlying22 Try.sizeOf3 Try.zeroValue3 rfl rfl (.cons rfl .nil) (RVs.cons (RV_int.2 rfl) RVs.nil) rfl rfl fun z9 aD bA hs o41 iA hxt hfl => ?_)
    have hfr := hfr.stp hs
    have q1 := q1.stp hs
    obtain ⟨y43, k8, h⟩ := bsome h
    refine EL_do (.yes2 rfl rfl l5) rfl (D_call (g := z9) (vs := [.int .i64 (1), .int .i64 (100), bA]) en81 (.cons rfl (.cons rfl (.cons rfl .nil))) (wk81 iA k8) fun x6 vB bD hs hr => ?_)
    have hfr := hfr.ext hs
    have q1 := q1.ext hs
    subst hr
    refine EL_p (.bool (y43)) (P_pick (b := x5) rfl (pick_t l5 rfl)) rfl ?_
    refine EL_mw (.bool (y43)) rfl rfl ?_
    rcases csome h with ⟨o0, h⟩ | ⟨o0, h⟩
    ·refine EL_y (fPtr p1 3) (P_fieldAddr at_82_3 rfl (PT.ptr q1)) rfl rfl o0 rfl ?_
     have rA := PT_field (part_LoomOrder_3).1 q1
     refine EL_do (.yes2 rfl rfl o0) rfl (D_load (g := x6) Try.isAgg3 Try.sizeOf3 rfl rA fun cD yA => ?_)
     obtain rfl := RV_int.1 yA
     refine EL_y (fPtr p1 4) (P_fieldAddr at_82_4 rfl (PT.ptr q1)) rfl rfl o0 rfl ?_
     have aB := PT_field (part_LoomOrder_4).1 q1
     refine EL_do (.yes2 rfl rfl o0) rfl (D_load (g := x6) Try.isAgg3 Try.sizeOf3 rfl aB fun eD dB => ?_)
     obtain rfl := RV_int.1 dB
     refine EL_do (.yes2 rfl rfl o0) rfl (D_buildSlice (g := x6) 3024 (xs := ([(x0).Early, (x0).Late] : List Int)) (vs := [.int .i64 ((x0).Early), .int .i64 ((x0).Late)]) Try.underlying22 Try.sizeOf3 Try.zeroValue3 rfl rfl (.cons rfl (.cons rfl .nil)) (RVs.cons (RV_int.2 rfl) (RVs.cons (RV_int.2 rfl) RVs.nil)) rfl rfl fun iB gD jB hs o49 lB hxt hfl => ?_)
     have hfr := hfr.stp hs
     obtain ⟨j6, l8, h⟩ := bsome h
     refine EL_do (.yes2 rfl rfl o0) rfl (D_call (g := iB) (vs := [jB]) en71 (.cons rfl .nil) (wk71 lB l8) fun mB yB iD hs hr => ?_)
     have hfr := hfr.ext hs
     subst hr
     refine EL_p (.bool (j6)) (P_pick (b := y43) rfl (pick_t o0 rfl)) rfl ?_
     refine EL_at (.bool (j6)) rfl rfl ?_
     refine EL_nil ?_
     obtain rfl := sinj h
     exact hQ _ _ ⟨mB, hfr, rfl⟩
    ·refine EL_s rfl rfl o0 rfl rfl ?_
     iterate 5 refine EL_s rfl rfl o0 rfl rfl ?_
     refine EL_p (.bool false) (P_pick (b := y43) rfl (pick_f o0 rfl)) rfl ?_
     refine EL_at (.bool false) rfl rfl ?_
     refine EL_nil ?_
     obtain rfl := sinj h
     exact hQ _ _ ⟨x6, hfr, rfl⟩
   ·refine EL_s rfl rfl l5 rfl rfl ?_
    iterate 3 refine EL_s rfl rfl l5 rfl rfl ?_
    refine EL_p (.bool false) (P_pick (b := x5) rfl (pick_f l5 rfl)) rfl ?_
    refine EL_dead 8 rfl ?_
    refine EL_at (.bool false) rfl rfl ?_
    refine EL_nil ?_
    obtain rfl := sinj h
    exact hQ _ _ ⟨d7, hfr, rfl⟩
  ·refine EL_s rfl rfl u3 rfl rfl ?_
   iterate 3 refine EL_s rfl rfl u3 rfl rfl ?_
   refine EL_p (.bool false) (P_pick (b := i6) rfl (pick_f u3 rfl)) rfl ?_
   refine EL_dead 14 rfl ?_
   refine EL_at (.bool false) rfl rfl ?_
   refine EL_nil ?_
   obtain rfl := sinj h
   exact hQ _ _ ⟨y6, hfr, rfl⟩
 ·clear hx
  obtain ⟨jD, hfr, i7⟩ := hR
  refine E_ret ?_
  obtain rfl := sinj h
  exact end1 rfl rfl (show _ = .bool (t5) from i7) ⟨_, hfr, rfl⟩
def f93 (x0 : LoomLoomMill) (x1 : List LoomRun) (x2 : Int) : Option (Int) :=
 (idx x1 x2).bind fun y2 =>
 jn (σ := Unit) (fun _ =>
  some ((0 : Int))
  ) fun zB =>
 Option.bind (α := Bool) (
  (f81 ((0 : Int)) ((w64 ((((x0).orders).length : Int) - (1 : Int)))) (([(y2).Order] : List Int))).bind fun k8 =>
  bif (!k8) then
   some ((!k8))
  else
   (f81 ((0 : Int)) ((w64 (((((x0).LoomMill).Widths).length : Int) - (1 : Int)))) (([(y2).Loom] : List Int))).bind fun l8 =>
   bif (!l8) then
    some ((!l8))
   else
    (f71 (([(y2).From] : List Int))).bind fun l9 =>
    some ((!l9))
  ) fun x5 =>
 bif x5 then
  some ((7 : Int))
 else
  Option.bind (α := Bool) (
   bif (decide (x2 > (0 : Int))) then
    (idx x1 (w64 (x2 - (1 : Int)))).bind fun i7 =>
    some ((decide ((y2).Order ≤ (i7).Order)))
   else
    some (false)
   ) fun i6 =>
  bif i6 then
   some ((4 : Int))
  else
   (idx ((x0).orders) (y2).Order).bind fun m8 =>
   (idx (((x0).LoomMill).Widths) (y2).Loom).bind fun n8 =>
   bif (decide ((m8).Width > n8)) then
    some ((2 : Int))
   else
    Option.bind (α := Bool) (
     (idx ((x0).orders) (y2).Order).bind fun m7 =>
     bif (decide ((y2).From < (m7).Early)) then
      some ((decide ((y2).From < (m7).Early)))
     else
      (f73 x0 y2).bind fun g8 =>
      (idx ((x0).orders) (y2).Order).bind fun r8 =>
      some ((decide (g8 > (r8).Late)))
     ) fun j6 =>
    bif j6 then
     some ((3 : Int))
    else
     zB ()
theorem en93 : Enters Try.prog 93 := enters_of Try.func93 (by kernel_rfl) rfl
theorem wk93 {gI : Gh} {wI : World} {x0 : LoomLoomMill} {x1 : List LoomRun} {x2 : Int} {up0 : Value} (rp0 : RV gI.m wI x0 up0) {up1 : Value} (rp1 : RV gI.m wI x1 up1) {r : Int} (h : f93 x0 x1 x2 = some r) : Fn Try.prog 93 #[up0, up1, .int .i64 (x2)] gI wI (fun _ _ v => v = .int .i64 (r)) := by
 unfold f93 at h
 refine fn_of_E Try.func93 rfl (Nat.le_of_ble_eq_true rfl) fun g0 hm hfr => ?_
 have rp0 : RV g0.m wI x0 up0 := hm ▸ rp0
 have rp1 : RV g0.m wI x1 up1 := hm ▸ rp1
 show E _ 89 none _ _ _ _ _
 refine E_seq (E_region (EL_do .plain rfl (D_box (g := g0) rfl rp0 fun g1 w1 p1 hs q1 => ?_)))
 have hfr := hfr.ext hs
 have rp1 := rp1.ext hs
 refine EL_at (.int .i64 (0)) rfl rfl ?_
 refine EL_nil (thn_n (E_seq (E_region (EL_mw up1 rfl rfl ?_))))
 refine EL_mw (.int .i64 (x2)) rfl rfl ?_
 obtain ⟨y2, hy2, h⟩ := bsome h
 refine EL_p (ePtr up1 x2 3) (P_indexAddr (α := LoomRun) Try.underlying31 Try.sizeOf76 rfl rp1 rfl hy2) rfl ?_
 have q3 := PT_idx rp1 hy2
 refine EL_do .plain rfl (D_load (g := g1) Try.isAgg76 Try.sizeOf76 rfl q3 fun v4 r4 => ?_)
 refine EL_do .plain rfl (D_allocOc (g := g1) 2007 (⟨0, 0, 0⟩ : LoomRun) Try.zeroValue76 (fun m w => ⟨_, (rep_two rep_int (rep_two rep_int rep_int)), rfl⟩) fun g5 w5 p5 hs b5 cb => ?_)
 have hfr := hfr.stp hs
 have rp1 := rp1.stp hs
 have q1 := q1.stp hs
 have r4 := r4.stp hs
 clear cb
 refine EL_do .plain rfl (D_storeOc (g := g5) (v := v4) Try.sizeOf76 rfl b5 rfl r4 fun g6 w6 hs b6 cb => ?_)
 clear cb
 have hfr := hfr.stp hs
 have rp1 := rp1.stp hs
 have q1 := q1.stp hs
 refine EL_nil (thn_n (E_joinC h (fun (s : Unit) e w => ∃ (g : Gh) , Fr gI wI g w) (fun X381 zB nD h => ?_) ?_))
 ·refine E_block ?_
  obtain ⟨x5, hx, h⟩ := bsome h
  refine E_join (fun e w => ∃ (g : Gh) , Fr gI wI g w ∧ e 1 = up1 ∧ RV g.m w (x1 : List LoomRun) up1 ∧ e 2 = .int .i64 (x2) ∧ e 3 = p1 ∧ PT g.m w (x0 : LoomLoomMill) p1 ∧ e 7 = p5 ∧ OB 2007 g w 76 (y2 : LoomRun) p5 ∧ e 12 = .bool (x5)) (fun Q' hQ => ?_) (fun dH nH hR => ?_)
  ·replace h := hx
   clear hx
   refine E_seq (E_region (EL_p (fPtr p1 2) (P_fieldAddr at_96_1 rfl (PT.ptr q1)) rfl ?_))
   have sE := PT_field (part_LoomLoomMill_1).1 q1
   refine EL_do .plain rfl (D_load (g := g6) Try.isAgg25 Try.sizeOf25 rfl sE fun oH tE => ?_)
   refine EL_p (.int .i64 (((x0).orders).length : Int)) (P_len Try.underlying25 rfl tE) rfl ?_
   refine EL_p (.int .i64 ((w64 ((((x0).orders).length : Int) - (1 : Int))))) (P_int rfl rfl rfl) rfl ?_
   refine EL_p (fPtr p5 0) (P_fieldAddr at_76_0 rfl (OB.ptr b6)) rfl ?_
   refine EL_do .plain rfl (D_loadF (g := g6) part_LoomRun_0.1 Try.isAgg3 Try.sizeOf3 rfl b6 fun pH uE => ?_)
   obtain rfl := RV_int.1 uE
   refine EL_do .plain rfl (D_buildSlice (g := g6) 3019 (xs := ([(y2).Order] : List Int)) (vs := [.int .i64 ((y2).Order)]) Try.underlying22 Try.sizeOf3 Try.zeroValue3 rfl rfl (.cons rfl .nil) (RVs.cons (RV_int.2 rfl) RVs.nil) rfl rfl fun vE qH xE hs o408 yE hxt hfl => ?_)
   have hfr := hfr.stp hs
   have rp1 := rp1.stp hs
   have q1 := q1.stp hs
   have b6 := b6.stp hs rfl
   obtain ⟨k8, oD, h⟩ := bsome h
   refine EL_do .plain rfl (D_call (g := vE) (vs := [.int .i64 (0), .int .i64 ((w64 ((((x0).orders).length : Int) - (1 : Int)))), xE]) en81 (.cons rfl (.cons rfl (.cons rfl .nil))) (wk81 yE oD) fun n9 gH sH hs hr => ?_)
   have hfr := hfr.ext hs
   have rp1 := rp1.ext hs
   have q1 := q1.ext hs
   have b6 := b6.ext hs
   subst hr
   refine EL_p (.bool (!k8)) (P_not rfl) rfl ?_
   refine EL_at (.bool (!k8)) rfl rfl ?_
   refine EL_nil (thn_n ?_)
   rcases csome h with ⟨u9, h⟩ | ⟨u9, h⟩
   ·refine E_ct u9 rfl ?_
    refine E_skip ?_
    obtain rfl := sinj h
    exact hQ _ _ ⟨n9, hfr, rfl, rp1, rfl, rfl, q1, rfl, b6, rfl⟩
   ·refine E_cf u9 rfl ?_
    refine E_seq (E_region (EL_p (fPtr p1 0) (P_fieldAddr at_96_0 rfl (PT.ptr q1)) rfl ?_))
    have cC := PT_field (part_LoomLoomMill_0).1 q1
    refine EL_p (fPtr (fPtr p1 0) 0) (P_fieldAddr at_24_0 rfl (PT.ptr cC)) rfl ?_
    have zE := PT_field (part_LoomMill_0).1 cC
    refine EL_do .plain rfl (D_load (g := n9) Try.isAgg22 Try.sizeOf22 rfl zE fun tH cF => ?_)
    refine EL_p (.int .i64 ((((x0).LoomMill).Widths).length : Int)) (P_len Try.underlying22 rfl cF) rfl ?_
    refine EL_p (.int .i64 ((w64 (((((x0).LoomMill).Widths).length : Int) - (1 : Int))))) (P_int rfl rfl rfl) rfl ?_
    refine EL_p (fPtr p5 1) (P_fieldAddr at_76_1 rfl (OB.ptr b6)) rfl ?_
    refine EL_do .plain rfl (D_loadF (g := n9) part_LoomRun_1.1 Try.isAgg3 Try.sizeOf3 rfl b6 fun uH dF => ?_)
    obtain rfl := RV_int.1 dF
    refine EL_do .plain rfl (D_buildSlice (g := n9) 3029 (xs := ([(y2).Loom] : List Int)) (vs := [.int .i64 ((y2).Loom)]) Try.underlying22 Try.sizeOf3 Try.zeroValue3 rfl rfl (.cons rfl .nil) (RVs.cons (RV_int.2 rfl) RVs.nil) rfl rfl fun eF xH iF hs o417 nF hxt hfl => ?_)
    have hfr := hfr.stp hs
    have rp1 := rp1.stp hs
    have q1 := q1.stp hs
    have b6 := b6.stp hs rfl
    obtain ⟨l8, sD, h⟩ := bsome h
    refine EL_do .plain rfl (D_call (g := eF) (vs := [.int .i64 (0), .int .i64 ((w64 (((((x0).LoomMill).Widths).length : Int) - (1 : Int)))), iF]) en81 (.cons rfl (.cons rfl (.cons rfl .nil))) (wk81 nF sD) fun iB iH yH hs hr => ?_)
    have hfr := hfr.ext hs
    have rp1 := rp1.ext hs
    have q1 := q1.ext hs
    have b6 := b6.ext hs
    subst hr
    refine EL_p (.bool (!l8)) (P_not rfl) rfl ?_
    refine EL_at (.bool (!l8)) rfl rfl ?_
    refine EL_nil (thn_n ?_)
    rcases csome h with ⟨y9, h⟩ | ⟨y9, h⟩
    ·refine E_ct y9 rfl ?_
     refine E_skip ?_
     obtain rfl := sinj h
     exact hQ _ _ ⟨iB, hfr, rfl, rp1, rfl, rfl, q1, rfl, b6, rfl⟩
    ·refine E_cf y9 rfl ?_
     refine E_region (EL_p (fPtr p5 2) (P_fieldAddr at_76_2 rfl (OB.ptr b6)) rfl ?_)
     refine EL_do .plain rfl (D_loadF (g := iB) part_LoomRun_2.1 Try.isAgg3 Try.sizeOf3 rfl b6 fun zH oF => ?_)
     obtain rfl := RV_int.1 oF
     refine EL_do .plain rfl (D_buildSlice (g := iB) 3034 (xs := ([(y2).From] : List Int)) (vs := [.int .i64 ((y2).From)]) Try.underlying22 Try.sizeOf3 Try.zeroValue3 rfl rfl (.cons rfl .nil) (RVs.cons (RV_int.2 rfl) RVs.nil) rfl rfl fun pF aI qF hs o423 rF hxt hfl => ?_)
     have hfr := hfr.stp hs
     have rp1 := rp1.stp hs
     have q1 := q1.stp hs
     have b6 := b6.stp hs rfl
     obtain ⟨l9, tD, h⟩ := bsome h
     refine EL_do .plain rfl (D_call (g := pF) (vs := [qF]) en71 (.cons rfl .nil) (wk71 rF tD) fun sF jH bI hs hr => ?_)
     have hfr := hfr.ext hs
     have rp1 := rp1.ext hs
     have q1 := q1.ext hs
     have b6 := b6.ext hs
     subst hr
     refine EL_p (.bool (!l9)) (P_not rfl) rfl ?_
     refine EL_at (.bool (!l9)) rfl rfl ?_
     refine EL_nil ?_
     obtain rfl := sinj h
     exact hQ _ _ ⟨sF, hfr, rfl, rp1, rfl, rfl, q1, rfl, b6, rfl⟩
  ·clear hx
   obtain ⟨eC, hfr, mC, aB, v8, dB, x6, x8, t5, a9⟩ := hR
   rcases csome h with ⟨z9, h⟩ | ⟨z9, h⟩
   ·refine E_cond_true (Eq.trans (show ev _ _ = .bool (x5) from a9) (congrArg Value.bool z9)) ?_
    refine E_seq (E_region (EL_at (.int .i64 (7)) rfl rfl ?_))
    refine EL_nil (thn_n (E_ret (blk_r ?_)))
    refine thn_r ?_
    obtain rfl := sinj h
    exact end1 rfl rfl (show _ = .int .i64 (7) from rfl) ⟨_, hfr, rfl⟩
   ·refine E_cond_false (Eq.trans (show ev _ _ = .bool (x5) from a9) (congrArg Value.bool z9)) ?_
    obtain ⟨i6, hx, h⟩ := bsome h
    refine E_join (fun e w => ∃ (g : Gh) , Fr gI wI g w ∧ e 3 = p1 ∧ PT g.m w (x0 : LoomLoomMill) p1 ∧ e 7 = p5 ∧ OB 2007 g w 76 (y2 : LoomRun) p5 ∧ e 37 = .bool (i6)) (fun Q' hQ => ?_) (fun kH dI hR => ?_)
    ·replace h := hx
     clear hx
     rcases csome h with ⟨l5, h⟩ | ⟨l5, h⟩
     ·refine L_loadO (x := .tmp 41) part_LoomRun_0.1 Try.isAgg3 Try.sizeOf3 t5 fun iI tF uD => ?_
      obtain rfl := RV_int.1 tF
      obtain ⟨i7, nB, h⟩ := bsome h
      have qC := PT_idx aB nB
      have uF := PT_field (part_LoomRun_0).1 qC
      refine L_load (x := .tmp 47) Try.isAgg3 Try.sizeOf3 uF fun jI vF vD => ?_
      obtain rfl := RV_int.1 vF
      refine E_drawL (g := eC) (n := 14) [] [0, 1, 2, 3, 4, 5, 6, 7, 8, 9, 10, 11, 12, 13] rfl mixed (by kernel_rfl) trivial ?_
      refine L_p (.int .i64 (x2)) rfl rfl (P_move v8) ?_
      refine L_p (.bool ((decide (x2 > (0 : Int))))) rfl rfl (P_int rfl rfl rfl) ?_
      refine L_p (.bool ((decide (x2 > (0 : Int))))) rfl rfl (P_move rfl) ?_
      refine L_y (fPtr p5 0) rfl rfl rfl rfl l5 (P_fieldAddr at_76_0 x8 (OB.ptr t5)) ?_
      refine L_ld (c := .int .i64 ((y2).Order)) rfl rfl (.yes2 rfl rfl l5) (fun _ _ h => ⟨h.ch, fun b hb _ => h.below.block b hb⟩) uD rfl ?_
      refine L_y up1 rfl rfl rfl rfl l5 (P_move mC) ?_
      refine L_y (.int .i64 (x2)) rfl rfl rfl rfl l5 (P_move v8) ?_
      refine L_y (.int .i64 ((w64 (x2 - (1 : Int))))) rfl rfl rfl rfl l5 (P_int rfl rfl rfl) ?_
      refine L_y (ePtr up1 (w64 (x2 - (1 : Int))) 3) rfl rfl rfl rfl l5 (P_indexAddr (α := LoomRun) Try.underlying31 Try.sizeOf76 rfl aB rfl nB) ?_
      refine L_y (fPtr (ePtr up1 (w64 (x2 - (1 : Int))) 3) 0) rfl rfl rfl rfl l5 (P_fieldAddr at_76_0 rfl (PT.ptr qC)) ?_
      refine L_ld (c := .int .i64 ((i7).Order)) rfl rfl (.yes2 rfl rfl l5) (fun _ _ h => h.ch) vD rfl ?_
      refine L_y (.bool ((decide ((y2).Order ≤ (i7).Order)))) rfl rfl rfl rfl l5 (P_int rfl rfl rfl) ?_
      refine L_p (.bool ((decide ((y2).Order ≤ (i7).Order)))) rfl rfl (P_pick (b := (decide (x2 > (0 : Int)))) rfl (pick_t l5 rfl)) ?_
      refine L_p (.bool ((decide ((y2).Order ≤ (i7).Order)))) rfl rfl (P_assign rfl) ?_
      refine L_nl fun xF kI hs => ?_
      have hfr := hfr.ext hs
      have x6 := x6.ext hs
      have t5 := t5.ext hs
      clear hs
      refine EL_nil ?_
      obtain rfl := sinj h
      exact hQ _ _ ⟨xF, hfr, dB, x6, x8, t5, rfl⟩
     ·refine E_drawL (g := eC) (n := 14) [] [0, 1, 2, 3, 4, 5, 6, 7, 8, 9, 10, 11, 12, 13] rfl mixed (by kernel_rfl) trivial ?_
      refine L_p (.int .i64 (x2)) rfl rfl (P_move v8) ?_
      refine L_p (.bool ((decide (x2 > (0 : Int))))) rfl rfl (P_int rfl rfl rfl) ?_
      refine L_p (.bool ((decide (x2 > (0 : Int))))) rfl rfl (P_move rfl) ?_
      iterate 9 refine L_s rfl rfl rfl l5 rfl ?_
      refine L_p (.bool false) rfl rfl (P_pick (b := (decide (x2 > (0 : Int)))) rfl (pick_f l5 rfl)) ?_
      refine L_p (.bool false) rfl rfl (P_assign rfl) ?_
      refine L_nl fun yF lI hs => ?_
      have hfr := hfr.ext hs
      have x6 := x6.ext hs
      have t5 := t5.ext hs
      clear hs
      refine EL_nil ?_
      obtain rfl := sinj h
      exact hQ _ _ ⟨yF, hfr, dB, x6, x8, t5, rfl⟩
    ·clear hx
     obtain ⟨zF, hfr, d7, u3, y6, o0, d9⟩ := hR
     rcases csome h with ⟨bA, h⟩ | ⟨bA, h⟩
     ·refine E_cond_true (Eq.trans (show ev _ _ = .bool (i6) from d9) (congrArg Value.bool bA)) ?_
      refine E_seq (E_region (EL_at (.int .i64 (4)) rfl rfl ?_))
      refine EL_nil (thn_n (E_ret (blk_r ?_)))
      refine thn_r ?_
      obtain rfl := sinj h
      exact end1 rfl rfl (show _ = .int .i64 (4) from rfl) ⟨_, hfr, rfl⟩
     ·refine E_cond_false (Eq.trans (show ev _ _ = .bool (i6) from d9) (congrArg Value.bool bA)) ?_
      refine E_seq ?_
      have aG := PT_field (part_LoomLoomMill_1).1 u3
      refine L_load (x := .tmp 52) Try.isAgg25 Try.sizeOf25 aG fun jB rC xD => ?_
      refine L_loadO (x := .tmp 54) part_LoomRun_0.1 Try.isAgg3 Try.sizeOf3 o0 fun mI bG yD => ?_
      obtain rfl := RV_int.1 bG
      obtain ⟨m8, oB, h⟩ := bsome h
      have uC := PT_idx rC oB
      have cG := PT_field (part_LoomOrder_0).1 uC
      refine L_load (x := .tmp 57) Try.isAgg3 Try.sizeOf3 cG fun nI eG zD => ?_
      obtain rfl := RV_int.1 eG
      have vC := PT_field (part_LoomLoomMill_0).1 u3
      have gG := PT_field (part_LoomMill_0).1 vC
      refine L_load (x := .tmp 60) Try.isAgg22 Try.sizeOf22 gG fun aD bD aE => ?_
      refine L_loadO (x := .tmp 62) part_LoomRun_1.1 Try.isAgg3 Try.sizeOf3 o0 fun pI hG bE => ?_
      obtain rfl := RV_int.1 hG
      obtain ⟨n8, tB, h⟩ := bsome h
      have iG := PT_idx bD tB
      refine L_load (x := .tmp 64) Try.isAgg3 Try.sizeOf3 iG fun qI jG cE => ?_
      obtain rfl := RV_int.1 jG
      refine E_drawL (g := zF) (n := 16) [] [0, 1, 2, 3, 4, 5, 6, 7, 8, 9, 10, 11, 12, 13, 14, 15] rfl mixed (by kernel_rfl) trivial ?_
      refine L_p (fPtr p1 2) rfl rfl (P_fieldAddr at_96_1 d7 (PT.ptr u3)) ?_
      refine L_ld (c := jB) rfl rfl .plain (fun _ _ h => h.ch) xD rfl ?_
      refine L_p (fPtr p5 0) rfl rfl (P_fieldAddr at_76_0 y6 (OB.ptr o0)) ?_
      refine L_ld (c := .int .i64 ((y2).Order)) rfl rfl .plain (fun _ _ h => ⟨h.ch, fun b hb _ => h.below.block b hb⟩) yD rfl ?_
      refine L_p (ePtr jB (y2).Order 5) rfl rfl (P_indexAddr (α := LoomOrder) Try.underlying25 Try.sizeOf82 rfl rC rfl oB) ?_
      refine L_p (fPtr (ePtr jB (y2).Order 5) 0) rfl rfl (P_fieldAddr at_82_0 rfl (PT.ptr uC)) ?_
      refine L_ld (c := .int .i64 ((m8).Width)) rfl rfl .plain (fun _ _ h => h.ch) zD rfl ?_
      refine L_p (fPtr p1 0) rfl rfl (P_fieldAddr at_96_0 d7 (PT.ptr u3)) ?_
      refine L_p (fPtr (fPtr p1 0) 0) rfl rfl (P_fieldAddr at_24_0 rfl (PT.ptr vC)) ?_
      refine L_ld (c := aD) rfl rfl .plain (fun _ _ h => h.ch) aE rfl ?_
      refine L_p (fPtr p5 1) rfl rfl (P_fieldAddr at_76_1 y6 (OB.ptr o0)) ?_
      refine L_ld (c := .int .i64 ((y2).Loom)) rfl rfl .plain (fun _ _ h => ⟨h.ch, fun b hb _ => h.below.block b hb⟩) bE rfl ?_
      refine L_p (ePtr aD (y2).Loom 1) rfl rfl (P_indexAddr (α := Int) Try.underlying22 Try.sizeOf3 rfl bD rfl tB) ?_
      refine L_ld (c := .int .i64 (n8)) rfl rfl .plain (fun _ _ h => h.ch) cE rfl ?_
      refine L_p (.bool ((decide ((m8).Width > n8)))) rfl rfl (P_int rfl rfl rfl) ?_
      refine L_p (.bool ((decide ((m8).Width > n8)))) rfl rfl (P_assign rfl) ?_
      refine L_nl fun kG sI hs => ?_
      have hfr := hfr.ext hs
      have u3 := u3.ext hs
      have o0 := o0.ext hs
      clear hs
      refine EL_nil (thn_n ?_)
      rcases csome h with ⟨iA, h⟩ | ⟨iA, h⟩
      ·refine E_ct iA rfl ?_
       refine E_seq (E_region (EL_at (.int .i64 (2)) rfl rfl ?_))
       refine EL_nil (thn_n (E_ret (blk_r ?_)))
       refine thn_r ?_
       obtain rfl := sinj h
       exact end1 rfl rfl (show _ = .int .i64 (2) from rfl) ⟨_, hfr, rfl⟩
      ·refine E_cf iA rfl ?_
       obtain ⟨j6, hx, h⟩ := bsome h
       refine E_join (fun e w => ∃ (g : Gh) , Fr gI wI g w ∧ e 67 = .bool (j6)) (fun Q' hQ => ?_) (fun lH tI hR => ?_)
       ·replace h := hx
        clear hx
        refine E_seq (L_loadO (x := .tmp 68) part_LoomRun_2.1 Try.isAgg3 Try.sizeOf3 o0 fun uI lG dE => ?_)
        obtain rfl := RV_int.1 lG
        have mG := PT_field (part_LoomLoomMill_1).1 u3
        refine L_load (x := .tmp 70) Try.isAgg25 Try.sizeOf25 mG fun lB cD eE => ?_
        refine L_loadO (x := .tmp 72) part_LoomRun_0.1 Try.isAgg3 Try.sizeOf3 o0 fun vI nG iE => ?_
        obtain rfl := RV_int.1 nG
        obtain ⟨m7, vB, h⟩ := bsome h
        have eD := PT_idx cD vB
        have oG := PT_field (part_LoomOrder_3).1 eD
        refine L_load (x := .tmp 75) Try.isAgg3 Try.sizeOf3 oG fun xI sG jE => ?_
        obtain rfl := RV_int.1 sG
        refine E_drawL (g := kG) (n := 11) [] [0, 1, 2, 3, 4, 5, 6, 7, 8, 9, 10] rfl mixed (by kernel_rfl) trivial ?_
        refine L_p (fPtr p5 2) rfl rfl (P_fieldAddr at_76_2 y6 (OB.ptr o0)) ?_
        refine L_ld (c := .int .i64 ((y2).From)) rfl rfl .plain (fun _ _ h => ⟨h.ch, fun b hb _ => h.below.block b hb⟩) dE rfl ?_
        refine L_p (fPtr p1 2) rfl rfl (P_fieldAddr at_96_1 d7 (PT.ptr u3)) ?_
        refine L_ld (c := lB) rfl rfl .plain (fun _ _ h => h.ch) eE rfl ?_
        refine L_p (fPtr p5 0) rfl rfl (P_fieldAddr at_76_0 y6 (OB.ptr o0)) ?_
        refine L_ld (c := .int .i64 ((y2).Order)) rfl rfl .plain (fun _ _ h => ⟨h.ch, fun b hb _ => h.below.block b hb⟩) iE rfl ?_
        refine L_p (ePtr lB (y2).Order 5) rfl rfl (P_indexAddr (α := LoomOrder) Try.underlying25 Try.sizeOf82 rfl cD rfl vB) ?_
        refine L_p (fPtr (ePtr lB (y2).Order 5) 3) rfl rfl (P_fieldAddr at_82_3 rfl (PT.ptr eD)) ?_
        refine L_ld (c := .int .i64 ((m7).Early)) rfl rfl .plain (fun _ _ h => h.ch) jE rfl ?_
        refine L_p (.bool ((decide ((y2).From < (m7).Early)))) rfl rfl (P_int rfl rfl rfl) ?_
        refine L_p (.bool ((decide ((y2).From < (m7).Early)))) rfl rfl (P_assign rfl) ?_
        refine L_nl fun gD yI hs => ?_
        have hfr := hfr.ext hs
        have u3 := u3.ext hs
        have o0 := o0.ext hs
        clear hs
        refine EL_nil (thn_n ?_)
        rcases csome h with ⟨rA, h⟩ | ⟨rA, h⟩
        ·refine E_ct rA rfl ?_
         refine E_skip ?_
         obtain rfl := sinj h
         exact hQ _ _ ⟨gD, hfr, rfl⟩
        ·refine E_cf rA rfl ?_
         refine L_load (x := .tmp 3) Try.isAgg96 Try.sizeOf96 u3 fun iD tG kE => ?_
         refine L_loadO0 (x := .tmp 7) Try.isAgg76 Try.sizeOf76 o0 fun jD uG lE => ?_
         obtain ⟨g8, mE, h⟩ := bsome h
         have vG := PT_field (part_LoomLoomMill_1).1 u3
         refine L_load (x := .tmp 81) Try.isAgg25 Try.sizeOf25 vG fun mB lD nE => ?_
         refine L_loadO (x := .tmp 83) part_LoomRun_0.1 Try.isAgg3 Try.sizeOf3 o0 fun zI xG oE => ?_
         obtain rfl := RV_int.1 xG
         obtain ⟨r8, yB, h⟩ := bsome h
         have mD := PT_idx lD yB
         have yG := PT_field (part_LoomOrder_4).1 mD
         refine L_load (x := .tmp 86) Try.isAgg3 Try.sizeOf3 yG fun aJ zG rE => ?_
         obtain rfl := RV_int.1 zG
         refine E_drawL (g := gD) (n := 12) [(2, (fun v g w => v = .int .i64 (g8)))] [0, 1, 2, 3, 4, 5, 6, 7, 8, 9, 10, 11] rfl mixed (by kernel_rfl) (⟨fun _ => up_eq _, trivial⟩) ?_
         refine L_ld (c := iD) rfl rfl .plain (fun _ _ h => h.ch) kE d7 ?_
         refine L_ld (c := jD) rfl rfl .plain (fun _ _ h => ⟨h.ch, fun b hb _ => h.below.block b hb⟩) lE y6 ?_
         refine L_do (φ := fun v g w => v = .int .i64 (g8)) rfl rfl .plain (fun g w hd => D_call (g := g) (vs := [iD, jD]) en73 (.cons rfl (.cons rfl .nil)) (wk73 (tG.ext hd.1) (uG.ext hd.1) mE) fun g' w' v hs hr => ⟨g', hs, hr⟩) (fun bJ hv => ?_)
         obtain ⟨_, _, _, rfl⟩ := hv
         refine L_p (fPtr p1 2) rfl rfl (P_fieldAddr at_96_1 d7 (PT.ptr u3)) ?_
         refine L_ld (c := mB) rfl rfl .plain (fun _ _ h => h.ch) nE rfl ?_
         refine L_p (fPtr p5 0) rfl rfl (P_fieldAddr at_76_0 y6 (OB.ptr o0)) ?_
         refine L_ld (c := .int .i64 ((y2).Order)) rfl rfl .plain (fun _ _ h => ⟨h.ch, fun b hb _ => h.below.block b hb⟩) oE rfl ?_
         refine L_p (ePtr mB (y2).Order 5) rfl rfl (P_indexAddr (α := LoomOrder) Try.underlying25 Try.sizeOf82 rfl lD rfl yB) ?_
         refine L_p (fPtr (ePtr mB (y2).Order 5) 4) rfl rfl (P_fieldAddr at_82_4 rfl (PT.ptr mD)) ?_
         refine L_ld (c := .int .i64 ((r8).Late)) rfl rfl .plain (fun _ _ h => h.ch) rE rfl ?_
         refine L_p (.bool ((decide (g8 > (r8).Late)))) rfl rfl (P_int rfl rfl rfl) ?_
         refine L_p (.bool ((decide (g8 > (r8).Late)))) rfl rfl (P_assign rfl) ?_
         refine L_nl fun aH cJ hs => ?_
         have hfr := hfr.ext hs
         clear hs
         refine EL_nil ?_
         obtain rfl := sinj h
         exact hQ _ _ ⟨aH, hfr, rfl⟩
       ·clear hx
        obtain ⟨cH, hfr, k9⟩ := hR
        rcases csome h with ⟨yA, h⟩ | ⟨yA, h⟩
        ·refine E_cond_true (Eq.trans (show ev _ _ = .bool (j6) from k9) (congrArg Value.bool yA)) ?_
         refine E_seq (E_region (EL_at (.int .i64 (3)) rfl rfl ?_))
         refine EL_nil (thn_n (E_ret (blk_r ?_)))
         refine thn_r ?_
         obtain rfl := sinj h
         exact end1 rfl rfl (show _ = .int .i64 (3) from rfl) ⟨_, hfr, rfl⟩
        ·refine E_cond_false (Eq.trans (show ev _ _ = .bool (j6) from k9) (congrArg Value.bool yA)) ?_
         exact E_skip (blk_n (thn_n (nD () _ _ ⟨cH, hfr⟩ h)))
 ·rintro _ mH dJ ⟨eJ, hfr⟩ h
  refine E_seq (E_region (EL_at (.int .i64 (0)) rfl rfl ?_))
  refine EL_nil (thn_n (E_ret ?_))
  obtain rfl := sinj h
  exact end1 rfl rfl (show _ = .int .i64 (0) from rfl) ⟨_, hfr, rfl⟩
def f94 (x0 : LoomLoomMill) (x1 : List LoomRun) : Option (Int) :=
 (mks 1 (false : Bool) (((x1).length : Int))).bind fun y2 =>
 Option.bind (α := (List Bool)) (
  lp (σ := (List Bool) × Int) (fun lD (v8, u3) =>
   bif (decide (u3 < ((((x0).LoomMill).Widths).length : Int))) then
    Option.bind (α := (List Bool)) (
     (f68 x1 u3).bind fun x6 =>
     lp (σ := (List Bool) × Int) (fun mD (y6, o0) =>
      jn (σ := Unit) (fun _ =>
       Option.bind (α := (List Bool)) (
        (idx x6 o0).bind fun zB =>
        (idx x1 zB).bind fun d7 =>
        (idx x6 o0).bind fun x8 =>
        (idx x6 (w64 (o0 - (1 : Int)))).bind fun y9 =>
        (idx x1 y9).bind fun nD =>
        (f69 x0 nD ((d7).Order)).bind fun n8 =>
        (idx y6 x8).bind fun sF =>
        some ((List.set y6 (Int.toNat x8) ((decide ((d7).From < n8)))))
        ) fun i7 =>
       mD (i7, (w64 (o0 + (1 : Int))))
       ) fun oD =>
      bif (decide (o0 < ((x6).length : Int))) then
       oD ()
      else
       some (y6)
      ) big (v8, (1 : Int))
     ) fun m7 =>
    lD (m7, (w64 (u3 + (1 : Int))))
   else
    some (v8)
   ) big (y2, (0 : Int))
  ) fun a9 =>
 (f103 a9 true).bind fun z9 =>
 some (z9)
theorem en94 : Enters Try.prog 94 := enters_of Try.func94 (by kernel_rfl) rfl
theorem wk94 {gI : Gh} {wI : World} {x0 : LoomLoomMill} {x1 : List LoomRun} {up0 : Value} (rp0 : RV gI.m wI x0 up0) {up1 : Value} (rp1 : RV gI.m wI x1 up1) {r : Int} (h : f94 x0 x1 = some r) : Fn Try.prog 94 #[up0, up1] gI wI (fun _ _ v => v = .int .i64 (r)) := by
 unfold f94 at h
 refine fn_of_E Try.func94 rfl (Nat.le_of_ble_eq_true rfl) fun g0 hm hfr => ?_
 have rp0 : RV g0.m wI x0 up0 := hm ▸ rp0
 have rp1 : RV g0.m wI x1 up1 := hm ▸ rp1
 show E _ 60 none _ _ _ _ _
 refine E_seq (E_region (EL_do .plain rfl (D_box (g := g0) rfl rp0 fun g1 w1 p1 hs q1 => ?_)))
 have hfr := hfr.ext hs
 have rp1 := rp1.ext hs
 refine EL_at (.int .i64 (0)) rfl rfl ?_
 refine EL_nil (thn_n (E_seq (E_region (EL_mw up1 rfl rfl ?_))))
 refine EL_p (.int .i64 ((x1).length : Int)) (P_len Try.underlying31 rfl rp1) rfl ?_
 obtain ⟨y2, hy2, h⟩ := bsome h
 refine EL_do .plain rfl (D_makeSliceM (g := g1) 9012 (false : Bool) rfl Try.underlying101 info_4 rfl (fun _ _ => rfl) rfl rfl hy2 fun g3 w3 v3 hs b3 => ?_)
 have hfr := hfr.stp hs
 have rp1 := rp1.stp hs
 have q1 := q1.stp hs
 refine EL_at v3 rfl rfl ?_
 refine EL_nil (thn_n ?_)
 obtain ⟨a9, hx, h⟩ := bsome h
 refine E_join (fun e w => ∃ (g : Gh) , Fr gI wI g w ∧ e 5 = v3 ∧ OM 9012 g w 4 (a9 : List Bool) v3) (fun Q' hQ => ?_) (fun xG jH hR => ?_)
 ·replace h := hx
  clear hx
  refine E_seq (E_region (EL_p (fPtr p1 0) (P_fieldAddr at_96_0 rfl (PT.ptr q1)) rfl ?_))
  have sD := PT_field (part_LoomLoomMill_0).1 q1
  refine EL_p (fPtr (fPtr p1 0) 0) (P_fieldAddr at_24_0 rfl (PT.ptr sD)) rfl ?_
  have tF := PT_field (part_LoomMill_0).1 sD
  refine EL_do .plain rfl (D_load (g := g3) Try.isAgg22 Try.sizeOf22 rfl tF fun kH uF => ?_)
  refine EL_p (.int .i64 ((((x0).LoomMill).Widths).length : Int)) (P_len Try.underlying22 rfl uF) rfl ?_
  refine EL_mw (.int .i64 (0)) rfl rfl ?_
  refine EL_nil (thn_n (E_block ?_))
  refine E_lp h (fun (s : (List Bool) × Int) e w => ∃ (g : Gh) , Fr gI wI g w ∧ e 1 = up1 ∧ RV g.m w (x1 : List LoomRun) up1 ∧ e 2 = p1 ∧ PT g.m w (x0 : LoomLoomMill) p1 ∧ e 5 = v3 ∧ OM 9012 g w 4 (s.1 : List Bool) v3 ∧ e 16 = .int .i64 (((((x0).LoomMill).Widths).length : Int)) ∧ e 17 = .int .i64 (s.2)) ⟨g3, hfr, rfl, rp1, rfl, q1, rfl, b3, rfl, rfl⟩ (fun X285 lD xE => ?_)
  rintro ⟨v8, u3⟩ yG lH ⟨tD, hfr, rA, g8, uD, d9, yA, k8, l9, r8⟩ h
  refine E_seq (E_region (EL_p (.bool ((decide (u3 < ((((x0).LoomMill).Widths).length : Int))))) (P_int r8 l9 rfl) rfl ?_))
  refine EL_nil (thn_n (E_seq ?_))
  rcases csome h with ⟨bA, h⟩ | ⟨bA, h⟩
  ·refine E_ct bA rfl ?_
   refine E_skip (thn_n ?_)
   obtain ⟨m7, hx, h⟩ := bsome h
   refine E_join (fun e w => ∃ (g : Gh) , Fr gI wI g w ∧ e 1 = up1 ∧ RV g.m w (x1 : List LoomRun) up1 ∧ e 2 = p1 ∧ PT g.m w (x0 : LoomLoomMill) p1 ∧ e 5 = v3 ∧ OM 9012 g w 4 (m7 : List Bool) v3 ∧ e 16 = .int .i64 (((((x0).LoomMill).Widths).length : Int)) ∧ e 17 = .int .i64 (u3)) (fun Q' hQ => ?_) (fun zG mH hR => ?_)
   ·replace h := hx
    clear hx
    refine E_block ?_
    refine E_seq (E_region (EL_mv r8 rfl ?_))
    refine EL_at (.int .i64 (u3)) rfl rfl ?_
    refine EL_nil (thn_n (E_seq (E_region (EL_mv rA rfl ?_))))
    refine EL_mw (.int .i64 (u3)) rfl rfl ?_
    obtain ⟨x6, yE, h⟩ := bsome h
    refine EL_do .plain rfl (D_call (g := tD) (vs := [up1, .int .i64 (u3)]) en68 (.cons rfl (.cons rfl .nil)) (wk68 g8 yE) fun vF aH j6 hs hr => ?_)
    have hfr := hfr.ext hs
    have g8 := g8.ext hs
    have d9 := d9.ext hs
    have k8 := k8.ext hs
    have xF := hr
    refine EL_at j6 rfl rfl ?_
    refine EL_nil (thn_n (E_seq (E_region (EL_at (.int .i64 (1)) rfl rfl ?_))))
    refine EL_nil (thn_n (E_block ?_))
    refine E_lp h (fun (s : (List Bool) × Int) e w => ∃ (g : Gh) , Fr gI wI g w ∧ e 1 = up1 ∧ RV g.m w (x1 : List LoomRun) up1 ∧ e 2 = p1 ∧ PT g.m w (x0 : LoomLoomMill) p1 ∧ e 5 = v3 ∧ OM 9012 g w 4 (s.1 : List Bool) v3 ∧ e 7 = j6 ∧ RV g.m w (x6 : List Int) j6 ∧ e 8 = .int .i64 (s.2) ∧ e 16 = .int .i64 (((((x0).LoomMill).Widths).length : Int)) ∧ e 17 = .int .i64 (u3)) ⟨vF, hfr, rA, g8, uD, d9, yA, k8, rfl, xF, rfl, l9, r8⟩ (fun X425 mD zE => ?_)
    rintro ⟨y6, o0⟩ cH nH ⟨vD, hfr, aB, dB, iB, jB, lB, mB, nB, oB, tB, n9, u9⟩ h
    refine E_joinC h (fun (s : Unit) e w => ∃ (g : Gh) , Fr gI wI g w ∧ e 1 = up1 ∧ RV g.m w (x1 : List LoomRun) up1 ∧ e 2 = p1 ∧ PT g.m w (x0 : LoomLoomMill) p1 ∧ e 5 = v3 ∧ OM 9012 g w 4 (y6 : List Bool) v3 ∧ e 7 = j6 ∧ RV g.m w (x6 : List Int) j6 ∧ e 8 = .int .i64 (o0) ∧ e 16 = .int .i64 (((((x0).LoomMill).Widths).length : Int)) ∧ e 17 = .int .i64 (u3)) (fun X428 oD cF h => ?_) ?_
    ·refine E_seq (E_region (EL_mv tB rfl ?_))
     refine EL_mv nB rfl ?_
     refine EL_p (.int .i64 ((x6).length : Int)) (P_len Try.underlying22 rfl oB) rfl ?_
     refine EL_in (.bool ((decide (o0 < ((x6).length : Int))))) rfl rfl rfl rfl ?_
     refine EL_nil (thn_n ?_)
     rcases csome h with ⟨iA, h⟩ | ⟨iA, h⟩
     ·refine E_ct iA rfl ?_
      exact E_skip (thn_n (cF () _ _ ⟨vD, hfr, aB, dB, iB, jB, lB, mB, nB, oB, tB, n9, u9⟩ h))
     ·refine E_cf iA rfl ?_
      refine E_exit ?_
      refine thn_e ?_
      refine thn_e ?_
      refine blk_hit ?_
      refine blk_n ?_
      obtain rfl := sinj h
      exact hQ _ _ ⟨vD, hfr, aB, dB, iB, jB, lB, mB, n9, u9⟩
    ·rintro _ dH oH ⟨cC, hfr, k9, t5, vB, x5, yB, i6, l8, l5, m8, bD, cD⟩ h
     obtain ⟨i7, hx, h⟩ := bsome h
     refine E_join (fun e w => ∃ (g : Gh) , Fr gI wI g w ∧ e 1 = up1 ∧ RV g.m w (x1 : List LoomRun) up1 ∧ e 2 = p1 ∧ PT g.m w (x0 : LoomLoomMill) p1 ∧ e 5 = v3 ∧ OM 9012 g w 4 (i7 : List Bool) v3 ∧ e 7 = j6 ∧ RV g.m w (x6 : List Int) j6 ∧ e 8 = .int .i64 (o0) ∧ e 16 = .int .i64 (((((x0).LoomMill).Widths).length : Int)) ∧ e 17 = .int .i64 (u3)) (fun Q' hQ => ?_) (fun gH pH hR => ?_)
     ·replace h := hx
      clear hx
      refine E_block ?_
      refine E_seq (E_region (EL_mv k9 rfl ?_))
      refine EL_mv l8 rfl ?_
      refine EL_mv m8 rfl ?_
      obtain ⟨zB, mC, h⟩ := bsome h
      refine EL_p (ePtr j6 o0 1) (P_indexAddr (α := Int) Try.underlying22 Try.sizeOf3 rfl l5 rfl mC) rfl ?_
      have yF := PT_idx l5 mC
      refine EL_do .plain rfl (D_load (g := cC) Try.isAgg3 Try.sizeOf3 rfl yF fun qH zF => ?_)
      obtain rfl := RV_int.1 zF
      obtain ⟨d7, qC, h⟩ := bsome h
      refine EL_p (ePtr up1 zB 3) (P_indexAddr (α := LoomRun) Try.underlying31 Try.sizeOf76 rfl t5 rfl qC) rfl ?_
      have aG := PT_idx t5 qC
      refine EL_do .plain rfl (D_load (g := cC) Try.isAgg76 Try.sizeOf76 rfl aG fun bG eC => ?_)
      refine EL_do .plain rfl (D_allocOc (g := cC) 2009 (⟨0, 0, 0⟩ : LoomRun) Try.zeroValue76 (fun m w => ⟨_, (rep_two rep_int (rep_two rep_int rep_int)), rfl⟩) fun cG sH xD hs b500 cb => ?_)
      have hfr := hfr.stp hs
      have t5 := t5.stp hs
      have x5 := x5.stp hs
      have i6 := i6.stp hs rfl
      have l5 := l5.stp hs
      have eC := eC.stp hs
      clear cb
      refine EL_do .plain rfl (D_storeOc (g := cG) (v := bG) Try.sizeOf76 rfl b500 rfl eC fun eG tH hs b501 cb => ?_)
      clear cb
      have hfr := hfr.stp hs
      have t5 := t5.stp hs
      have x5 := x5.stp hs
      have i6 := i6.stp hs rfl
      have l5 := l5.stp hs
      refine EL_nil (thn_n ?_)
      obtain ⟨x8, rC, h⟩ := bsome h
      have gG := PT_idx l5 rC
      refine L_load (x := .tmp 39) Try.isAgg3 Try.sizeOf3 gG fun uH hG dF => ?_
      obtain rfl := RV_int.1 hG
      refine L_loadO (x := .tmp 41) part_LoomRun_2.1 Try.isAgg3 Try.sizeOf3 b501 fun xH iG eF => ?_
      obtain rfl := RV_int.1 iG
      refine L_load (x := .tmp 2) Try.isAgg96 Try.sizeOf96 x5 fun yD jG iF => ?_
      obtain ⟨y9, uC, h⟩ := bsome h
      have kG := PT_idx l5 uC
      refine L_load (x := .tmp 48) Try.isAgg3 Try.sizeOf3 kG fun yH lG nF => ?_
      obtain rfl := RV_int.1 lG
      obtain ⟨nD, vC, h⟩ := bsome h
      have mG := PT_idx t5 vC
      refine L_load (x := .tmp 50) Try.isAgg76 Try.sizeOf76 mG fun zD nG oF => ?_
      refine L_loadO (x := .tmp 52) part_LoomRun_0.1 Try.isAgg3 Try.sizeOf3 b501 fun zH oG pF => ?_
      obtain rfl := RV_int.1 oG
      obtain ⟨n8, qF, h⟩ := bsome h
      obtain ⟨sF, aD, h⟩ := bsome h
      refine E_drawL (g := eG) (n := 21) [(18, (fun v g w => v = .int .i64 (n8)))] [0, 1, 2, 3, 4, 5, 6, 7, 8, 9, 10, 11, 12, 13, 14, 15, 16, 17, 18, 19, 20] rfl mixed (by kernel_rfl) (⟨fun _ => up_eq _, trivial⟩) ?_
      refine L_p v3 rfl rfl (P_move yB) ?_
      refine L_p j6 rfl rfl (P_move l8) ?_
      refine L_p (.int .i64 (o0)) rfl rfl (P_move m8) ?_
      refine L_p (ePtr j6 o0 1) rfl rfl (P_indexAddr (α := Int) Try.underlying22 Try.sizeOf3 rfl l5 rfl rC) ?_
      refine L_ld (c := .int .i64 (x8)) rfl rfl .plain (fun _ _ h => h.ch) dF rfl ?_
      refine L_p (fPtr xD 2) rfl rfl (P_fieldAddr at_76_2 rfl (OB.ptr b501)) ?_
      refine L_ld (c := .int .i64 ((d7).From)) rfl rfl .plain (fun _ _ h => ⟨h.ch, fun b hb _ => h.below.block b hb⟩) eF rfl ?_
      refine L_ld (c := yD) rfl rfl .plain (fun _ _ h => h.ch) iF vB ?_
      refine L_p up1 rfl rfl (P_move k9) ?_
      refine L_p j6 rfl rfl (P_move l8) ?_
      refine L_p (.int .i64 (o0)) rfl rfl (P_move m8) ?_
      refine L_p (.int .i64 ((w64 (o0 - (1 : Int))))) rfl rfl (P_int rfl rfl rfl) ?_
      refine L_p (ePtr j6 (w64 (o0 - (1 : Int))) 1) rfl rfl (P_indexAddr (α := Int) Try.underlying22 Try.sizeOf3 rfl l5 rfl uC) ?_
      refine L_ld (c := .int .i64 (y9)) rfl rfl .plain (fun _ _ h => h.ch) nF rfl ?_
      refine L_p (ePtr up1 y9 3) rfl rfl (P_indexAddr (α := LoomRun) Try.underlying31 Try.sizeOf76 rfl t5 rfl vC) ?_
      refine L_ld (c := zD) rfl rfl .plain (fun _ _ h => h.ch) oF rfl ?_
      refine L_p (fPtr xD 0) rfl rfl (P_fieldAddr at_76_0 rfl (OB.ptr b501)) ?_
      refine L_ld (c := .int .i64 ((d7).Order)) rfl rfl .plain (fun _ _ h => ⟨h.ch, fun b hb _ => h.below.block b hb⟩) pF rfl ?_
      refine L_do (φ := fun v g w => v = .int .i64 (n8)) rfl rfl .plain (fun g w hd => D_call (g := g) (vs := [yD, zD, .int .i64 ((d7).Order)]) en69 (.cons rfl (.cons rfl (.cons rfl .nil))) (wk69 (jG.ext hd.1) (nG.ext hd.1) qF) fun g' w' v hs hr => ⟨g', hs, hr⟩) (fun aI hv => ?_)
      obtain ⟨_, _, _, rfl⟩ := hv
      refine L_p (.bool ((decide ((d7).From < n8)))) rfl rfl (P_int rfl rfl rfl) ?_
      refine L_p (ePtr v3 x8 1) rfl rfl (P_indexAddrM (α := Bool) Try.underlying101 Try.sizeOf4 rfl i6 rfl aD) ?_
      refine L_nl fun sG bI hs => ?_
      have hfr := hfr.ext hs
      have t5 := t5.ext hs
      have x5 := x5.ext hs
      have i6 := i6.ext hs
      have l5 := l5.ext hs
      clear hs
      refine EL_do .plain rfl (D_storeM (g := sG) (α := Bool) (a' := ((decide ((d7).From < n8)))) Try.sizeOf4 rfl i6 aD rfl (RV_bool.2 rfl) fun tG dI hs b556 => ?_)
      have hfr := hfr.stp hs
      have t5 := t5.stp hs
      have x5 := x5.stp hs
      have l5 := l5.stp hs
      refine EL_nil (blk_n ?_)
      obtain rfl := sinj h
      exact hQ _ _ ⟨tG, hfr, k9, t5, vB, x5, yB, b556, l8, l5, m8, bD, cD⟩
     ·clear hx
      obtain ⟨uG, hfr, aE, bE, cE, dE, eE, iE, jE, kE, lE, eD, gD⟩ := hR
      refine E_region (EL_mv lE rfl ?_)
      refine EL_in (.int .i64 ((w64 (o0 + (1 : Int))))) rfl rfl rfl rfl ?_
      refine EL_at (.int .i64 ((w64 (o0 + (1 : Int))))) rfl rfl ?_
      exact EL_nil (thn_n (zE (i7, (w64 (o0 + (1 : Int)))) _ _ ⟨uG, hfr, aE, bE, cE, dE, eE, iE, jE, kE, rfl, eD, gD⟩ h))
   ·clear hx
    obtain ⟨vG, hfr, mE, nE, oE, rE, sE, tE, iD, jD⟩ := hR
    refine E_region (EL_in (.int .i64 ((w64 (u3 + (1 : Int))))) jD rfl rfl rfl ?_)
    refine EL_mw (.int .i64 ((w64 (u3 + (1 : Int))))) rfl rfl ?_
    exact EL_nil (thn_n (xE (m7, (w64 (u3 + (1 : Int)))) _ _ ⟨vG, hfr, mE, nE, oE, rE, sE, tE, iD, rfl⟩ h))
  ·refine E_cf bA rfl ?_
   refine E_exit ?_
   refine thn_e ?_
   refine thn_e ?_
   refine blk_hit ?_
   obtain rfl := sinj h
   exact hQ _ _ ⟨tD, hfr, yA, k8⟩
 ·clear hx
  obtain ⟨iI, hfr, uE, vE⟩ := hR
  refine E_seq (E_region (EL_mv uE rfl ?_))
  obtain ⟨gp560, hs, rp560⟩ := OM.pub vE
  have hfr := hfr.stp hs
  obtain ⟨z9, rF, h⟩ := bsome h
  refine EL_do .plain rfl (D_call (g := gp560) (vs := [v3, .bool true]) en103 (.cons rfl (.cons rfl .nil)) (wk103 rp560 rF) fun jI iH kI hs hr => ?_)
  have hfr := hfr.ext hs
  subst hr
  refine EL_at (.int .i64 (z9)) rfl rfl ?_
  refine EL_nil (thn_n (E_ret ?_))
  obtain rfl := sinj h
  exact end1 rfl rfl (show _ = .int .i64 (z9) from rfl) ⟨_, hfr, rfl⟩
def f70 (x0 : LoomRun) : Option (Bool) :=
 (f71 (([(x0).From] : List Int))).bind fun y6 =>
 some ((!y6))
theorem en70 : Enters Try.prog 70 := enters_of Try.func70 (by kernel_rfl) rfl
theorem wk70 {gI : Gh} {wI : World} {x0 : LoomRun} {up0 : Value} (rp0 : RV gI.m wI x0 up0) {r : Bool} (h : f70 x0 = some r) : Fn Try.prog 70 #[up0] gI wI (fun _ _ v => v = .bool (r)) := by
 unfold f70 at h
 refine fn_of_E Try.func70 rfl (Nat.le_of_ble_eq_true rfl) fun g0 hm hfr => ?_
 have rp0 : RV g0.m wI x0 up0 := hm ▸ rp0
 show E _ 8 none _ _ _ _ _
 refine E_seq (E_region (EL_do .plain rfl (D_box (g := g0) rfl rp0 fun g1 w1 p1 hs q1 => ?_)))
 have hfr := hfr.ext hs
 refine EL_at (.bool false) rfl rfl ?_
 refine EL_nil (thn_n (E_seq (E_region (EL_p (fPtr p1 2) (P_fieldAddr at_76_2 rfl (PT.ptr q1)) rfl ?_))))
 have q2 := PT_field (part_LoomRun_2).1 q1
 refine EL_do .plain rfl (D_load (g := g1) Try.isAgg3 Try.sizeOf3 rfl q2 fun v3 r3 => ?_)
 obtain rfl := RV_int.1 r3
 refine EL_do .plain rfl (D_buildSlice (g := g1) 3005 (xs := ([(x0).From] : List Int)) (vs := [.int .i64 ((x0).From)]) Try.underlying22 Try.sizeOf3 Try.zeroValue3 rfl rfl (.cons rfl .nil) (RVs.cons (RV_int.2 rfl) RVs.nil) rfl rfl fun g4 w4 v4 hs o4 r4 hxt hfl => ?_)
 have hfr := hfr.stp hs
 obtain ⟨y6, o0, h⟩ := bsome h
 refine EL_do .plain rfl (D_call (g := g4) (vs := [v4]) en71 (.cons rfl .nil) (wk71 r4 o0) fun g5 w5_ v5 hs hr => ?_)
 have hfr := hfr.ext hs
 subst hr
 refine EL_p (.bool (!y6)) (P_not rfl) rfl ?_
 refine EL_at (.bool (!y6)) rfl rfl ?_
 refine EL_nil (thn_n (E_ret ?_))
 obtain rfl := sinj h
 exact end1 rfl rfl (show _ = .bool (!y6) from rfl) ⟨_, hfr, rfl⟩
def f78 (x0 : LoomLoomMill) (x1 : List LoomRun) : Option (Int × Int) :=
 jn (σ := Unit) (fun _ =>
  jn (σ := Unit) (fun _ =>
   jn (σ := Unit) (fun _ =>
    some ((0 : Int), (0 : Int))
    ) fun u9 =>
   (f94 x0 x1).bind fun u3 =>
   bif (decide (u3 ≥ (0 : Int))) then
    some (u3, (6 : Int))
   else
    u9 ()
   ) fun y9 =>
  lp (σ := Int) (fun z9 o0 =>
   bif (decide (o0 < ((x1).length : Int))) then
    jn (σ := Unit) (fun _ =>
     z9 ((w64 (o0 + (1 : Int))))
     ) fun bA =>
    (f93 x0 x1 o0).bind fun l5 =>
    bif (l5 != (0 : Int)) then
     some (o0, l5)
    else
     bA ()
   else
    y9 ()
   ) big ((0 : Int))
  ) fun k5 =>
 bif (decide (((x1).length : Int) > (((x0).orders).length : Int))) then
  some ((0 : Int), (5 : Int))
 else
  k5 ()
theorem en78 : Enters Try.prog 78 := enters_of Try.func78 (by kernel_rfl) rfl
theorem wk78 {gI : Gh} {wI : World} {x0 : LoomLoomMill} {x1 : List LoomRun} {up0 : Value} (rp0 : RV gI.m wI x0 up0) {up1 : Value} (rp1 : RV gI.m wI x1 up1) {r : Int × Int} (h : f78 x0 x1 = some r) : Fn Try.prog 78 #[up0, up1] gI wI (fun m w v => ∃ y0 y1, v = .tuple #[y0, y1] ∧ y0 = .int .i64 (r.1) ∧ y1 = .int .i64 (r.2)) := by
 unfold f78 at h
 refine fn_of_E Try.func78 rfl (Nat.le_of_ble_eq_true rfl) fun g0 hm hfr => ?_
 have rp0 : RV g0.m wI x0 up0 := hm ▸ rp0
 have rp1 : RV g0.m wI x1 up1 := hm ▸ rp1
 show E _ 35 none _ _ _ _ _
 refine E_seq (E_region (EL_do .plain rfl (D_box (g := g0) rfl rp0 fun g1 w1 p1 hs q1 => ?_)))
 have hfr := hfr.ext hs
 have rp1 := rp1.ext hs
 refine EL_at (.int .i64 (0)) rfl rfl ?_
 refine EL_at (.int .i64 (0)) rfl rfl ?_
 refine EL_nil (thn_n (E_joinC h (fun (s : Unit) e w => ∃ (g : Gh) , Fr gI wI g w ∧ e 1 = up1 ∧ RV g.m w (x1 : List LoomRun) up1 ∧ e 2 = p1 ∧ PT g.m w (x0 : LoomLoomMill) p1) (fun X5 k5 hk5 h => ?_) ?_))
 ·refine E_seq (E_region (EL_mw up1 rfl rfl ?_))
  refine EL_p (.int .i64 ((x1).length : Int)) (P_len Try.underlying31 rfl rp1) rfl ?_
  refine EL_p (fPtr p1 2) (P_fieldAddr at_96_1 rfl (PT.ptr q1)) rfl ?_
  have q6 := PT_field (part_LoomLoomMill_1).1 q1
  refine EL_do .plain rfl (D_load (g := g1) Try.isAgg25 Try.sizeOf25 rfl q6 fun v7 r7 => ?_)
  refine EL_p (.int .i64 (((x0).orders).length : Int)) (P_len Try.underlying25 rfl r7) rfl ?_
  refine EL_p (.bool ((decide (((x1).length : Int) > (((x0).orders).length : Int))))) (P_int rfl rfl rfl) rfl ?_
  refine EL_nil (thn_n ?_)
  rcases csome h with ⟨hc8, h⟩ | ⟨hc8, h⟩
  ·refine E_ct hc8 rfl ?_
   refine E_seq (E_region (EL_at (.int .i64 (0)) rfl rfl ?_))
   refine EL_at (.int .i64 (5)) rfl rfl ?_
   refine EL_nil (thn_n (E_ret (thn_r ?_)))
   obtain rfl := sinj h
   exact end2 rfl rfl (show _ = .int .i64 (0) from rfl) (show _ = .int .i64 (5) from rfl) ⟨_, hfr, _, _, rfl, rfl, rfl⟩
  ·refine E_cf hc8 rfl ?_
   exact E_skip (thn_n (hk5 () _ _ ⟨g1, hfr, rfl, rp1, rfl, q1⟩ h))
 ·rintro _ aD w9 ⟨g9, hfr, g8, k8, rA, yA⟩ h
  refine E_joinC h (fun (s : Unit) e w => ∃ (g : Gh) , Fr gI wI g w ∧ e 1 = up1 ∧ RV g.m w (x1 : List LoomRun) up1 ∧ e 2 = p1 ∧ PT g.m w (x0 : LoomLoomMill) p1) (fun X23 y9 aB h => ?_) ?_
  ·refine E_seq (E_region (EL_mv g8 rfl ?_))
   refine EL_p (.int .i64 ((x1).length : Int)) (P_len Try.underlying31 rfl k8) rfl ?_
   refine EL_mw (.int .i64 (0)) rfl rfl ?_
   refine EL_nil (thn_n (E_block ?_))
   refine E_lp h (fun (s : Int) e w => ∃ (g : Gh) , Fr gI wI g w ∧ e 1 = up1 ∧ RV g.m w (x1 : List LoomRun) up1 ∧ e 2 = p1 ∧ PT g.m w (x0 : LoomLoomMill) p1 ∧ e 16 = .int .i64 (((x1).length : Int)) ∧ e 17 = .int .i64 (s)) ⟨g9, hfr, g8, k8, rA, yA, rfl, rfl⟩ (fun X24 z9 dB => ?_)
   rintro o0 eC bD ⟨l8, hfr, j6, t5, x6, x5, y6, i6⟩ h
   refine E_seq (E_region (EL_in (.bool ((decide (o0 < ((x1).length : Int))))) i6 y6 rfl rfl ?_))
   refine EL_nil (thn_n (E_seq ?_))
   rcases csome h with ⟨d7, h⟩ | ⟨d7, h⟩
   ·refine E_ct d7 rfl ?_
    refine E_skip (thn_n (E_joinC h (fun (s : Unit) e w => ∃ (g : Gh) , Fr gI wI g w ∧ e 1 = up1 ∧ RV g.m w (x1 : List LoomRun) up1 ∧ e 2 = p1 ∧ PT g.m w (x0 : LoomLoomMill) p1 ∧ e 16 = .int .i64 (((x1).length : Int)) ∧ e 17 = .int .i64 (o0)) (fun X31 bA iB h => ?_) ?_))
    ·refine E_block ?_
     refine E_seq (E_region (EL_mv i6 rfl ?_))
     refine EL_at (.int .i64 (o0)) rfl rfl ?_
     refine EL_nil (thn_n (E_seq (E_region (EL_do .plain rfl (D_load (g := l8) Try.isAgg96 Try.sizeOf96 x6 x5 fun nB oB => ?_)))))
     refine EL_mv j6 rfl ?_
     refine EL_mw (.int .i64 (o0)) rfl rfl ?_
     obtain ⟨l5, jB, h⟩ := bsome h
     refine EL_do .plain rfl (D_call (g := l8) (vs := [nB, up1, .int .i64 (o0)]) en93 (.cons rfl (.cons rfl (.cons rfl .nil))) (wk93 oB t5 jB) fun tB mC cD hs hr => ?_)
     have hfr := hfr.ext hs
     have t5 := t5.ext hs
     have x5 := x5.ext hs
     subst hr
     refine EL_at (.int .i64 (l5)) rfl rfl ?_
     refine EL_nil (thn_n (E_seq (E_region (EL_mw (.int .i64 (l5)) rfl rfl ?_))))
     refine EL_in (.bool ((l5 != (0 : Int)))) rfl rfl rfl rfl ?_
     refine EL_nil (thn_n ?_)
     rcases csome h with ⟨i7, h⟩ | ⟨i7, h⟩
     ·refine E_ct i7 rfl ?_
      refine E_seq (E_region (EL_mw (.int .i64 (o0)) rfl rfl ?_))
      refine EL_mw (.int .i64 (l5)) rfl rfl ?_
      refine EL_at (.int .i64 (o0)) rfl rfl ?_
      refine EL_at (.int .i64 (l5)) rfl rfl ?_
      refine EL_nil (thn_n (E_ret (blk_r ?_)))
      refine thn_r ?_
      refine thn_r ?_
      refine blk_r ?_
      refine thn_r ?_
      obtain rfl := sinj h
      exact end2 rfl rfl (show _ = .int .i64 (o0) from rfl) (show _ = .int .i64 (l5) from rfl) ⟨_, hfr, _, _, rfl, rfl, rfl⟩
     ·refine E_cf i7 rfl ?_
      exact E_skip (blk_n (thn_n (iB () _ _ ⟨tB, hfr, j6, t5, x6, x5, y6, i6⟩ h)))
    ·rintro _ qC eD ⟨vB, hfr, r8, v8, x8, a9, m8, n8⟩ h
     refine E_region (EL_in (.int .i64 ((w64 (o0 + (1 : Int))))) n8 rfl rfl rfl ?_)
     refine EL_mw (.int .i64 ((w64 (o0 + (1 : Int))))) rfl rfl ?_
     exact EL_nil (thn_n (dB ((w64 (o0 + (1 : Int)))) _ _ ⟨vB, hfr, r8, v8, x8, a9, m8, rfl⟩ h))
   ·refine E_cf d7 rfl ?_
    refine E_exit ?_
    refine thn_e ?_
    refine thn_e ?_
    refine blk_hit ?_
    exact thn_n (aB () _ _ ⟨l8, hfr, j6, t5, x6, x5⟩ h)
  ·rintro _ rC gD ⟨iA, hfr, d9, k9, l9, n9⟩ h
   refine E_joinC h (fun (s : Unit) e w => ∃ (g : Gh) , Fr gI wI g w) (fun X42 u9 lB h => ?_) ?_
   ·refine E_seq (E_region (EL_do .plain rfl (D_load (g := iA) Try.isAgg96 Try.sizeOf96 l9 n9 fun yB zB => ?_)))
    refine EL_mv d9 rfl ?_
    obtain ⟨u3, mB, h⟩ := bsome h
    refine EL_do .plain rfl (D_call (g := iA) (vs := [yB, up1]) en94 (.cons rfl (.cons rfl .nil)) (wk94 zB k9 mB) fun cC uC iD hs hr => ?_)
    have hfr := hfr.ext hs
    subst hr
    refine EL_at (.int .i64 (u3)) rfl rfl ?_
    refine EL_nil (thn_n (E_seq (E_region (EL_mw (.int .i64 (u3)) rfl rfl ?_))))
    refine EL_in (.bool ((decide (u3 ≥ (0 : Int))))) rfl rfl rfl rfl ?_
    refine EL_nil (thn_n ?_)
    rcases csome h with ⟨m7, h⟩ | ⟨m7, h⟩
    ·refine E_ct m7 rfl ?_
     refine E_seq (E_region (EL_mw (.int .i64 (u3)) rfl rfl ?_))
     refine EL_at (.int .i64 (u3)) rfl rfl ?_
     refine EL_at (.int .i64 (6)) rfl rfl ?_
     refine EL_nil (thn_n (E_ret (thn_r ?_)))
     obtain rfl := sinj h
     exact end2 rfl rfl (show _ = .int .i64 (u3) from rfl) (show _ = .int .i64 (6) from rfl) ⟨_, hfr, _, _, rfl, rfl, rfl⟩
    ·refine E_cf m7 rfl ?_
     exact E_skip (thn_n (lB () _ _ ⟨cC, hfr⟩ h))
   ·rintro _ vC jD ⟨lD, hfr⟩ h
    refine E_seq (E_region (EL_at (.int .i64 (0)) rfl rfl ?_))
    refine EL_at (.int .i64 (0)) rfl rfl ?_
    refine EL_nil (thn_n (E_ret ?_))
    obtain rfl := sinj h
    exact end2 rfl rfl (show _ = .int .i64 (0) from rfl) (show _ = .int .i64 (0) from rfl) ⟨_, hfr, _, _, rfl, rfl, rfl⟩
def f79 (x0 : LoomOrder) : Option (Bool) :=
 (f80 x0).bind fun y4 =>
 some ((!y4))
theorem en79 : Enters Try.prog 79 := enters_of Try.func79 (by kernel_rfl) rfl
theorem wk79 {gI : Gh} {wI : World} {x0 : LoomOrder} {up0 : Value} (rp0 : RV gI.m wI x0 up0) {r : Bool} (h : f79 x0 = some r) : Fn Try.prog 79 #[up0] gI wI (fun _ _ v => v = .bool (r)) := by
 unfold f79 at h
 refine fn_of_E Try.func79 rfl (Nat.le_of_ble_eq_true rfl) fun g0 hm hfr => ?_
 have rp0 : RV g0.m wI x0 up0 := hm ▸ rp0
 show E _ 6 none _ _ _ _ _
 refine E_seq (E_region (EL_do .plain rfl (D_box (g := g0) rfl rp0 fun g1 w1 p1 hs q1 => ?_)))
 have hfr := hfr.ext hs
 refine EL_at (.bool false) rfl rfl ?_
 refine EL_nil (thn_n (E_seq (E_region (EL_do .plain rfl (D_load (g := g1) Try.isAgg82 Try.sizeOf82 rfl q1 fun v2 r2 => ?_)))))
 obtain ⟨y4, o0, h⟩ := bsome h
 refine EL_do .plain rfl (D_call (g := g1) (vs := [v2]) en80 (.cons rfl .nil) (wk80 r2 o0) fun g3 w3_ v3 hs hr => ?_)
 have hfr := hfr.ext hs
 subst hr
 refine EL_p (.bool (!y4)) (P_not rfl) rfl ?_
 refine EL_at (.bool (!y4)) rfl rfl ?_
 refine EL_nil (thn_n (E_ret ?_))
 obtain rfl := sinj h
 exact end1 rfl rfl (show _ = .bool (!y4) from rfl) ⟨_, hfr, rfl⟩
def f50 (x0 : LoomMill) (x1 : List LoomOrder) : Option (LoomLoomMill × Int) :=
 jn (σ := LoomLoomMill) (fun z9 =>
  some ((⟨x0, x1⟩ : LoomLoomMill), (0 : Int))
  ) fun rC =>
 Option.bind (α := Bool) (
  bif (decide ((((x0).Widths).length : Int) > (3 : Int))) then
   some ((decide ((((x0).Widths).length : Int) > (3 : Int))))
  else
   some ((decide (((x1).length : Int) > (7 : Int))))
  ) fun j6 =>
 bif j6 then
  some ((⟨⟨[], 0⟩, []⟩ : LoomLoomMill), (5 : Int))
 else
  Option.bind (α := Bool) (
   bif ((((x0).Widths).length : Int) == (0 : Int)) then
    some (((((x0).Widths).length : Int) == (0 : Int)))
   else
    (f81 ((1 : Int)) ((100 : Int)) ((x0).Widths)).bind fun i7 =>
    bif (!i7) then
     some ((!i7))
    else
     (f81 ((0 : Int)) ((20 : Int)) (([(x0).Change] : List Int))).bind fun m7 =>
     bif (!m7) then
      some ((!m7))
     else
      (f82 x1 ((fun a0 => f79 a0))).bind fun bA =>
      some (bA)
   ) fun x5 =>
  bif x5 then
   some ((⟨⟨[], 0⟩, []⟩ : LoomLoomMill), (2 : Int))
  else
   rC ((⟨⟨[], 0⟩, []⟩ : LoomLoomMill))
theorem en50 : Enters Try.prog 50 := enters_of Try.func50 (by kernel_rfl) rfl
theorem wk50 {gI : Gh} {wI : World} {x0 : LoomMill} {x1 : List LoomOrder} {up0 : Value} (rp0 : RV gI.m wI x0 up0) {up1 : Value} (rp1 : RV gI.m wI x1 up1) {r : LoomLoomMill × Int} (h : f50 x0 x1 = some r) : Fn Try.prog 50 #[up0, up1] gI wI (fun m w v => ∃ y0 y1, v = .tuple #[y0, y1] ∧ RV m w (r.1) y0 ∧ y1 = .int .i64 (r.2)) := by
 unfold f50 at h
 refine fn_of_E Try.func50 rfl (Nat.le_of_ble_eq_true rfl) fun g0 hm hfr => ?_
 have rp0 : RV g0.m wI x0 up0 := hm ▸ rp0
 have rp1 : RV g0.m wI x1 up1 := hm ▸ rp1
 show E _ 37 none _ _ _ _ _
 refine E_seq (E_region (EL_do .plain rfl (D_box (g := g0) rfl rp0 fun g1 w1 p1 hs q1 => ?_)))
 have hfr := hfr.ext hs
 have rp1 := rp1.ext hs
 refine EL_do .plain rfl (D_allocOc (g := g1) 2004 (⟨⟨[], 0⟩, []⟩ : LoomLoomMill) Try.zeroValue96 (fun m w => ⟨_, (rep_two (rep_two rep_nil rep_int) rep_nil), rfl⟩) fun g2 w2 p2 hs b2 cb => ?_)
 have hfr := hfr.stp hs
 have rp1 := rp1.stp hs
 have q1 := q1.stp hs
 have iA : OSF 2004 60400 0 g2 w2 3 96 ([] : List Int) p2 := cb.osf (by rfl)
 have rA : OSF 2004 60402 2 g2 w2 82 96 ([] : List LoomOrder) p2 := cb.osf (by rfl)
 clear cb
 refine EL_at (.int .i64 (0)) rfl rfl ?_
 refine EL_nil (thn_n (E_seq (E_region (EL_at (.func (.func 79) #[] #[]) rfl rfl ?_))))
 refine EL_nil (thn_n (E_joinC h (fun (s : LoomLoomMill) e w => ∃ (g : Gh) , Fr gI wI g w ∧ e 1 = up1 ∧ RV g.m w (x1 : List LoomOrder) up1 ∧ e 2 = p1 ∧ PT g.m w (x0 : LoomMill) p1 ∧ e 4 = p2 ∧ OB 2004 g w 96 (s : LoomLoomMill) p2 ∧ OSF 2004 60400 0 g w 3 96 (((s).LoomMill).Widths) p2 ∧ OSF 2004 60402 2 g w 82 96 ((s).orders) p2) (fun X51 rC lD h => ?_) ?_))
 ·refine E_block ?_
  obtain ⟨j6, hx, h⟩ := bsome h
  refine E_join (fun e w => ∃ (g : Gh) , Fr gI wI g w ∧ e 1 = up1 ∧ RV g.m w (x1 : List LoomOrder) up1 ∧ e 2 = p1 ∧ PT g.m w (x0 : LoomMill) p1 ∧ e 4 = p2 ∧ OB 2004 g w 96 ((⟨⟨[], 0⟩, []⟩ : LoomLoomMill) : LoomLoomMill) p2 ∧ OSF 2004 60400 0 g w 3 96 ((((⟨⟨[], 0⟩, []⟩ : LoomLoomMill)).LoomMill).Widths) p2 ∧ OSF 2004 60402 2 g w 82 96 (((⟨⟨[], 0⟩, []⟩ : LoomLoomMill)).orders) p2 ∧ e 6 = .func (.func 79) #[] #[] ∧ e 7 = .bool (j6)) (fun Q' hQ => ?_) (fun tE tD hR => ?_)
  ·replace h := hx
   clear hx
   refine E_seq (E_region (EL_p (fPtr p1 0) (P_fieldAddr at_24_0 rfl (PT.ptr q1)) rfl ?_))
   have uD := PT_field (part_LoomMill_0).1 q1
   refine EL_do .plain rfl (D_load (g := g2) Try.isAgg22 Try.sizeOf22 rfl uD fun eF vD => ?_)
   refine EL_p (.int .i64 (((x0).Widths).length : Int)) (P_len Try.underlying22 rfl vD) rfl ?_
   refine EL_p (.bool ((decide ((((x0).Widths).length : Int) > (3 : Int))))) (P_int rfl rfl rfl) rfl ?_
   refine EL_p (.bool ((decide ((((x0).Widths).length : Int) > (3 : Int))))) (P_assign rfl) rfl ?_
   refine EL_nil (thn_n ?_)
   rcases csome h with ⟨m8, h⟩ | ⟨m8, h⟩
   ·refine E_ct m8 rfl ?_
    refine E_skip ?_
    obtain rfl := sinj h
    exact hQ _ _ ⟨g2, hfr, rfl, rp1, rfl, q1, rfl, b2, iA, rA, rfl, rfl⟩
   ·refine E_cf m8 rfl ?_
    refine E_region (EL_mw up1 rfl rfl ?_)
    refine EL_p (.int .i64 ((x1).length : Int)) (P_len Try.underlying25 rfl rp1) rfl ?_
    refine EL_in (.bool ((decide (((x1).length : Int) > (7 : Int))))) rfl rfl rfl rfl ?_
    refine EL_at (.bool ((decide (((x1).length : Int) > (7 : Int))))) rfl rfl ?_
    refine EL_nil ?_
    obtain rfl := sinj h
    exact hQ _ _ ⟨g2, hfr, rfl, rp1, rfl, q1, rfl, b2, iA, rA, rfl, rfl⟩
  ·clear hx
   obtain ⟨y6, hfr, x6, u3, t5, o0, i6, l5, u4_0_58, u4_2_58, tB, u9⟩ := hR
   rcases csome h with ⟨n8, h⟩ | ⟨n8, h⟩
   ·refine E_cond_true (Eq.trans (show ev _ _ = .bool (j6) from u9) (congrArg Value.bool n8)) ?_
    refine E_seq (E_region ?_)
    have uC : RV y6.m tD (⟨⟨[], 0⟩, []⟩ : LoomLoomMill) (.agg (setCh [[.slice none 0 0, .int .i64 0], [.slice none 0 0]] []).flatten.toArray) := RV_build rfl (rep_pair ((rep_two rep_nil rep_int)) (rep_last (rep_nil)))
    generalize r8 : (Value.agg (setCh [[.slice none 0 0, .int .i64 0], [.slice none 0 0]] []).flatten.toArray) = vC at uC
    refine EL_p vC (r8 ▸ P_build (vs := []) [[.slice none 0 0, .int .i64 0], [.slice none 0 0]] lay_96 rfl rfl .nil trivial) rfl ?_
    refine EL_do .plain rfl (D_storeOc (g := y6) (v := vC) Try.sizeOf96 i6 l5 rfl uC fun aD bD hs b61 cb => ?_)
    have mE : OSF 2004 60400 0 aD bD 3 96 ([] : List Int) p2 := cb.osf (by rw [← r8]; rfl)
    have nE : OSF 2004 60402 2 aD bD 82 96 ([] : List LoomOrder) p2 := cb.osf (by rw [← r8]; rfl)
    clear cb
    have hfr := hfr.stp hs
    refine EL_at (.int .i64 (5)) rfl rfl ?_
    refine EL_nil (thn_n (E_ret (blk_r ?_)))
    refine thn_r ?_
    obtain rfl := sinj h
    obtain ⟨ad62, cv62, hp62, mD, cr62⟩ := ob_read Try.isAgg96 Try.sizeOf96 b61
    exact endm_ct rfl rfl ((show _ = p2 from i6).trans hp62) mD (show _ = .int .i64 (5) from rfl) ⟨_, hfr, _, _, rfl, cr62, rfl⟩
   ·refine E_cond_false (Eq.trans (show ev _ _ = .bool (j6) from u9) (congrArg Value.bool n8)) ?_
    obtain ⟨x5, hx, h⟩ := bsome h
    refine E_join (fun e w => ∃ (g : Gh) , Fr gI wI g w ∧ e 1 = up1 ∧ RV g.m w (x1 : List LoomOrder) up1 ∧ e 2 = p1 ∧ PT g.m w (x0 : LoomMill) p1 ∧ e 4 = p2 ∧ OB 2004 g w 96 ((⟨⟨[], 0⟩, []⟩ : LoomLoomMill) : LoomLoomMill) p2 ∧ OSF 2004 60400 0 g w 3 96 ((((⟨⟨[], 0⟩, []⟩ : LoomLoomMill)).LoomMill).Widths) p2 ∧ OSF 2004 60402 2 g w 82 96 (((⟨⟨[], 0⟩, []⟩ : LoomLoomMill)).orders) p2 ∧ e 16 = .bool (x5)) (fun Q' hQ => ?_) (fun uE xD hR => ?_)
    ·replace h := hx
     clear hx
     refine E_seq (E_region (EL_p (fPtr p1 0) (P_fieldAddr at_24_0 t5 (PT.ptr o0)) rfl ?_))
     have yD := PT_field (part_LoomMill_0).1 o0
     refine EL_do .plain rfl (D_load (g := y6) Try.isAgg22 Try.sizeOf22 rfl yD fun iF zD => ?_)
     refine EL_p (.int .i64 (((x0).Widths).length : Int)) (P_len Try.underlying22 rfl zD) rfl ?_
     refine EL_in (.bool (((((x0).Widths).length : Int) == (0 : Int)))) rfl rfl rfl rfl ?_
     refine EL_at (.bool (((((x0).Widths).length : Int) == (0 : Int)))) rfl rfl ?_
     refine EL_nil (thn_n ?_)
     rcases csome h with ⟨v8, h⟩ | ⟨v8, h⟩
     ·refine E_ct v8 rfl ?_
      refine E_skip ?_
      obtain rfl := sinj h
      exact hQ _ _ ⟨y6, hfr, x6, u3, t5, o0, i6, l5, u4_0_58, u4_2_58, rfl⟩
     ·refine E_cf v8 rfl ?_
      refine E_seq (E_region (EL_p (fPtr p1 0) (P_fieldAddr at_24_0 t5 (PT.ptr o0)) rfl ?_))
      have aE := PT_field (part_LoomMill_0).1 o0
      refine EL_do .plain rfl (D_load (g := y6) Try.isAgg22 Try.sizeOf22 rfl aE fun bE cE => ?_)
      obtain ⟨i7, nD, h⟩ := bsome h
      refine EL_do .plain rfl (D_call (g := y6) (vs := [.int .i64 (1), .int .i64 (100), bE]) en81 (.cons rfl (.cons rfl (.cons rfl .nil))) (wk81 cE nD) fun yA vE nF hs hr => ?_)
      have hfr := hfr.ext hs
      have u3 := u3.ext hs
      have o0 := o0.ext hs
      have u4_0_58 := u4_0_58.ext hs
      have u4_2_58 := u4_2_58.ext hs
      have l5 := l5.ext hs
      subst hr
      refine EL_p (.bool (!i7)) (P_not rfl) rfl ?_
      refine EL_at (.bool (!i7)) rfl rfl ?_
      refine EL_nil (thn_n ?_)
      rcases csome h with ⟨x8, h⟩ | ⟨x8, h⟩
      ·refine E_ct x8 rfl ?_
       refine E_skip ?_
       obtain rfl := sinj h
       exact hQ _ _ ⟨yA, hfr, x6, u3, t5, o0, i6, l5, u4_0_58, u4_2_58, rfl⟩
      ·refine E_cf x8 rfl ?_
       refine E_seq (E_region (EL_p (fPtr p1 1) (P_fieldAddr at_24_1 t5 (PT.ptr o0)) rfl ?_))
       have dE := PT_field (part_LoomMill_1).1 o0
       refine EL_do .plain rfl (D_load (g := yA) Try.isAgg3 Try.sizeOf3 rfl dE fun oF eE => ?_)
       obtain rfl := RV_int.1 eE
       refine EL_do .plain rfl (D_buildSlice (g := yA) 3027 (xs := ([(x0).Change] : List Int)) (vs := [.int .i64 ((x0).Change)]) Try.underlying22 Try.sizeOf3 Try.zeroValue3 rfl rfl (.cons rfl .nil) (RVs.cons (RV_int.2 rfl) RVs.nil) rfl rfl fun iE pF jE hs o90 kE hxt hfl => ?_)
       have hfr := hfr.stp hs
       have u3 := u3.stp hs
       have o0 := o0.stp hs
       have u4_0_58 := u4_0_58.stp hs rfl
       have u4_2_58 := u4_2_58.stp hs rfl
       have l5 := l5.stp hs rfl
       obtain ⟨m7, oD, h⟩ := bsome h
       refine EL_do .plain rfl (D_call (g := iE) (vs := [.int .i64 (0), .int .i64 (20), jE]) en81 (.cons rfl (.cons rfl (.cons rfl .nil))) (wk81 kE oD) fun cD xE qF hs hr => ?_)
       have hfr := hfr.ext hs
       have u3 := u3.ext hs
       have o0 := o0.ext hs
       have u4_0_58 := u4_0_58.ext hs
       have u4_2_58 := u4_2_58.ext hs
       have l5 := l5.ext hs
       subst hr
       refine EL_p (.bool (!m7)) (P_not rfl) rfl ?_
       refine EL_at (.bool (!m7)) rfl rfl ?_
       refine EL_nil (thn_n ?_)
       rcases csome h with ⟨a9, h⟩ | ⟨a9, h⟩
       ·refine E_ct a9 rfl ?_
        refine E_skip ?_
        obtain rfl := sinj h
        exact hQ _ _ ⟨cD, hfr, x6, u3, t5, o0, i6, l5, u4_0_58, u4_2_58, rfl⟩
       ·refine E_cf a9 rfl ?_
        refine E_region (EL_mv x6 rfl ?_)
        refine EL_mv tB rfl ?_
        obtain ⟨bA, sD, h⟩ := bsome h
        refine EL_do .plain rfl (D_call (g := cD) (vs := [up1, .func (.func 79) #[] #[]]) en82 (.cons rfl (.cons rfl .nil)) (wk82 u3 ⟨79, #[], #[], rfl, en79, fun g' w' hch a0 b0 r hu0 hr => by exact Fn.mono (wk79 hu0  hr) fun _ _ _ h => RV_bool.2 h⟩ sD) fun lE yE rF hs hr => ?_)
        have hfr := hfr.ext hs
        have u3 := u3.ext hs
        have o0 := o0.ext hs
        have u4_0_58 := u4_0_58.ext hs
        have u4_2_58 := u4_2_58.ext hs
        have l5 := l5.ext hs
        subst hr
        refine EL_at (.bool (bA)) rfl rfl ?_
        refine EL_nil ?_
        obtain rfl := sinj h
        exact hQ _ _ ⟨lE, hfr, x6, u3, t5, o0, i6, l5, u4_0_58, u4_2_58, rfl⟩
    ·clear hx
     obtain ⟨aB, hfr, vB, yB, zB, cC, d7, y9, u4_0_96, u4_2_96, g8⟩ := hR
     rcases csome h with ⟨d9, h⟩ | ⟨d9, h⟩
     ·refine E_cond_true (Eq.trans (show ev _ _ = .bool (x5) from g8) (congrArg Value.bool d9)) ?_
      refine E_seq (E_region ?_)
      have eD : RV aB.m xD (⟨⟨[], 0⟩, []⟩ : LoomLoomMill) (.agg (setCh [[.slice none 0 0, .int .i64 0], [.slice none 0 0]] []).flatten.toArray) := RV_build rfl (rep_pair ((rep_two rep_nil rep_int)) (rep_last (rep_nil)))
      generalize k9 : (Value.agg (setCh [[.slice none 0 0, .int .i64 0], [.slice none 0 0]] []).flatten.toArray) = gD at eD
      refine EL_p gD (k9 ▸ P_build (vs := []) [[.slice none 0 0, .int .i64 0], [.slice none 0 0]] lay_96 rfl rfl .nil trivial) rfl ?_
      refine EL_do .plain rfl (D_storeOc (g := aB) (v := gD) Try.sizeOf96 d7 y9 rfl eD fun iD jD hs b99 cb => ?_)
      have oE : OSF 2004 60400 0 iD jD 3 96 ([] : List Int) p2 := cb.osf (by rw [← k9]; rfl)
      have rE : OSF 2004 60402 2 iD jD 82 96 ([] : List LoomOrder) p2 := cb.osf (by rw [← k9]; rfl)
      clear cb
      have hfr := hfr.stp hs
      refine EL_at (.int .i64 (2)) rfl rfl ?_
      refine EL_nil (thn_n (E_ret (blk_r ?_)))
      refine thn_r ?_
      obtain rfl := sinj h
      obtain ⟨ad100, cv100, hp100, eC, cr100⟩ := ob_read Try.isAgg96 Try.sizeOf96 b99
      exact endm_ct rfl rfl ((show _ = p2 from d7).trans hp100) eC (show _ = .int .i64 (2) from rfl) ⟨_, hfr, _, _, rfl, cr100, rfl⟩
     ·refine E_cond_false (Eq.trans (show ev _ _ = .bool (x5) from g8) (congrArg Value.bool d9)) ?_
      exact E_skip (blk_n (thn_n (lD ((⟨⟨[], 0⟩, []⟩ : LoomLoomMill)) _ _ ⟨aB, hfr, vB, yB, zB, cC, d7, y9, u4_0_96, u4_2_96⟩ h)))
 ·rintro z9 sE zE ⟨l9, hfr, dB, k8, iB, jB, l8, lB, u4_0_101, u4_2_101⟩ h
  refine E_seq (E_region (EL_do .plain rfl (D_load (g := l9) Try.isAgg24 Try.sizeOf24 iB jB fun n9 mB => ?_)))
  refine EL_mv dB rfl ?_
  have nB : RV l9.m _ (⟨x0, x1⟩ : LoomLoomMill) (.agg (setCh [[.slice none 0 0, .int .i64 0], [.slice none 0 0]] [(0, n9), (1, up1)]).flatten.toArray) := RV_build rfl (rep_pair (RV.cells mB) (rep_last (RV.cells k8)))
  generalize mC : (Value.agg (setCh [[.slice none 0 0, .int .i64 0], [.slice none 0 0]] [(0, n9), (1, up1)]).flatten.toArray) = oB at nB
  refine EL_p oB (mC ▸ P_build (vs := [(0, n9), (1, up1)]) [[.slice none 0 0, .int .i64 0], [.slice none 0 0]] lay_96 rfl rfl (.cons rfl (.cons rfl .nil)) ⟨⟨_, rfl, cells_size mB⟩, ⟨⟨_, rfl, cells_size k8⟩, trivial⟩⟩) rfl ?_
  refine EL_do .plain rfl (D_storeOc (g := l9) (v := oB) Try.sizeOf96 l8 lB rfl nB fun cF dF hs b104 cb => ?_)
  clear cb
  have hfr := hfr.stp hs
  refine EL_at (.int .i64 (0)) rfl rfl ?_
  refine EL_nil (thn_n (E_ret ?_))
  obtain rfl := sinj h
  obtain ⟨ad105, cv105, hp105, qC, cr105⟩ := ob_read Try.isAgg96 Try.sizeOf96 b104
  exact endm_ct rfl rfl ((show _ = p2 from l8).trans hp105) qC (show _ = .int .i64 (0) from rfl) ⟨_, hfr, _, _, rfl, cr105, rfl⟩
def f65 (x0 : LoomMill) (x1 : List LoomOrder) (x2 : List LoomRun) (x3 : LoomStop) : Option (LoomStill × Int) :=
 (f50 x0 x1).bind fun y6 =>
 Option.bind (α := Int) (
  bif (y6.2 == (0 : Int)) then
   (f78 (y6.1) x2).bind fun m7 =>
   some (m7.2)
  else
   some (y6.2)
  ) fun t5 =>
 jn (σ := LoomStill) (fun oB =>
  some ((⟨y6.1, x3⟩ : LoomStill), (0 : Int))
  ) fun lD =>
 bif (t5 != (0 : Int)) then
  some ((⟨⟨⟨[], 0⟩, []⟩, ⟨0, ⟨0, 0⟩⟩⟩ : LoomStill), t5)
 else
  (f81 ((0 : Int)) ((w64 ((((x0).Widths).length : Int) - (1 : Int)))) (([(x3).Loom] : List Int))).bind fun aB =>
  bif (!aB) then
   some ((⟨⟨⟨[], 0⟩, []⟩, ⟨0, ⟨0, 0⟩⟩⟩ : LoomStill), (7 : Int))
  else
   Option.bind (α := Bool) (
    (f71 (([((x3).Days).Low, ((x3).Days).High] : List Int))).bind fun k8 =>
    bif (!k8) then
     some ((!k8))
    else
     some ((decide (((x3).Days).Low > ((x3).Days).High)))
    ) fun x6 =>
   bif x6 then
    some ((⟨⟨⟨[], 0⟩, []⟩, ⟨0, ⟨0, 0⟩⟩⟩ : LoomStill), (2 : Int))
   else
    lD ((⟨⟨⟨[], 0⟩, []⟩, ⟨0, ⟨0, 0⟩⟩⟩ : LoomStill))
theorem en65 : Enters Try.prog 65 := enters_of Try.func65 (by kernel_rfl) rfl
theorem wk65 {gI : Gh} {wI : World} {x0 : LoomMill} {x1 : List LoomOrder} {x2 : List LoomRun} {x3 : LoomStop} {up0 : Value} (rp0 : RV gI.m wI x0 up0) {up1 : Value} (rp1 : RV gI.m wI x1 up1) {up2 : Value} (rp2 : RV gI.m wI x2 up2) {up3 : Value} (rp3 : RV gI.m wI x3 up3) {r : LoomStill × Int} (h : f65 x0 x1 x2 x3 = some r) : Fn Try.prog 65 #[up0, up1, up2, up3] gI wI (fun m w v => ∃ y0 y1, v = .tuple #[y0, y1] ∧ RV m w (r.1) y0 ∧ y1 = .int .i64 (r.2)) := by
 unfold f65 at h
 refine fn_of_E Try.func65 rfl (Nat.le_of_ble_eq_true rfl) fun g0 hm hfr => ?_
 have rp0 : RV g0.m wI x0 up0 := hm ▸ rp0
 have rp1 : RV g0.m wI x1 up1 := hm ▸ rp1
 have rp2 : RV g0.m wI x2 up2 := hm ▸ rp2
 have rp3 : RV g0.m wI x3 up3 := hm ▸ rp3
 show E _ 62 none _ _ _ _ _
 refine E_seq (E_region (EL_do .plain rfl (D_box (g := g0) rfl rp0 fun g1 w1 p1 hs q1 => ?_)))
 have hfr := hfr.ext hs
 have rp1 := rp1.ext hs
 have rp2 := rp2.ext hs
 have rp3 := rp3.ext hs
 refine EL_do .plain rfl (D_box (g := g1) rfl rp3 fun g2 w2 p2 hs q2 => ?_)
 have hfr := hfr.ext hs
 have rp1 := rp1.ext hs
 have rp2 := rp2.ext hs
 have q1 := q1.ext hs
 refine EL_do .plain rfl (D_allocOc (g := g2) 2008 (⟨⟨⟨[], 0⟩, []⟩, ⟨0, ⟨0, 0⟩⟩⟩ : LoomStill) Try.zeroValue113 (fun m w => ⟨_, (rep_two (rep_two (rep_two rep_nil rep_int) rep_nil) (rep_two rep_int (rep_two rep_int rep_int))), rfl⟩) fun g3 w3 p3 hs b3 cb => ?_)
 have hfr := hfr.stp hs
 have rp1 := rp1.stp hs
 have rp2 := rp2.stp hs
 have q1 := q1.stp hs
 have q2 := q2.stp hs
 have i6 : OSF 2008 60800 0 g3 w3 3 113 ([] : List Int) p3 := cb.osf (by rfl)
 have j6 : OSF 2008 60802 2 g3 w3 82 113 ([] : List LoomOrder) p3 := cb.osf (by rfl)
 clear cb
 refine EL_at (.int .i64 (0)) rfl rfl ?_
 refine EL_nil (thn_n (E_seq (E_region (EL_do .plain rfl (D_load (g := g3) Try.isAgg24 Try.sizeOf24 rfl q1 fun v4 r4 => ?_)))))
 refine EL_mw up1 rfl rfl ?_
 obtain ⟨y6, lE, h⟩ := bsome h
 refine EL_do .plain rfl (D_call (g := g3) (vs := [v4, up1]) en50 (.cons rfl (.cons rfl .nil)) (wk50 r4 rp1 lE) fun g5 w5_ v5 hs hr => ?_)
 have hfr := hfr.ext hs
 have rp2 := rp2.ext hs
 have q1 := q1.ext hs
 have q2 := q2.ext hs
 have i6 := i6.ext hs
 have j6 := j6.ext hs
 have b3 := b3.ext hs
 obtain ⟨n9, rF, rfl, u9, rfl⟩ := hr
 refine EL_mw (.tuple #[n9, .int .i64 (y6.2)]) rfl rfl ?_
 refine EL_p n9 (P_extract rfl rfl) rfl ?_
 refine EL_p (.int .i64 (y6.2)) (P_extract rfl rfl) rfl ?_
 refine EL_do .plain rfl (D_allocOc (g := g5) 2010 (⟨⟨[], 0⟩, []⟩ : LoomLoomMill) Try.zeroValue96 (fun m w => ⟨_, (rep_two (rep_two rep_nil rep_int) rep_nil), rfl⟩) fun g7 w7 p7 hs b7 cb => ?_)
 have hfr := hfr.stp hs
 have rp2 := rp2.stp hs
 have q1 := q1.stp hs
 have q2 := q2.stp hs
 have i6 := i6.stp hs rfl
 have j6 := j6.stp hs rfl
 have b3 := b3.stp hs rfl
 have u9 := u9.stp hs
 have sF : OSF 2010 61000 0 g7 w7 3 96 ([] : List Int) p7 := cb.osf (by rfl)
 have tF : OSF 2010 61002 2 g7 w7 82 96 ([] : List LoomOrder) p7 := cb.osf (by rfl)
 clear cb
 refine EL_do .plain rfl (D_storeOc (g := g7) (v := n9) Try.sizeOf96 rfl b7 rfl u9 fun g8 w8 hs b8 cb => ?_)
 clear cb
 have hfr := hfr.stp hs
 have rp2 := rp2.stp hs
 have q1 := q1.stp hs
 have q2 := q2.stp hs
 have i6 := i6.stp hs rfl
 have j6 := j6.stp hs rfl
 have b3 := b3.stp hs rfl
 refine EL_at (.int .i64 (y6.2)) rfl rfl ?_
 refine EL_nil (thn_n ?_)
 obtain ⟨t5, hx, h⟩ := bsome h
 refine E_join (fun e w => ∃ (g : Gh) , Fr gI wI g w ∧ e 4 = p1 ∧ PT g.m w (x0 : LoomMill) p1 ∧ e 7 = p2 ∧ PT g.m w (x3 : LoomStop) p2 ∧ e 8 = p3 ∧ OB 2008 g w 113 ((⟨⟨⟨[], 0⟩, []⟩, ⟨0, ⟨0, 0⟩⟩⟩ : LoomStill) : LoomStill) p3 ∧ OSF 2008 60800 0 g w 3 113 (((((⟨⟨⟨[], 0⟩, []⟩, ⟨0, ⟨0, 0⟩⟩⟩ : LoomStill)).mill).LoomMill).Widths) p3 ∧ OSF 2008 60802 2 g w 82 113 ((((⟨⟨⟨[], 0⟩, []⟩, ⟨0, ⟨0, 0⟩⟩⟩ : LoomStill)).mill).orders) p3 ∧ e 9 = .int .i64 (t5) ∧ e 10 = p7 ∧ OB 2010 g w 96 (y6.1 : LoomLoomMill) p7) (fun Q' hQ => ?_) (fun uF mG hR => ?_)
 ·replace h := hx
  clear hx
  refine E_seq (E_region (EL_mw (.int .i64 (y6.2)) rfl rfl ?_))
  refine EL_in (.bool ((y6.2 == (0 : Int)))) rfl rfl rfl rfl ?_
  refine EL_nil (thn_n ?_)
  rcases csome h with ⟨y9, h⟩ | ⟨y9, h⟩
  ·refine E_ct y9 rfl ?_
   refine E_region (EL_do .plain rfl (D_loadO (g := g8) Try.isAgg96 Try.sizeOf96 rfl b8 fun mE nE => ?_))
   refine EL_mw up2 rfl rfl ?_
   obtain ⟨m7, mD, h⟩ := bsome h
   refine EL_do .plain rfl (D_call (g := g8) (vs := [mE, up2]) en78 (.cons rfl (.cons rfl .nil)) (wk78 nE rp2 mD) fun oE vF nG hs hr => ?_)
   have hfr := hfr.ext hs
   have q1 := q1.ext hs
   have q2 := q2.ext hs
   have i6 := i6.ext hs
   have j6 := j6.ext hs
   have b3 := b3.ext hs
   have b8 := b8.ext hs
   obtain ⟨iF, nF, rfl, rfl, rfl⟩ := hr
   refine EL_mw (.tuple #[.int .i64 (m7.1), .int .i64 (m7.2)]) rfl rfl ?_
   refine EL_p (.int .i64 (m7.1)) (P_extract rfl rfl) rfl ?_
   refine EL_p (.int .i64 (m7.2)) (P_extract rfl rfl) rfl ?_
   refine EL_at (.int .i64 (m7.2)) rfl rfl ?_
   refine EL_nil ?_
   obtain rfl := sinj h
   exact hQ _ _ ⟨oE, hfr, rfl, q1, rfl, q2, rfl, b3, i6, j6, rfl, rfl, b8⟩
  ·refine E_cf y9 rfl ?_
   refine E_skip ?_
   obtain rfl := sinj h
   exact hQ _ _ ⟨g8, hfr, rfl, q1, rfl, q2, rfl, b3, i6, j6, rfl, rfl, b8⟩
 ·clear hx
  obtain ⟨a9, hfr, cD, dB, d7, o0, x5, u3, u8_0_17, u8_2_17, iB, d9, l5⟩ := hR
  refine E_joinC h (fun (s : LoomStill) e w => ∃ (g : Gh) , Fr gI wI g w ∧ e 7 = p2 ∧ PT g.m w (x3 : LoomStop) p2 ∧ e 8 = p3 ∧ OB 2008 g w 113 (s : LoomStill) p3 ∧ OSF 2008 60800 0 g w 3 113 ((((s).mill).LoomMill).Widths) p3 ∧ OSF 2008 60802 2 g w 82 113 (((s).mill).orders) p3 ∧ e 10 = p7 ∧ OB 2010 g w 96 (y6.1 : LoomLoomMill) p7) (fun X71 lD nD h => ?_) ?_
  ·refine E_block ?_
   refine E_seq (E_region (EL_mv iB rfl ?_))
   refine EL_in (.bool ((t5 != (0 : Int)))) rfl rfl rfl rfl ?_
   refine EL_at (.bool ((t5 != (0 : Int)))) rfl rfl ?_
   refine EL_nil (thn_n ?_)
   rcases csome h with ⟨z9, h⟩ | ⟨z9, h⟩
   ·refine E_ct z9 rfl ?_
    refine E_seq (E_region (EL_do .plain rfl (D_loadO (g := a9) Try.isAgg113 Try.sizeOf113 x5 u3 fun rE sE => ?_)))
    refine EL_mv iB rfl ?_
    refine EL_do .plain rfl (D_storeOc (g := a9) (v := rE) Try.sizeOf113 x5 u3 rfl sE fun oG sG hs b74 cb => ?_)
    clear cb
    have hfr := hfr.stp hs
    refine EL_at (.int .i64 (t5)) rfl rfl ?_
    refine EL_nil (thn_n (E_ret (blk_r ?_)))
    refine thn_r ?_
    obtain rfl := sinj h
    obtain ⟨ad75, cv75, hp75, oD, cr75⟩ := ob_read Try.isAgg113 Try.sizeOf113 b74
    exact endm_ct rfl rfl ((show _ = p3 from x5).trans hp75) oD (show _ = .int .i64 (t5) from rfl) ⟨_, hfr, _, _, rfl, cr75, rfl⟩
   ·refine E_cf z9 rfl ?_
    refine E_seq (E_region (EL_p (fPtr p1 0) (P_fieldAddr at_24_0 cD (PT.ptr dB)) rfl ?_))
    have tE := PT_field (part_LoomMill_0).1 dB
    refine EL_do .plain rfl (D_load (g := a9) Try.isAgg22 Try.sizeOf22 rfl tE fun tG uE => ?_)
    refine EL_p (.int .i64 (((x0).Widths).length : Int)) (P_len Try.underlying22 rfl uE) rfl ?_
    refine EL_p (.int .i64 ((w64 ((((x0).Widths).length : Int) - (1 : Int))))) (P_int rfl rfl rfl) rfl ?_
    refine EL_p (fPtr p2 0) (P_fieldAddr at_54_0 d7 (PT.ptr o0)) rfl ?_
    have vE := PT_field (part_LoomStop_0).1 o0
    refine EL_do .plain rfl (D_load (g := a9) Try.isAgg3 Try.sizeOf3 rfl vE fun uG xE => ?_)
    obtain rfl := RV_int.1 xE
    refine EL_do .plain rfl (D_buildSlice (g := a9) 3037 (xs := ([(x3).Loom] : List Int)) (vs := [.int .i64 ((x3).Loom)]) Try.underlying22 Try.sizeOf3 Try.zeroValue3 rfl rfl (.cons rfl .nil) (RVs.cons (RV_int.2 rfl) RVs.nil) rfl rfl fun yE vG zE hs o80 cF hxt hfl => ?_)
    have hfr := hfr.stp hs
    have o0 := o0.stp hs
    have u8_0_17 := u8_0_17.stp hs rfl
    have u8_2_17 := u8_2_17.stp hs rfl
    have u3 := u3.stp hs rfl
    have l5 := l5.stp hs rfl
    obtain ⟨aB, sD, h⟩ := bsome h
    refine EL_do .plain rfl (D_call (g := yE) (vs := [.int .i64 (0), .int .i64 ((w64 ((((x0).Widths).length : Int) - (1 : Int)))), zE]) en81 (.cons rfl (.cons rfl (.cons rfl .nil))) (wk81 cF sD) fun k9 xF xG hs hr => ?_)
    have hfr := hfr.ext hs
    have o0 := o0.ext hs
    have u8_0_17 := u8_0_17.ext hs
    have u8_2_17 := u8_2_17.ext hs
    have u3 := u3.ext hs
    have l5 := l5.ext hs
    subst hr
    refine EL_p (.bool (!aB)) (P_not rfl) rfl ?_
    refine EL_at (.bool (!aB)) rfl rfl ?_
    refine EL_nil (thn_n ?_)
    rcases csome h with ⟨bA, h⟩ | ⟨bA, h⟩
    ·refine E_ct bA rfl ?_
     refine E_seq (E_region (EL_do .plain rfl (D_loadO (g := k9) Try.isAgg113 Try.sizeOf113 x5 u3 fun dF eF => ?_)))
     refine EL_do .plain rfl (D_storeOc (g := k9) (v := dF) Try.sizeOf113 x5 u3 rfl eF fun yG zG hs b85 cb => ?_)
     clear cb
     have hfr := hfr.stp hs
     refine EL_at (.int .i64 (7)) rfl rfl ?_
     refine EL_nil (thn_n (E_ret (blk_r ?_)))
     refine thn_r ?_
     obtain rfl := sinj h
     obtain ⟨ad86, cv86, hp86, tD, cr86⟩ := ob_read Try.isAgg113 Try.sizeOf113 b85
     exact endm_ct rfl rfl ((show _ = p3 from x5).trans hp86) tD (show _ = .int .i64 (7) from rfl) ⟨_, hfr, _, _, rfl, cr86, rfl⟩
    ·refine E_cf bA rfl ?_
     obtain ⟨x6, hx, h⟩ := bsome h
     refine E_join (fun e w => ∃ (g : Gh) , Fr gI wI g w ∧ e 7 = p2 ∧ PT g.m w (x3 : LoomStop) p2 ∧ e 8 = p3 ∧ OB 2008 g w 113 ((⟨⟨⟨[], 0⟩, []⟩, ⟨0, ⟨0, 0⟩⟩⟩ : LoomStill) : LoomStill) p3 ∧ OSF 2008 60800 0 g w 3 113 (((((⟨⟨⟨[], 0⟩, []⟩, ⟨0, ⟨0, 0⟩⟩⟩ : LoomStill)).mill).LoomMill).Widths) p3 ∧ OSF 2008 60802 2 g w 82 113 ((((⟨⟨⟨[], 0⟩, []⟩, ⟨0, ⟨0, 0⟩⟩⟩ : LoomStill)).mill).orders) p3 ∧ e 10 = p7 ∧ OB 2010 g w 96 (y6.1 : LoomLoomMill) p7 ∧ e 41 = .bool (x6)) (fun Q' hQ => ?_) (fun oF yF hR => ?_)
     ·replace h := hx
      clear hx
      refine E_seq (E_region (EL_p (fPtr p2 1) (P_fieldAddr at_54_1 d7 (PT.ptr o0)) rfl ?_))
      have tB := PT_field (part_LoomStop_1).1 o0
      refine EL_p (fPtr (fPtr p2 1) 0) (P_fieldAddr at_48_0 rfl (PT.ptr tB)) rfl ?_
      have uD := PT_field (part_Span_0).1 tB
      refine EL_do .plain rfl (D_load (g := k9) Try.isAgg3 Try.sizeOf3 rfl uD fun zF vD => ?_)
      obtain rfl := RV_int.1 vD
      refine EL_p (fPtr p2 1) (P_fieldAddr at_54_1 d7 (PT.ptr o0)) rfl ?_
      have vB := PT_field (part_LoomStop_1).1 o0
      refine EL_p (fPtr (fPtr p2 1) 1) (P_fieldAddr at_48_1 rfl (PT.ptr vB)) rfl ?_
      have xD := PT_field (part_Span_1).1 vB
      refine EL_do .plain rfl (D_load (g := k9) Try.isAgg3 Try.sizeOf3 rfl xD fun aG yD => ?_)
      obtain rfl := RV_int.1 yD
      refine EL_do .plain rfl (D_buildSlice (g := k9) 3048 (xs := ([((x3).Days).Low, ((x3).Days).High] : List Int)) (vs := [.int .i64 (((x3).Days).Low), .int .i64 (((x3).Days).High)]) Try.underlying22 Try.sizeOf3 Try.zeroValue3 rfl rfl (.cons rfl (.cons rfl .nil)) (RVs.cons (RV_int.2 rfl) (RVs.cons (RV_int.2 rfl) RVs.nil)) rfl rfl fun zD bG aE hs o109 bE hxt hfl => ?_)
      have hfr := hfr.stp hs
      have o0 := o0.stp hs
      have u8_0_17 := u8_0_17.stp hs rfl
      have u8_2_17 := u8_2_17.stp hs rfl
      have u3 := u3.stp hs rfl
      have l5 := l5.stp hs rfl
      obtain ⟨k8, eD, h⟩ := bsome h
      refine EL_do .plain rfl (D_call (g := zD) (vs := [aE]) en71 (.cons rfl .nil) (wk71 bE eD) fun n8 pF cG hs hr => ?_)
      have hfr := hfr.ext hs
      have o0 := o0.ext hs
      have u8_0_17 := u8_0_17.ext hs
      have u8_2_17 := u8_2_17.ext hs
      have u3 := u3.ext hs
      have l5 := l5.ext hs
      subst hr
      refine EL_p (.bool (!k8)) (P_not rfl) rfl ?_
      refine EL_at (.bool (!k8)) rfl rfl ?_
      refine EL_nil (thn_n ?_)
      rcases csome h with ⟨r8, h⟩ | ⟨r8, h⟩
      ·refine E_ct r8 rfl ?_
       refine E_skip ?_
       obtain rfl := sinj h
       exact hQ _ _ ⟨n8, hfr, d7, o0, x5, u3, u8_0_17, u8_2_17, d9, l5, rfl⟩
      ·refine E_cf r8 rfl ?_
       refine E_region (EL_p (fPtr p2 1) (P_fieldAddr at_54_1 d7 (PT.ptr o0)) rfl ?_)
       have yB := PT_field (part_LoomStop_1).1 o0
       refine EL_p (fPtr (fPtr p2 1) 0) (P_fieldAddr at_48_0 rfl (PT.ptr yB)) rfl ?_
       have cE := PT_field (part_Span_0).1 yB
       refine EL_do .plain rfl (D_load (g := n8) Try.isAgg3 Try.sizeOf3 rfl cE fun eG dE => ?_)
       obtain rfl := RV_int.1 dE
       refine EL_p (fPtr p2 1) (P_fieldAddr at_54_1 d7 (PT.ptr o0)) rfl ?_
       have zB := PT_field (part_LoomStop_1).1 o0
       refine EL_p (fPtr (fPtr p2 1) 1) (P_fieldAddr at_48_1 rfl (PT.ptr zB)) rfl ?_
       have eE := PT_field (part_Span_1).1 zB
       refine EL_do .plain rfl (D_load (g := n8) Try.isAgg3 Try.sizeOf3 rfl eE fun gG iE => ?_)
       obtain rfl := RV_int.1 iE
       refine EL_in (.bool ((decide (((x3).Days).Low > ((x3).Days).High)))) rfl rfl rfl rfl ?_
       refine EL_at (.bool ((decide (((x3).Days).Low > ((x3).Days).High)))) rfl rfl ?_
       refine EL_nil ?_
       obtain rfl := sinj h
       exact hQ _ _ ⟨n8, hfr, d7, o0, x5, u3, u8_0_17, u8_2_17, d9, l5, rfl⟩
     ·clear hx
      obtain ⟨iA, hfr, cC, eC, i7, l8, u8_0_119, u8_2_119, jB, lB, m8⟩ := hR
      rcases csome h with ⟨v8, h⟩ | ⟨v8, h⟩
      ·refine E_cond_true (Eq.trans (show ev _ _ = .bool (x6) from m8) (congrArg Value.bool v8)) ?_
       refine E_seq (E_region (EL_do .plain rfl (D_loadO (g := iA) Try.isAgg113 Try.sizeOf113 i7 l8 fun jE kE => ?_)))
       refine EL_do .plain rfl (D_storeOc (g := iA) (v := jE) Try.sizeOf113 i7 l8 rfl kE fun hG iG hs b122 cb => ?_)
       clear cb
       have hfr := hfr.stp hs
       refine EL_at (.int .i64 (2)) rfl rfl ?_
       refine EL_nil (thn_n (E_ret (blk_r ?_)))
       refine thn_r ?_
       obtain rfl := sinj h
       obtain ⟨ad123, cv123, hp123, gD, cr123⟩ := ob_read Try.isAgg113 Try.sizeOf113 b122
       exact endm_ct rfl rfl ((show _ = p3 from i7).trans hp123) gD (show _ = .int .i64 (2) from rfl) ⟨_, hfr, _, _, rfl, cr123, rfl⟩
      ·refine E_cond_false (Eq.trans (show ev _ _ = .bool (x6) from m8) (congrArg Value.bool v8)) ?_
       exact E_skip (blk_n (thn_n (nD ((⟨⟨⟨[], 0⟩, []⟩, ⟨0, ⟨0, 0⟩⟩⟩ : LoomStill)) _ _ ⟨iA, hfr, cC, eC, i7, l8, u8_0_119, u8_2_119, jB, lB⟩ h)))
  ·rintro oB qF jG ⟨x8, hfr, mC, qC, l9, rC, u8_0_124, u8_2_124, mB, nB⟩ h
   refine E_seq (E_region (EL_do .plain rfl (D_loadO (g := x8) Try.isAgg96 Try.sizeOf96 mB nB fun rA uC => ?_)))
   refine EL_do .plain rfl (D_load (g := x8) Try.isAgg54 Try.sizeOf54 mC qC fun yA vC => ?_)
   have aD : RV x8.m _ (⟨y6.1, x3⟩ : LoomStill) (.agg (setCh [[.slice none 0 0, .int .i64 0, .slice none 0 0], [.int .i64 0, .int .i64 0, .int .i64 0]] [(0, rA), (1, yA)]).flatten.toArray) := RV_build rfl (rep_pair (RV.cells uC) (rep_last (RV.cells vC)))
   generalize iD : (Value.agg (setCh [[.slice none 0 0, .int .i64 0, .slice none 0 0], [.int .i64 0, .int .i64 0, .int .i64 0]] [(0, rA), (1, yA)]).flatten.toArray) = bD at aD
   refine EL_p bD (iD ▸ P_build (vs := [(0, rA), (1, yA)]) [[.slice none 0 0, .int .i64 0, .slice none 0 0], [.int .i64 0, .int .i64 0, .int .i64 0]] lay_113 rfl rfl (.cons rfl (.cons rfl .nil)) ⟨⟨_, rfl, cells_size uC⟩, ⟨⟨_, rfl, cells_size vC⟩, trivial⟩⟩) rfl ?_
   refine EL_do .plain rfl (D_storeOc (g := x8) (v := bD) Try.sizeOf113 l9 rC rfl aD fun kG lG hs b128 cb => ?_)
   clear cb
   have hfr := hfr.stp hs
   refine EL_at (.int .i64 (0)) rfl rfl ?_
   refine EL_nil (thn_n (E_ret ?_))
   obtain rfl := sinj h
   obtain ⟨ad129, cv129, hp129, jD, cr129⟩ := ob_read Try.isAgg113 Try.sizeOf113 b128
   exact endm_ct rfl rfl ((show _ = p3 from l9).trans hp129) jD (show _ = .int .i64 (0) from rfl) ⟨_, hfr, _, _, rfl, cr129, rfl⟩
def f17 (x0 : LoomMill) (x1 : List LoomOrder) : Option ((List LoomRun) × Int) :=
 (f50 x0 x1).bind fun y4 =>
 jn (σ := (List LoomRun)) (fun l9 =>
  jn (σ := (List LoomRun)) (fun cC =>
   jn (σ := (List LoomRun)) (fun y9 =>
    some (y9, (0 : Int))
    ) fun uC =>
   lp (σ := (List LoomRun) × (List (Int × LoomRun)) × Int) (fun vC (x5, z9, o0) =>
    bif (decide (o0 < ((x1).length : Int))) then
     jn (σ := (List LoomRun) × (List (Int × LoomRun))) (fun (r8, v8) =>
      vC (r8, v8, (w64 (o0 + (1 : Int))))
      ) fun aD =>
     jn (σ := (List LoomRun) × (List (Int × LoomRun))) (fun (bA, i6) =>
      (apnd 24 bA (([((mget i6 o0).getD (⟨0, 0, 0⟩ : LoomRun))] : List LoomRun))).bind fun nB =>
      aD (nB, i6)
      ) fun bD =>
     (f54 (y4.1) o0 z9).bind fun y132 =>
     bif (!y132.1) then
      some ([], (9 : Int))
     else
      bD (x5, y132.2)
    else
     uC (x5)
    ) big (cC, ([] : List (Int × LoomRun)), (0 : Int))
   ) fun dF =>
  (f52 (y4.1)).bind fun d9 =>
  (f51 (y4.1) d9 (([] : List (Int × LoomRun)))).bind fun m8 =>
  (f53 (y4.1)).bind fun iA =>
  (idx m8 iA).bind fun rA =>
  bif (!rA) then
   some ([], (9 : Int))
  else
   dF (l9)
  ) fun k8 =>
 bif (y4.2 != (0 : Int)) then
  some ([], y4.2)
 else
  k8 ([])
theorem en17 : Enters Try.prog 17 := enters_of Try.func17 (by kernel_rfl) rfl
theorem wk17 {gI : Gh} {wI : World} {x0 : LoomMill} {x1 : List LoomOrder} {up0 : Value} (rp0 : RV gI.m wI x0 up0) {up1 : Value} (rp1 : RV gI.m wI x1 up1) {r : (List LoomRun) × Int} (h : f17 x0 x1 = some r) : Fn Try.prog 17 #[up0, up1] gI wI (fun m w v => ∃ y0 y1, v = .tuple #[y0, y1] ∧ RV m w (r.1) y0 ∧ y1 = .int .i64 (r.2)) := by
 unfold f17 at h
 refine fn_of_E Try.func17 rfl (Nat.le_of_ble_eq_true rfl) fun g0 hm hfr => ?_
 have rp0 : RV g0.m wI x0 up0 := hm ▸ rp0
 have rp1 : RV g0.m wI x1 up1 := hm ▸ rp1
 show E _ 47 none _ _ _ _ _
 refine E_seq (E_region (EL_do .plain rfl (D_box (g := g0) rfl rp0 fun g1 w1 p1 hs q1 => ?_)))
 have hfr := hfr.ext hs
 have rp1 := rp1.ext hs
 refine EL_at (.slice none 0 0) rfl rfl ?_
 refine EL_at (.int .i64 (0)) rfl rfl ?_
 refine EL_nil (thn_n (E_seq (E_region (EL_do .plain rfl (D_load (g := g1) Try.isAgg24 Try.sizeOf24 rfl q1 fun v2 r2 => ?_)))))
 refine EL_mw up1 rfl rfl ?_
 obtain ⟨y4, iG, h⟩ := bsome h
 refine EL_do .plain rfl (D_call (g := g1) (vs := [v2, up1]) en50 (.cons rfl (.cons rfl .nil)) (wk50 r2 rp1 iG) fun g3 w3_ v3 hs hr => ?_)
 have hfr := hfr.ext hs
 have rp1 := rp1.ext hs
 obtain ⟨oB, dH, rfl, tB, rfl⟩ := hr
 refine EL_mw (.tuple #[oB, .int .i64 (y4.2)]) rfl rfl ?_
 refine EL_p oB (P_extract rfl rfl) rfl ?_
 refine EL_p (.int .i64 (y4.2)) (P_extract rfl rfl) rfl ?_
 refine EL_do .plain rfl (D_allocOc (g := g3) 2006 (⟨⟨[], 0⟩, []⟩ : LoomLoomMill) Try.zeroValue96 (fun m w => ⟨_, (rep_two (rep_two rep_nil rep_int) rep_nil), rfl⟩) fun g5 w5 p5 hs b5 cb => ?_)
 have hfr := hfr.stp hs
 have rp1 := rp1.stp hs
 have tB := tB.stp hs
 have gH : OSF 2006 60600 0 g5 w5 3 96 ([] : List Int) p5 := cb.osf (by rfl)
 have iH : OSF 2006 60602 2 g5 w5 82 96 ([] : List LoomOrder) p5 := cb.osf (by rfl)
 clear cb
 refine EL_do .plain rfl (D_storeOc (g := g5) (v := oB) Try.sizeOf96 rfl b5 rfl tB fun g6 w6 hs b6 cb => ?_)
 clear cb
 have hfr := hfr.stp hs
 have rp1 := rp1.stp hs
 refine EL_at (.int .i64 (y4.2)) rfl rfl ?_
 refine EL_nil (thn_n (E_joinC h (fun (s : (List LoomRun)) e w => ∃ (g : Gh) (v4 : Value), Fr gI wI g w ∧ e 1 = up1 ∧ RV g.m w (x1 : List LoomOrder) up1 ∧ e 4 = v4 ∧ RV g.m w (s : List LoomRun) v4 ∧ OS 1004 g w 76 (s : List LoomRun) v4 ∧ e 6 = p5 ∧ OB 2006 g w 96 (y4.1 : LoomLoomMill) p5) (fun X8 k8 jG h => ?_) ?_))
 ·refine E_seq (E_region (EL_mw (.int .i64 (y4.2)) rfl rfl ?_))
  refine EL_in (.bool ((y4.2 != (0 : Int)))) rfl rfl rfl rfl ?_
  refine EL_nil (thn_n ?_)
  rcases csome h with ⟨cD, h⟩ | ⟨cD, h⟩
  ·refine E_ct cD rfl ?_
   refine E_seq (E_region (EL_mw (.int .i64 (y4.2)) rfl rfl ?_))
   refine EL_at (.slice none 0 0) rfl rfl ?_
   refine EL_at (.int .i64 (y4.2)) rfl rfl ?_
   refine EL_nil (thn_n (E_ret (thn_r ?_)))
   obtain rfl := sinj h
   exact end2 rfl rfl (show _ = .slice none 0 0 from rfl) (show _ = .int .i64 (y4.2) from rfl) ⟨_, hfr, _, _, rfl, RV_nil, rfl⟩
  ·refine E_cf cD rfl ?_
   exact E_skip (thn_n (jG ([]) _ _ ⟨g6, (.slice none 0 0), hfr, rfl, rp1, rfl, RV_nil, OS.nil, rfl, b6⟩ h))
 ·rintro l9 jH xH ⟨kG, cE, hfr, dE, x6, eE, y6, d7, n8, u3⟩ h
  refine E_seq (E_region (EL_do .plain rfl (D_makeMap (g := kG) (Value.int .i64) LoomRun 8018 fun lG yH t5 hs m11 => ?_)))
  have hfr := hfr.stp hs
  have x6 := x6.stp hs
  have y6 := y6.stp hs
  have d7 := d7.stp hs rfl
  have u3 := u3.stp hs rfl
  refine EL_at t5 rfl rfl ?_
  refine EL_nil (thn_n (E_joinC h (fun (s : (List LoomRun)) e w => ∃ (g : Gh) (v4 : Value), Fr gI wI g w ∧ e 1 = up1 ∧ RV g.m w (x1 : List LoomOrder) up1 ∧ e 4 = v4 ∧ RV g.m w (s : List LoomRun) v4 ∧ OS 1004 g w 76 (s : List LoomRun) v4 ∧ e 6 = p5 ∧ OB 2006 g w 96 (y4.1 : LoomLoomMill) p5 ∧ e 7 = t5 ∧ MP (Value.int .i64) 8018 g w (([] : List (Int × LoomRun)) : List (Int × LoomRun)) t5) (fun X41 dF oF h => ?_) ?_))
  ·refine E_seq (L_loadO0 (x := .tmp 6) Try.isAgg96 Try.sizeOf96 u3 fun eF mG pF => ?_)
   refine L_loadO0 (x := .tmp 6) Try.isAgg96 Try.sizeOf96 u3 fun iF nG qF => ?_
   obtain ⟨d9, rF, h⟩ := bsome h
   obtain ⟨m8, sF, h⟩ := bsome h
   refine L_loadO0 (x := .tmp 6) Try.isAgg96 Try.sizeOf96 u3 fun nF oG tF => ?_
   obtain ⟨iA, uF, h⟩ := bsome h
   obtain ⟨rA, vB, h⟩ := bsome h
   refine E_drawL (g := lG) (n := 10) [(2, (fun v g w => RV g.m w d9 v)), (4, (fun v g w => RV g.m w m8 v)), (6, (fun v g w => v = .int .i64 (iA))), (8, (fun v _ _ => v = .bool (rA)))] [0, 1, 2, 3, 4, 5, 6, 7, 8, 9] rfl mixed (by kernel_rfl) (⟨fun _ => up_rv, fun _ => up_rv, fun _ => up_eq _, fun _ => up_eq _, trivial⟩) ?_
   refine L_ld (c := eF) rfl rfl .plain (fun _ _ h => ⟨h.ch, fun b hb _ => h.below.block b hb⟩) pF n8 ?_
   refine L_ld (c := iF) rfl rfl .plain (fun _ _ h => ⟨h.ch, fun b hb _ => h.below.block b hb⟩) qF n8 ?_
   refine L_do (φ := fun v g w => RV g.m w d9 v) rfl rfl .plain (fun g w hd => D_call (g := g) (vs := [iF]) en52 (.cons rfl .nil) (wk52 (nG.ext hd.1) rF) fun g' w' v hs hr => ⟨g', hs, hr⟩) (fun eD hv => ?_)
   obtain ⟨_, _, _, rq44⟩ := hv
   refine L_p t5 rfl rfl (P_move rfl) ?_
   refine L_do (φ := fun v g w => RV g.m w m8 v) rfl rfl .plain (fun g w hd => D_call (g := g) (vs := [eF, eD, t5]) en51 (.cons rfl (.cons rfl (.cons rfl .nil))) (wk51 (mG.ext hd.1) (word (A := fun g w => RV g.m w d9 eD) 2 rfl rfl (deps_of hd)) (m11.ext hd.1).r sF) fun g' w' v hs hr => ⟨g', hs, hr⟩) (fun yA hv => ?_)
   obtain ⟨_, _, _, rq46⟩ := hv
   refine L_ld (c := nF) rfl rfl .plain (fun _ _ h => ⟨h.ch, fun b hb _ => h.below.block b hb⟩) tF n8 ?_
   refine L_do (φ := fun v g w => v = .int .i64 (iA)) rfl rfl .plain (fun g w hd => D_call (g := g) (vs := [nF]) en53 (.cons rfl .nil) (wk53 (oG.ext hd.1) uF) fun g' w' v hs hr => ⟨g', hs, hr⟩) (fun zH hv => ?_)
   obtain ⟨_, _, _, rfl⟩ := hv
   refine L_pur (c := ePtr yA iA 1) rfl rfl .plain (fun _ _ hd => P_indexAddr (α := Bool) Try.underlying101 Try.sizeOf4 rfl (word (A := fun g w => RV g.m w m8 yA) 4 rfl rfl (deps_of hd)) rfl vB) ?_
   refine L_do (φ := (fun v _ _ => v = .bool (rA))) rfl rfl .plain (fun g w hd => D_load (g := g) Try.isAgg4 Try.sizeOf4 rfl (PT_idx (word (A := fun g w => RV g.m w m8 yA) 4 rfl rfl (hop 7 rfl rfl (deps_of hd))) vB) fun v r => ⟨g, Ext.refl g w, RV_bool.1 r⟩) (fun aI hv => ?_)
   obtain ⟨_, _, _, rfl⟩ := hv
   refine L_p (.bool (!rA)) rfl rfl (P_not rfl) ?_
   refine L_nil fun sG bI hall => ?_
   have hs := hall.1
   have hfr := hfr.ext hs
   have x6 := x6.ext hs
   have y6 := y6.ext hs
   have d7 := d7.ext hs
   have u3 := u3.ext hs
   have m11 := m11.ext hs
   have dI := (word_all (A := fun g w => RV g.m w d9 eD) 2 rfl hall)
   have iI := (word_all (A := fun g w => RV g.m w m8 yA) 4 rfl hall)
   have jI := (PT_idx (word_all (A := fun g w => RV g.m w m8 yA) 4 rfl hall) vB)
   clear hs hall
   refine EL_nil (thn_n ?_)
   rcases csome h with ⟨yB, h⟩ | ⟨yB, h⟩
   ·refine E_ct yB rfl ?_
    refine E_seq (E_region (EL_at (.slice none 0 0) rfl rfl ?_))
    refine EL_at (.int .i64 (9)) rfl rfl ?_
    refine EL_nil (thn_n (E_ret (thn_r ?_)))
    obtain rfl := sinj h
    exact end2 rfl rfl (show _ = .slice none 0 0 from rfl) (show _ = .int .i64 (9) from rfl) ⟨_, hfr, _, _, rfl, RV_nil, rfl⟩
   ·refine E_cf yB rfl ?_
    exact E_skip (thn_n (oF (l9) _ _ ⟨sG, (cE), hfr, dE, x6, eE, y6, d7, n8, u3, rfl, m11⟩ h))
  ·rintro cC kH kI ⟨tG, iE, hfr, jE, kE, lE, mE, nE, oE, rE, sE, tE⟩ h
   refine E_joinC h (fun (s : (List LoomRun)) e w => ∃ (g : Gh) (v4 : Value), Fr gI wI g w ∧ e 4 = v4 ∧ RV g.m w (s : List LoomRun) v4 ∧ OS 1004 g w 76 (s : List LoomRun) v4) (fun X106 uC uE h => ?_) ?_
   ·refine E_seq (E_region (EL_mv jE rfl ?_))
    refine EL_p (.int .i64 ((x1).length : Int)) (P_len Try.underlying25 rfl kE) rfl ?_
    refine EL_mw (.int .i64 (0)) rfl rfl ?_
    refine EL_nil (thn_n (E_block ?_))
    refine E_lp h (fun (s : (List LoomRun) × (List (Int × LoomRun)) × Int) e w => ∃ (g : Gh) (v4 : Value), Fr gI wI g w ∧ e 4 = v4 ∧ RV g.m w (s.1 : List LoomRun) v4 ∧ OS 1004 g w 76 (s.1 : List LoomRun) v4 ∧ e 6 = p5 ∧ OB 2006 g w 96 (y4.1 : LoomLoomMill) p5 ∧ e 7 = t5 ∧ MP (Value.int .i64) 8018 g w (s.2.1 : List (Int × LoomRun)) t5 ∧ e 30 = .int .i64 (((x1).length : Int)) ∧ e 31 = .int .i64 (s.2.2)) ⟨tG, (iE), hfr, lE, mE, nE, oE, rE, sE, tE, rfl, rfl⟩ (fun X107 vC vE => ?_)
    rintro ⟨x5, z9, o0⟩ xG lH ⟨zB, aB, hfr, dB, i7, m7, iB, g8, jB, gD, k9, l8⟩ h
    refine E_seq (E_region (EL_in (.bool ((decide (o0 < ((x1).length : Int))))) l8 k9 rfl rfl ?_))
    refine EL_nil (thn_n (E_seq ?_))
    rcases csome h with ⟨n9, h⟩ | ⟨n9, h⟩
    ·refine E_ct n9 rfl ?_
     refine E_skip (thn_n (E_joinC h (fun (s : (List LoomRun) × (List (Int × LoomRun))) e w => ∃ (g : Gh) (v4 : Value), Fr gI wI g w ∧ e 4 = v4 ∧ RV g.m w (s.1 : List LoomRun) v4 ∧ OS 1004 g w 76 (s.1 : List LoomRun) v4 ∧ e 6 = p5 ∧ OB 2006 g w 96 (y4.1 : LoomLoomMill) p5 ∧ e 7 = t5 ∧ MP (Value.int .i64) 8018 g w (s.2 : List (Int × LoomRun)) t5 ∧ e 30 = .int .i64 (((x1).length : Int)) ∧ e 31 = .int .i64 (o0)) (fun X124 aD xE h => ?_) ?_))
     ·refine E_block ?_
      refine E_seq (E_region (EL_mv l8 rfl ?_))
      refine EL_at (.int .i64 (o0)) rfl rfl ?_
      refine EL_nil (thn_n (E_joinC h (fun (s : (List LoomRun) × (List (Int × LoomRun))) e w => ∃ (g : Gh) (v4 : Value), Fr gI wI g w ∧ e 4 = v4 ∧ RV g.m w (s.1 : List LoomRun) v4 ∧ OS 1004 g w 76 (s.1 : List LoomRun) v4 ∧ e 6 = p5 ∧ OB 2006 g w 96 (y4.1 : LoomLoomMill) p5 ∧ e 7 = t5 ∧ MP (Value.int .i64) 8018 g w (s.2 : List (Int × LoomRun)) t5 ∧ e 8 = .int .i64 (o0) ∧ e 30 = .int .i64 (((x1).length : Int)) ∧ e 31 = .int .i64 (o0)) (fun X129 bD yE h => ?_) ?_))
      ·refine E_seq (E_region (EL_do .plain rfl (D_loadO (g := zB) Try.isAgg96 Try.sizeOf96 iB g8 fun vF xF => ?_)))
       refine EL_mw (.int .i64 (o0)) rfl rfl ?_
       refine EL_mv jB rfl ?_
       obtain ⟨y132, zE, h⟩ := bsome h
       refine EL_do .plain rfl (D_callM (g := zB) (i := 8018) (vs := [vF, .int .i64 (o0), t5]) en54 (.cons rfl (.cons rfl (.cons rfl .nil))) (wk54 xF gD zE) fun yF yG mH hs hr => ?_)
       obtain ⟨hrv, b131⟩ := hr
       have hfr := hfr.stp hs
       have i7 := i7.stp hs
       have m7 := m7.stp hs rfl
       have g8 := g8.stp hs rfl
       subst hrv
       refine EL_p (.bool (!y132.1)) (P_not rfl) rfl ?_
       refine EL_nil (thn_n ?_)
       rcases csome h with ⟨u9, h⟩ | ⟨u9, h⟩
       ·refine E_ct u9 rfl ?_
        refine E_seq (E_region (EL_at (.slice none 0 0) rfl rfl ?_))
        refine EL_at (.int .i64 (9)) rfl rfl ?_
        refine EL_nil (thn_n (E_ret (thn_r ?_)))
        refine blk_r ?_
        refine thn_r ?_
        refine thn_r ?_
        refine blk_r ?_
        refine thn_r ?_
        obtain rfl := sinj h
        exact end2 rfl rfl (show _ = .slice none 0 0 from rfl) (show _ = .int .i64 (9) from rfl) ⟨_, hfr, _, _, rfl, RV_nil, rfl⟩
       ·refine E_cf u9 rfl ?_
        exact E_skip (thn_n (yE (x5, y132.2) _ _ ⟨yF, (aB), hfr, dB, i7, m7, iB, g8, jB, b131, rfl, k9, l8⟩ h))
      ·rintro ⟨bA, i6⟩ zG nH ⟨iD, uG, hfr, jD, x8, a9, lD, j6, lB, l5, mD, eC, mC⟩ h
       refine E_region (EL_mv jD rfl ?_)
       refine EL_mv lB rfl ?_
       refine EL_mv mD rfl ?_
       refine EL_do .plain rfl (D_lookup (g := iD) (z0 := (⟨0, 0, 0⟩ : LoomRun)) Try.underlying100 key_3 Try.zeroValue76 (fun m w => ⟨_, (rep_two rep_int (rep_two rep_int rep_int)), rfl⟩) rfl l5 rfl fun zF aG => ?_)
       refine EL_do .plain rfl (D_buildSlice (g := iD) 3043 (xs := ([((mget i6 o0).getD (⟨0, 0, 0⟩ : LoomRun))] : List LoomRun)) (vs := [zF]) Try.underlying31 Try.sizeOf76 Try.zeroValue76 rfl rfl (.cons rfl .nil) (RVs.cons aG RVs.nil) rfl rfl fun bG oH pH hs o136 cG hxt hfl => ?_)
       have hfr := hfr.stp hs
       have x8 := x8.stp hs
       have a9 := a9.stp hs rfl
       have j6 := j6.stp hs rfl
       have l5 := l5.stp hs rfl
       obtain ⟨nB, cF, h⟩ := bsome h
       refine EL_do .plain rfl (D_append (g := bG) (i := 1004) Try.underlying31 info_76 rfl rfl a9 x8 rfl cG cF fun eG qH nD hs o137 gG _ => ?_)
       have hfr := hfr.stp hs
       have j6 := j6.stp hs rfl
       have l5 := l5.stp hs rfl
       refine EL_at nD rfl rfl ?_
       exact EL_nil (blk_n (thn_n (xE (nB, i6) _ _ ⟨eG, (nD), hfr, rfl, gG, o137, lD, j6, lB, l5, eC, mC⟩ h)))
     ·rintro ⟨r8, v8⟩ aH sH ⟨hG, oD, hfr, sD, tD, uD, vD, xD, yD, zD, qC, rC⟩ h
      refine E_region (EL_in (.int .i64 ((w64 (o0 + (1 : Int))))) rC rfl rfl rfl ?_)
      refine EL_mw (.int .i64 ((w64 (o0 + (1 : Int))))) rfl rfl ?_
      exact EL_nil (thn_n (vE (r8, v8, (w64 (o0 + (1 : Int)))) _ _ ⟨hG, (oD), hfr, sD, tD, uD, vD, xD, yD, zD, qC, rfl⟩ h))
    ·refine E_cf n9 rfl ?_
     refine E_exit ?_
     refine thn_e ?_
     refine thn_e ?_
     refine blk_hit ?_
     exact thn_n (uE (x5) _ _ ⟨zB, (aB), hfr, dB, i7, m7⟩ h)
   ·rintro y9 cH tH ⟨uH, mB, hfr, aE, bE, vG⟩ h
    refine E_seq (E_region (EL_mv aE rfl ?_))
    refine EL_at mB rfl rfl ?_
    refine EL_at (.int .i64 (0)) rfl rfl ?_
    refine EL_nil (thn_n (E_ret ?_))
    obtain rfl := sinj h
    exact end2 rfl rfl (show _ = mB from rfl) (show _ = .int .i64 (0) from rfl) ⟨_, hfr, _, _, rfl, bE, rfl⟩
def f23 (x0 : LoomMill) (x1 : List LoomOrder) : Option ((List Int) × Int) :=
 (f50 x0 x1).bind fun y4 =>
 jn (σ := Unit) (fun _ =>
  (f52 (y4.1)).bind fun t5 =>
  (f51 (y4.1) t5 ([])).bind fun x5 =>
  (f55 (((x1).length : Int)) ((fun a0 => f56 a0 x5))).bind fun l5 =>
  jn (σ := Unit) (fun _ =>
   some (l5.1, (0 : Int))
   ) fun v8 =>
  bif (!l5.2) then
   some ([], (7 : Int))
  else
   v8 ()
  ) fun k8 =>
 bif (y4.2 != (0 : Int)) then
  some ([], y4.2)
 else
  k8 ()
theorem en23 : Enters Try.prog 23 := enters_of Try.func23 (by kernel_rfl) rfl
theorem wk23 {gI : Gh} {wI : World} {x0 : LoomMill} {x1 : List LoomOrder} {up0 : Value} (rp0 : RV gI.m wI x0 up0) {up1 : Value} (rp1 : RV gI.m wI x1 up1) {r : (List Int) × Int} (h : f23 x0 x1 = some r) : Fn Try.prog 23 #[up0, up1] gI wI (fun m w v => ∃ y0 y1, v = .tuple #[y0, y1] ∧ RV m w (r.1) y0 ∧ y1 = .int .i64 (r.2)) := by
 unfold f23 at h
 refine fn_of_E Try.func23 rfl (Nat.le_of_ble_eq_true rfl) fun g0 hm hfr => ?_
 have rp0 : RV g0.m wI x0 up0 := hm ▸ rp0
 have rp1 : RV g0.m wI x1 up1 := hm ▸ rp1
 show E _ 34 none _ _ _ _ _
 refine E_seq (E_region (EL_do .plain rfl (D_box (g := g0) rfl rp0 fun g1 w1 p1 hs q1 => ?_)))
 have hfr := hfr.ext hs
 have rp1 := rp1.ext hs
 refine EL_at (.slice none 0 0) rfl rfl ?_
 refine EL_at (.int .i64 (0)) rfl rfl ?_
 refine EL_nil (thn_n (E_seq (E_region (EL_do .plain rfl (D_load (g := g1) Try.isAgg24 Try.sizeOf24 rfl q1 fun v2 r2 => ?_)))))
 refine EL_mw up1 rfl rfl ?_
 obtain ⟨y4, z9, h⟩ := bsome h
 refine EL_do .plain rfl (D_call (g := g1) (vs := [v2, up1]) en50 (.cons rfl (.cons rfl .nil)) (wk50 r2 rp1 z9) fun g3 w3_ v3 hs hr => ?_)
 have hfr := hfr.ext hs
 have rp1 := rp1.ext hs
 obtain ⟨j6, lB, rfl, x6, rfl⟩ := hr
 refine EL_mw (.tuple #[j6, .int .i64 (y4.2)]) rfl rfl ?_
 refine EL_p j6 (P_extract rfl rfl) rfl ?_
 refine EL_p (.int .i64 (y4.2)) (P_extract rfl rfl) rfl ?_
 refine EL_do .plain rfl (D_allocOc (g := g3) 2006 (⟨⟨[], 0⟩, []⟩ : LoomLoomMill) Try.zeroValue96 (fun m w => ⟨_, (rep_two (rep_two rep_nil rep_int) rep_nil), rfl⟩) fun g5 w5 p5 hs b5 cb => ?_)
 have hfr := hfr.stp hs
 have rp1 := rp1.stp hs
 have x6 := x6.stp hs
 have mB : OSF 2006 60600 0 g5 w5 3 96 ([] : List Int) p5 := cb.osf (by rfl)
 have nB : OSF 2006 60602 2 g5 w5 82 96 ([] : List LoomOrder) p5 := cb.osf (by rfl)
 clear cb
 refine EL_do .plain rfl (D_storeOc (g := g5) (v := j6) Try.sizeOf96 rfl b5 rfl x6 fun g6 w6 hs b6 cb => ?_)
 clear cb
 have hfr := hfr.stp hs
 have rp1 := rp1.stp hs
 refine EL_at (.int .i64 (y4.2)) rfl rfl ?_
 refine EL_nil (thn_n (E_joinC h (fun (s : Unit) e w => ∃ (g : Gh) , Fr gI wI g w ∧ e 1 = up1 ∧ RV g.m w (x1 : List LoomOrder) up1 ∧ e 6 = p5 ∧ OB 2006 g w 96 (y4.1 : LoomLoomMill) p5) (fun X8 k8 bA h => ?_) ?_))
 ·refine E_seq (E_region (EL_mw (.int .i64 (y4.2)) rfl rfl ?_))
  refine EL_in (.bool ((y4.2 != (0 : Int)))) rfl rfl rfl rfl ?_
  refine EL_nil (thn_n ?_)
  rcases csome h with ⟨m7, h⟩ | ⟨m7, h⟩
  ·refine E_ct m7 rfl ?_
   refine E_seq (E_region (EL_mw (.int .i64 (y4.2)) rfl rfl ?_))
   refine EL_at (.slice none 0 0) rfl rfl ?_
   refine EL_at (.int .i64 (y4.2)) rfl rfl ?_
   refine EL_nil (thn_n (E_ret (thn_r ?_)))
   obtain rfl := sinj h
   exact end2 rfl rfl (show _ = .slice none 0 0 from rfl) (show _ = .int .i64 (y4.2) from rfl) ⟨_, hfr, _, _, rfl, RV_nil, rfl⟩
  ·refine E_cf m7 rfl ?_
   exact E_skip (thn_n (bA () _ _ ⟨g6, hfr, rfl, rp1, rfl, b6⟩ h))
 ·rintro _ oB yB ⟨iA, hfr, l8, o0, d7, i7⟩ h
  refine E_seq (L_loadO0 (x := .tmp 6) Try.isAgg96 Try.sizeOf96 i7 fun x8 rA k9 => ?_)
  refine L_loadO0 (x := .tmp 6) Try.isAgg96 Try.sizeOf96 i7 fun a9 yA hl12 => ?_
  obtain ⟨t5, l9, h⟩ := bsome h
  obtain ⟨x5, n9, h⟩ := bsome h
  refine E_drawL (g := iA) (n := 5) [(2, (fun v g w => RV g.m w t5 v)), (3, (fun v g w => RV g.m w x5 v)), (4, (fun v g w => OB 2008 g w 101 ([] : List Bool) v))] [0, 1, 2, 3, 4] rfl mixed (by kernel_rfl) (⟨fun _ => up_rv, fun _ => up_rv, fun _ => up_ob, trivial⟩) ?_
  refine L_ld (c := x8) rfl rfl .plain (fun _ _ h => ⟨h.ch, fun b hb _ => h.below.block b hb⟩) k9 d7 ?_
  refine L_ld (c := a9) rfl rfl .plain (fun _ _ h => ⟨h.ch, fun b hb _ => h.below.block b hb⟩) hl12 d7 ?_
  refine L_do (φ := fun v g w => RV g.m w t5 v) rfl rfl .plain (fun g w hd => D_call (g := g) (vs := [a9]) en52 (.cons rfl .nil) (wk52 (yA.ext hd.1) l9) fun g' w' v hs hr => ⟨g', hs, hr⟩) (fun g8 hv => ?_)
  obtain ⟨_, _, _, rq13⟩ := hv
  refine L_do (φ := fun v g w => RV g.m w x5 v) rfl rfl .plain (fun g w hd => D_call (g := g) (vs := [x8, g8, .map none]) en51 (.cons rfl (.cons rfl (.cons rfl .nil))) (wk51 (rA.ext hd.1) (word (A := fun g w => RV g.m w t5 g8) 2 rfl rfl (deps_of hd)) MR.nil n9) fun g' w' v hs hr => ⟨g', hs, hr⟩) (fun d9 hv => ?_)
  obtain ⟨_, _, _, rq15⟩ := hv
  refine L_do (φ := fun v g w => OB 2008 g w 101 ([] : List Bool) v) rfl rfl .plain (fun g w hd => D_allocX (g := g) 2008 ([] : List Bool) Try.zeroValue101 (fun m w => ⟨_, rep_nil, rfl⟩) fun g' w' v hs b => ⟨g', hs, b⟩) (fun i6 hv => ?_)
  clear hv
  refine L_nil fun aB zB hall => ?_
  have hs := hall.1
  have hfr := hfr.ext hs
  have o0 := o0.ext hs
  have cC := (word_all (A := fun g w => RV g.m w t5 g8) 2 rfl hall)
  have dB := (word_all (A := fun g w => RV g.m w x5 d9) 3 rfl hall)
  have b25 := (word_all (A := fun g w => OB 2008 g w 101 ([] : List Bool) i6) 4 rfl hall)
  clear hs hall
  refine EL_do .plain rfl (D_storeOc (g := aB) (v := d9) Try.sizeOf101 rfl b25 rfl dB fun eC mC hs b26 cb => ?_)
  clear cb
  have hfr := hfr.stp hs
  have o0 := o0.stp hs
  obtain ⟨gp26, hs, qp26⟩ := OB.pub b26
  have hfr := hfr.stp hs
  have o0 := o0.stp hs
  refine EL_nil (thn_n (E_seq (E_region (EL_mv l8 rfl ?_))))
  refine EL_p (.int .i64 ((x1).length : Int)) (P_len Try.underlying25 rfl o0) rfl ?_
  refine EL_p ((.func (.func 56) #[] #[i6])) (P_makeFunc (capf_0_1 (show ev _ _ = i6 from rfl))) rfl ?_
  obtain ⟨l5, u9, h⟩ := bsome h
  refine EL_do .plain rfl (D_call (g := gp26) (vs := [.int .i64 ((x1).length : Int), (.func (.func 56) #[] #[i6])]) en55 (.cons rfl (.cons rfl .nil)) (wk55 ⟨56, #[], #[i6], rfl, en56, fun g' w' hch a0 b0 r hu0 hr => by obtain rfl := RV_int.1 hu0; exact Fn.mono (wk56  (qp26.ch hch) hr) fun _ _ _ h => RV_bool.2 h⟩ u9) fun iB tB qC hs hr => ?_)
  have hfr := hfr.ext hs
  obtain ⟨u3, jB, rfl, m8, rfl⟩ := hr
  refine EL_mw (.tuple #[u3, .bool (l5.2)]) rfl rfl ?_
  refine EL_p u3 (P_extract rfl rfl) rfl ?_
  refine EL_p (.bool (l5.2)) (P_extract rfl rfl) rfl ?_
  refine EL_at u3 rfl rfl ?_
  refine EL_at (.bool (l5.2)) rfl rfl ?_
  refine EL_nil (thn_n (E_joinC h (fun (s : Unit) e w => ∃ (g : Gh) , Fr gI wI g w ∧ e 9 = u3 ∧ RV g.m w (l5.1 : List Int) u3) (fun X30 v8 y9 h => ?_) ?_))
  ·refine E_seq (E_region (EL_mw (.bool (l5.2)) rfl rfl ?_))
   refine EL_p (.bool (!l5.2)) (P_not rfl) rfl ?_
   refine EL_nil (thn_n ?_)
   rcases csome h with ⟨y6, h⟩ | ⟨y6, h⟩
   ·refine E_ct y6 rfl ?_
    refine E_seq (E_region (EL_at (.slice none 0 0) rfl rfl ?_))
    refine EL_at (.int .i64 (7)) rfl rfl ?_
    refine EL_nil (thn_n (E_ret (thn_r ?_)))
    obtain rfl := sinj h
    exact end2 rfl rfl (show _ = .slice none 0 0 from rfl) (show _ = .int .i64 (7) from rfl) ⟨_, hfr, _, _, rfl, RV_nil, rfl⟩
   ·refine E_cf y6 rfl ?_
    exact E_skip (thn_n (y9 () _ _ ⟨iB, hfr, rfl, m8⟩ h))
  ·rintro _ vB rC ⟨uC, hfr, n8, r8⟩ h
   refine E_seq (E_region (EL_mv n8 rfl ?_))
   refine EL_at u3 rfl rfl ?_
   refine EL_at (.int .i64 (0)) rfl rfl ?_
   refine EL_nil (thn_n (E_ret ?_))
   obtain rfl := sinj h
   exact end2 rfl rfl (show _ = u3 from rfl) (show _ = .int .i64 (0) from rfl) ⟨_, hfr, _, _, rfl, r8, rfl⟩
def f24 (x0 : LoomMill) (x1 : List LoomOrder) : Option ((List Int) × Int) :=
 (f50 x0 x1).bind fun y4 =>
 jn (σ := Unit) (fun _ =>
  (f52 (y4.1)).bind fun t5 =>
  (f51 (y4.1) t5 ([])).bind fun i6 =>
  (f55 (((x1).length : Int)) ((fun a0 => f57 a0 i6 (y4.1)))).bind fun j6 =>
  some (j6.1, (0 : Int))
  ) fun k8 =>
 bif (y4.2 != (0 : Int)) then
  some ([], y4.2)
 else
  k8 ()
theorem en24 : Enters Try.prog 24 := enters_of Try.func24 (by kernel_rfl) rfl
theorem wk24 {gI : Gh} {wI : World} {x0 : LoomMill} {x1 : List LoomOrder} {up0 : Value} (rp0 : RV gI.m wI x0 up0) {up1 : Value} (rp1 : RV gI.m wI x1 up1) {r : (List Int) × Int} (h : f24 x0 x1 = some r) : Fn Try.prog 24 #[up0, up1] gI wI (fun m w v => ∃ y0 y1, v = .tuple #[y0, y1] ∧ RV m w (r.1) y0 ∧ y1 = .int .i64 (r.2)) := by
 unfold f24 at h
 refine fn_of_E Try.func24 rfl (Nat.le_of_ble_eq_true rfl) fun g0 hm hfr => ?_
 have rp0 : RV g0.m wI x0 up0 := hm ▸ rp0
 have rp1 : RV g0.m wI x1 up1 := hm ▸ rp1
 show E _ 32 none _ _ _ _ _
 refine E_seq (E_region (EL_do .plain rfl (D_box (g := g0) rfl rp0 fun g1 w1 p1 hs q1 => ?_)))
 have hfr := hfr.ext hs
 have rp1 := rp1.ext hs
 refine EL_at (.slice none 0 0) rfl rfl ?_
 refine EL_at (.int .i64 (0)) rfl rfl ?_
 refine EL_nil (thn_n (E_seq (E_region (EL_do .plain rfl (D_load (g := g1) Try.isAgg24 Try.sizeOf24 rfl q1 fun v2 r2 => ?_)))))
 refine EL_mw up1 rfl rfl ?_
 obtain ⟨y4, k9, h⟩ := bsome h
 refine EL_do .plain rfl (D_call (g := g1) (vs := [v2, up1]) en50 (.cons rfl (.cons rfl .nil)) (wk50 r2 rp1 k9) fun g3 w3_ v3 hs hr => ?_)
 have hfr := hfr.ext hs
 have rp1 := rp1.ext hs
 obtain ⟨y6, rA, rfl, d7, rfl⟩ := hr
 refine EL_mw (.tuple #[y6, .int .i64 (y4.2)]) rfl rfl ?_
 refine EL_p y6 (P_extract rfl rfl) rfl ?_
 refine EL_p (.int .i64 (y4.2)) (P_extract rfl rfl) rfl ?_
 refine EL_do .plain rfl (D_allocOc (g := g3) 2006 (⟨⟨[], 0⟩, []⟩ : LoomLoomMill) Try.zeroValue96 (fun m w => ⟨_, (rep_two (rep_two rep_nil rep_int) rep_nil), rfl⟩) fun g5 w5 p5 hs b5 cb => ?_)
 have hfr := hfr.stp hs
 have rp1 := rp1.stp hs
 have d7 := d7.stp hs
 have yA : OSF 2006 60600 0 g5 w5 3 96 ([] : List Int) p5 := cb.osf (by rfl)
 have aB : OSF 2006 60602 2 g5 w5 82 96 ([] : List LoomOrder) p5 := cb.osf (by rfl)
 clear cb
 refine EL_do .plain rfl (D_storeOc (g := g5) (v := y6) Try.sizeOf96 rfl b5 rfl d7 fun g6 w6 hs b6 cb => ?_)
 clear cb
 have hfr := hfr.stp hs
 have rp1 := rp1.stp hs
 obtain ⟨gp6, hs, qp6⟩ := OB.pub b6
 have hfr := hfr.stp hs
 have rp1 := rp1.stp hs
 refine EL_at (.int .i64 (y4.2)) rfl rfl ?_
 refine EL_nil (thn_n (E_joinC h (fun (s : Unit) e w => ∃ (g : Gh) , Fr gI wI g w ∧ e 1 = up1 ∧ RV g.m w (x1 : List LoomOrder) up1 ∧ e 6 = p5 ∧ PT g.m w (y4.1 : LoomLoomMill) p5) (fun X8 k8 l9 h => ?_) ?_))
 ·refine E_seq (E_region (EL_mw (.int .i64 (y4.2)) rfl rfl ?_))
  refine EL_in (.bool ((y4.2 != (0 : Int)))) rfl rfl rfl rfl ?_
  refine EL_nil (thn_n ?_)
  rcases csome h with ⟨i7, h⟩ | ⟨i7, h⟩
  ·refine E_ct i7 rfl ?_
   refine E_seq (E_region (EL_mw (.int .i64 (y4.2)) rfl rfl ?_))
   refine EL_at (.slice none 0 0) rfl rfl ?_
   refine EL_at (.int .i64 (y4.2)) rfl rfl ?_
   refine EL_nil (thn_n (E_ret (thn_r ?_)))
   obtain rfl := sinj h
   exact end2 rfl rfl (show _ = .slice none 0 0 from rfl) (show _ = .int .i64 (y4.2) from rfl) ⟨_, hfr, _, _, rfl, RV_nil, rfl⟩
  ·refine E_cf i7 rfl ?_
   exact E_skip (thn_n (l9 () _ _ ⟨gp6, hfr, rfl, rp1, rfl, qp6⟩ h))
 ·rintro _ dB jB ⟨n9, hfr, g8, u3, x5, o0⟩ h
  refine E_seq (L_load (x := .tmp 6) Try.isAgg96 Try.sizeOf96 o0 fun m8 u9 v8 => ?_)
  refine L_load (x := .tmp 6) Try.isAgg96 Try.sizeOf96 o0 fun n8 y9 hl12 => ?_
  obtain ⟨t5, x8, h⟩ := bsome h
  obtain ⟨i6, a9, h⟩ := bsome h
  refine E_drawL (g := n9) (n := 5) [(2, (fun v g w => RV g.m w t5 v)), (3, (fun v g w => RV g.m w i6 v)), (4, (fun v g w => OB 2008 g w 101 ([] : List Bool) v))] [0, 1, 2, 3, 4] rfl mixed (by kernel_rfl) (⟨fun _ => up_rv, fun _ => up_rv, fun _ => up_ob, trivial⟩) ?_
  refine L_ld (c := m8) rfl rfl .plain (fun _ _ h => h.ch) v8 x5 ?_
  refine L_ld (c := n8) rfl rfl .plain (fun _ _ h => h.ch) hl12 x5 ?_
  refine L_do (φ := fun v g w => RV g.m w t5 v) rfl rfl .plain (fun g w hd => D_call (g := g) (vs := [n8]) en52 (.cons rfl .nil) (wk52 (y9.ext hd.1) x8) fun g' w' v hs hr => ⟨g', hs, hr⟩) (fun m7 hv => ?_)
  obtain ⟨_, _, _, rq13⟩ := hv
  refine L_do (φ := fun v g w => RV g.m w i6 v) rfl rfl .plain (fun g w hd => D_call (g := g) (vs := [m8, m7, .map none]) en51 (.cons rfl (.cons rfl (.cons rfl .nil))) (wk51 (u9.ext hd.1) (word (A := fun g w => RV g.m w t5 m7) 2 rfl rfl (deps_of hd)) MR.nil a9) fun g' w' v hs hr => ⟨g', hs, hr⟩) (fun r8 hv => ?_)
  obtain ⟨_, _, _, rq15⟩ := hv
  refine L_do (φ := fun v g w => OB 2008 g w 101 ([] : List Bool) v) rfl rfl .plain (fun g w hd => D_allocX (g := g) 2008 ([] : List Bool) Try.zeroValue101 (fun m w => ⟨_, rep_nil, rfl⟩) fun g' w' v hs b => ⟨g', hs, b⟩) (fun x6 hv => ?_)
  clear hv
  refine L_nil fun z9 lB hall => ?_
  have hs := hall.1
  have hfr := hfr.ext hs
  have u3 := u3.ext hs
  have o0 := o0.ext hs
  have mB := (word_all (A := fun g w => RV g.m w t5 m7) 2 rfl hall)
  have bA := (word_all (A := fun g w => RV g.m w i6 r8) 3 rfl hall)
  have b25 := (word_all (A := fun g w => OB 2008 g w 101 ([] : List Bool) x6) 4 rfl hall)
  clear hs hall
  refine EL_do .plain rfl (D_storeOc (g := z9) (v := r8) Try.sizeOf101 rfl b25 rfl bA fun nB oB hs b26 cb => ?_)
  clear cb
  have hfr := hfr.stp hs
  have u3 := u3.stp hs
  have o0 := o0.stp hs
  obtain ⟨gp26, hs, qp26⟩ := OB.pub b26
  have hfr := hfr.stp hs
  have u3 := u3.stp hs
  have o0 := o0.stp hs
  refine EL_nil (thn_n (E_seq (E_region (EL_mv g8 rfl ?_))))
  refine EL_p (.int .i64 ((x1).length : Int)) (P_len Try.underlying25 rfl u3) rfl ?_
  refine EL_p ((.func (.func 57) #[] #[x6, p5])) (P_makeFunc (capf_0_2 (show ev _ _ = x6 from rfl) (show ev _ _ = p5 from x5))) rfl ?_
  obtain ⟨j6, d9, h⟩ := bsome h
  refine EL_do .plain rfl (D_call (g := gp26) (vs := [.int .i64 ((x1).length : Int), (.func (.func 57) #[] #[x6, p5])]) en55 (.cons rfl (.cons rfl .nil)) (wk55 ⟨57, #[], #[x6, p5], rfl, en57, fun g' w' hch a0 b0 r hu0 hr => by obtain rfl := RV_int.1 hu0; exact Fn.mono (wk57  (qp26.ch hch) (o0.ch hch) hr) fun _ _ _ h => RV_bool.2 h⟩ d9) fun tB iB vB hs hr => ?_)
  have hfr := hfr.ext hs
  obtain ⟨l5, iA, rfl, l8, rfl⟩ := hr
  refine EL_mw (.tuple #[l5, .bool (j6.2)]) rfl rfl ?_
  refine EL_p l5 (P_extract rfl rfl) rfl ?_
  refine EL_p (.bool (j6.2)) (P_extract rfl rfl) rfl ?_
  refine EL_at l5 rfl rfl ?_
  refine EL_at (.bool (j6.2)) rfl rfl ?_
  refine EL_nil (thn_n (E_seq (E_region (EL_mw l5 rfl rfl ?_))))
  refine EL_at l5 rfl rfl ?_
  refine EL_at (.int .i64 (0)) rfl rfl ?_
  refine EL_nil (thn_n (E_ret ?_))
  obtain rfl := sinj h
  exact end2 rfl rfl (show _ = l5 from rfl) (show _ = .int .i64 (0) from rfl) ⟨_, hfr, _, _, rfl, l8, rfl⟩
def f25 (x0 : LoomMill) (x1 : List LoomOrder) : Option ((List Int) × Int) :=
 (f50 x0 x1).bind fun y4 =>
 jn (σ := Unit) (fun _ =>
  (f55 ((((x0).Widths).length : Int)) ((fun a0 => f58 a0 (y4.1)))).bind fun u3 =>
  jn (σ := Unit) (fun _ =>
   some (u3.1, (0 : Int))
   ) fun l8 =>
  bif (!u3.2) then
   some ([], (9 : Int))
  else
   l8 ()
  ) fun k8 =>
 bif (y4.2 != (0 : Int)) then
  some ([], y4.2)
 else
  k8 ()
theorem en25 : Enters Try.prog 25 := enters_of Try.func25 (by kernel_rfl) rfl
theorem wk25 {gI : Gh} {wI : World} {x0 : LoomMill} {x1 : List LoomOrder} {up0 : Value} (rp0 : RV gI.m wI x0 up0) {up1 : Value} (rp1 : RV gI.m wI x1 up1) {r : (List Int) × Int} (h : f25 x0 x1 = some r) : Fn Try.prog 25 #[up0, up1] gI wI (fun m w v => ∃ y0 y1, v = .tuple #[y0, y1] ∧ RV m w (r.1) y0 ∧ y1 = .int .i64 (r.2)) := by
 unfold f25 at h
 refine fn_of_E Try.func25 rfl (Nat.le_of_ble_eq_true rfl) fun g0 hm hfr => ?_
 have rp0 : RV g0.m wI x0 up0 := hm ▸ rp0
 have rp1 : RV g0.m wI x1 up1 := hm ▸ rp1
 show E _ 30 none _ _ _ _ _
 refine E_seq (E_region (EL_do .plain rfl (D_box (g := g0) rfl rp0 fun g1 w1 p1 hs q1 => ?_)))
 have hfr := hfr.ext hs
 have rp1 := rp1.ext hs
 refine EL_at (.slice none 0 0) rfl rfl ?_
 refine EL_at (.int .i64 (0)) rfl rfl ?_
 refine EL_nil (thn_n (E_seq (E_region (EL_do .plain rfl (D_load (g := g1) Try.isAgg24 Try.sizeOf24 rfl q1 fun v2 r2 => ?_)))))
 refine EL_mw up1 rfl rfl ?_
 obtain ⟨y4, v8, h⟩ := bsome h
 refine EL_do .plain rfl (D_call (g := g1) (vs := [v2, up1]) en50 (.cons rfl (.cons rfl .nil)) (wk50 r2 rp1 v8) fun g3 w3_ v3 hs hr => ?_)
 have hfr := hfr.ext hs
 have q1 := q1.ext hs
 obtain ⟨l5, n9, rfl, t5, rfl⟩ := hr
 refine EL_mw (.tuple #[l5, .int .i64 (y4.2)]) rfl rfl ?_
 refine EL_p l5 (P_extract rfl rfl) rfl ?_
 refine EL_p (.int .i64 (y4.2)) (P_extract rfl rfl) rfl ?_
 refine EL_do .plain rfl (D_allocOc (g := g3) 2006 (⟨⟨[], 0⟩, []⟩ : LoomLoomMill) Try.zeroValue96 (fun m w => ⟨_, (rep_two (rep_two rep_nil rep_int) rep_nil), rfl⟩) fun g5 w5 p5 hs b5 cb => ?_)
 have hfr := hfr.stp hs
 have q1 := q1.stp hs
 have t5 := t5.stp hs
 have u9 : OSF 2006 60600 0 g5 w5 3 96 ([] : List Int) p5 := cb.osf (by rfl)
 have y9 : OSF 2006 60602 2 g5 w5 82 96 ([] : List LoomOrder) p5 := cb.osf (by rfl)
 clear cb
 refine EL_do .plain rfl (D_storeOc (g := g5) (v := l5) Try.sizeOf96 rfl b5 rfl t5 fun g6 w6 hs b6 cb => ?_)
 clear cb
 have hfr := hfr.stp hs
 have q1 := q1.stp hs
 obtain ⟨gp6, hs, qp6⟩ := OB.pub b6
 have hfr := hfr.stp hs
 have q1 := q1.stp hs
 refine EL_at (.int .i64 (y4.2)) rfl rfl ?_
 refine EL_nil (thn_n (E_joinC h (fun (s : Unit) e w => ∃ (g : Gh) , Fr gI wI g w ∧ e 2 = p1 ∧ PT g.m w (x0 : LoomMill) p1 ∧ e 6 = p5 ∧ PT g.m w (y4.1 : LoomLoomMill) p5) (fun X8 k8 x8 h => ?_) ?_))
 ·refine E_seq (E_region (EL_mw (.int .i64 (y4.2)) rfl rfl ?_))
  refine EL_in (.bool ((y4.2 != (0 : Int)))) rfl rfl rfl rfl ?_
  refine EL_nil (thn_n ?_)
  rcases csome h with ⟨j6, h⟩ | ⟨j6, h⟩
  ·refine E_ct j6 rfl ?_
   refine E_seq (E_region (EL_mw (.int .i64 (y4.2)) rfl rfl ?_))
   refine EL_at (.slice none 0 0) rfl rfl ?_
   refine EL_at (.int .i64 (y4.2)) rfl rfl ?_
   refine EL_nil (thn_n (E_ret (thn_r ?_)))
   obtain rfl := sinj h
   exact end2 rfl rfl (show _ = .slice none 0 0 from rfl) (show _ = .int .i64 (y4.2) from rfl) ⟨_, hfr, _, _, rfl, RV_nil, rfl⟩
  ·refine E_cf j6 rfl ?_
   exact E_skip (thn_n (x8 () _ _ ⟨gp6, hfr, rfl, q1, rfl, qp6⟩ h))
 ·rintro _ z9 rA ⟨m8, hfr, x6, i6, y6, d7⟩ h
  refine E_seq (E_region (EL_p (fPtr p1 0) (P_fieldAddr at_24_0 x6 (PT.ptr i6)) rfl ?_))
  have a9 := PT_field (part_LoomMill_0).1 i6
  refine EL_do .plain rfl (D_load (g := m8) Try.isAgg22 Try.sizeOf22 rfl a9 fun yA d9 => ?_)
  refine EL_p (.int .i64 (((x0).Widths).length : Int)) (P_len Try.underlying22 rfl d9) rfl ?_
  refine EL_p ((.func (.func 58) #[] #[p5])) (P_makeFunc (capf_0_1 (show ev _ _ = p5 from y6))) rfl ?_
  obtain ⟨u3, n8, h⟩ := bsome h
  refine EL_do .plain rfl (D_call (g := m8) (vs := [.int .i64 (((x0).Widths).length : Int), (.func (.func 58) #[] #[p5])]) en55 (.cons rfl (.cons rfl .nil)) (wk55 ⟨58, #[], #[p5], rfl, en58, fun g' w' hch a0 b0 r hu0 hr => by obtain rfl := RV_int.1 hu0; exact Fn.mono (wk58  (d7.ch hch) hr) fun _ _ _ h => RV_bool.2 h⟩ n8) fun k9 bA aB hs hr => ?_)
  have hfr := hfr.ext hs
  obtain ⟨o0, l9, rfl, i7, rfl⟩ := hr
  refine EL_mw (.tuple #[o0, .bool (u3.2)]) rfl rfl ?_
  refine EL_p o0 (P_extract rfl rfl) rfl ?_
  refine EL_p (.bool (u3.2)) (P_extract rfl rfl) rfl ?_
  refine EL_at o0 rfl rfl ?_
  refine EL_at (.bool (u3.2)) rfl rfl ?_
  refine EL_nil (thn_n (E_joinC h (fun (s : Unit) e w => ∃ (g : Gh) , Fr gI wI g w ∧ e 8 = o0 ∧ RV g.m w (u3.1 : List Int) o0) (fun X16 l8 r8 h => ?_) ?_))
  ·refine E_seq (E_region (EL_mw (.bool (u3.2)) rfl rfl ?_))
   refine EL_p (.bool (!u3.2)) (P_not rfl) rfl ?_
   refine EL_nil (thn_n ?_)
   rcases csome h with ⟨x5, h⟩ | ⟨x5, h⟩
   ·refine E_ct x5 rfl ?_
    refine E_seq (E_region (EL_at (.slice none 0 0) rfl rfl ?_))
    refine EL_at (.int .i64 (9)) rfl rfl ?_
    refine EL_nil (thn_n (E_ret (thn_r ?_)))
    obtain rfl := sinj h
    exact end2 rfl rfl (show _ = .slice none 0 0 from rfl) (show _ = .int .i64 (9) from rfl) ⟨_, hfr, _, _, rfl, RV_nil, rfl⟩
   ·refine E_cf x5 rfl ?_
    exact E_skip (thn_n (r8 () _ _ ⟨k9, hfr, rfl, i7⟩ h))
  ·rintro _ iA dB ⟨iB, hfr, m7, g8⟩ h
   refine E_seq (E_region (EL_mv m7 rfl ?_))
   refine EL_at o0 rfl rfl ?_
   refine EL_at (.int .i64 (0)) rfl rfl ?_
   refine EL_nil (thn_n (E_ret ?_))
   obtain rfl := sinj h
   exact end2 rfl rfl (show _ = o0 from rfl) (show _ = .int .i64 (0) from rfl) ⟨_, hfr, _, _, rfl, g8, rfl⟩
end Go.Proofs.Ytnfjhdagbknlbaa
