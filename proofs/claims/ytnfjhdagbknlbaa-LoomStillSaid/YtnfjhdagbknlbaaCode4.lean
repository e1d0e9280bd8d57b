import Derived.Test.YtnfjhdagbknlbaaCode3
set_option maxRecDepth 8000
set_option maxHeartbeats 4000000
namespace Go.Proofs.Ytnfjhdagbknlbaa
open Go.RowKit
def f35 (x0 : LoomMill) (x1 : List LoomOrder) (x2 : List LoomRun) : Option (Int × Int) :=
 jn (σ := Unit) (fun _ =>
  jn (σ := Unit) (fun _ =>
   jn (σ := Unit) (fun _ =>
    some ((0 : Int), (0 : Int))
    ) fun iB =>
   lp (σ := Int) (fun jB u0 =>
    jn (σ := Unit) (fun _ =>
     jn (σ := Unit) (fun _ =>
      jB ((w64 (u0 + (1 : Int))))
      ) fun kB =>
     (f74 x0 x1 x2 u0).bind fun lB =>
     bif lB then
      some (u0, (6 : Int))
     else
      kB ()
     ) fun mB =>
    bif (decide (u0 < ((x2).length : Int))) then
     mB ()
    else
     iB ()
    ) big ((0 : Int))
   ) fun oE =>
  lp (σ := Int) (fun rE o0 =>
   jn (σ := Unit) (fun _ =>
    jn (σ := Unit) (fun _ =>
     rE ((w64 (o0 + (1 : Int))))
     ) fun sE =>
    (idx x2 o0).bind fun j1 =>
    jn (σ := Unit) (fun _ =>
     jn (σ := Unit) (fun _ =>
      (idx x1 (j1).Order).bind fun o3 =>
      (idx ((x0).Widths) (j1).Loom).bind fun o8 =>
      bif (decide ((o3).Width > o8)) then
       some (o0, (2 : Int))
      else
       Option.bind (α := Bool) (
        bif (decide ((j1).From < (o3).Early)) then
         some (true)
        else
         some ((decide ((w64 ((j1).From + (o3).Woven)) > (o3).Late)))
        ) fun y6 =>
       bif y6 then
        some (o0, (3 : Int))
       else
        sE ()
      ) fun nB =>
     Option.bind (α := Bool) (
      bif (decide (o0 > (0 : Int))) then
       (idx x2 (w64 (o0 - (1 : Int)))).bind fun u7 =>
       some ((decide ((j1).Order ≤ (u7).Order)))
      else
       some (false)
      ) fun a7 =>
     bif a7 then
      some (o0, (4 : Int))
     else
      nB ()
     ) fun oB =>
    Option.bind (α := Bool) (
     (f36 ((j1).Order) ((0 : Int)) ((w64 (((x1).length : Int) - (1 : Int))))).bind fun g7 =>
     bif (!g7) then
      some (true)
     else
      (f36 ((j1).Loom) ((0 : Int)) ((w64 ((((x0).Widths).length : Int) - (1 : Int))))).bind fun d7 =>
      bif (!d7) then
       some (true)
      else
       (f36 ((j1).From) ((0 : Int)) ((300 : Int))).bind fun q8 =>
       some ((!q8))
     ) fun b7 =>
    bif b7 then
     some (o0, (7 : Int))
    else
     oB ()
    ) fun tE =>
   bif (decide (o0 < ((x2).length : Int))) then
    tE ()
   else
    oE ()
   ) big ((0 : Int))
  ) fun k3 =>
 bif (decide (((x2).length : Int) > ((x1).length : Int))) then
  some ((0 : Int), (5 : Int))
 else
  k3 ()
def f81 (x0 : Int) (x1 : Int) (x2 : List Int) : Option (Bool) :=
 (f95 x2 ((fun a0 => f96 a0 x0 x1))).bind fun y4 =>
 some ((!y4))
theorem en81 : Enters Try.prog 81 := enters_of Try.func81 (by kernel_rfl) rfl
theorem wk81 {gI : Gh} {wI : World} {x0 : Int} {x1 : Int} {x2 : List Int} {up2 : Value} (rp2 : RV gI.m wI x2 up2) {r : Bool} (h : f81 x0 x1 x2 = some r) : Fn Try.prog 81 #[.int .i64 (x0), .int .i64 (x1), up2] gI wI (fun _ _ v => v = .bool (r)) := by
 unfold f81 at h
 refine fn_of_E Try.func81 rfl (Nat.le_of_ble_eq_true rfl) fun g0 hm hfr => ?_
 have rp2 : RV g0.m wI x2 up2 := hm ▸ rp2
 show E _ 11 none _ _ _ _ _
 refine Zf (Za (Ze .plain rfl (D_box (g := g0) rfl (Zj.2 rfl) fun g1 w1 p1 hs q1 => ?_)))
 have hfr := hfr.ext hs
 have rp2 := rp2.ext hs
 refine Ze .plain rfl (D_box (g := g1) rfl (Zj.2 rfl) fun g2 w2 p2 hs q2 => ?_)
 have hfr := hfr.ext hs
 have rp2 := rp2.ext hs
 have q1 := q1.ext hs
 refine Zg (.bool false) rfl rfl ?_
 refine Zb (Zd (Zf (Za (Zn up2 rfl rfl ?_))))
 refine EL_p ((.func (.func 96) #[] #[p1, p2])) (P_makeFunc (capf_0_2 (show ev _ _ = p1 from rfl) (show ev _ _ = p2 from rfl))) rfl ?_
 obtain ⟨y4, o0, h⟩ := bsome h
 refine Ze .plain rfl (Zp (g := g2) (vs := [up2, (.func (.func 96) #[] #[p1, p2])]) en95 (.cons rfl (.cons rfl .nil)) (wk95 rp2 ⟨96, #[], #[p1, p2], rfl, en96, fun g' w' hch a0 b0 r hu0 hr => by obtain rfl := Zj.1 hu0; exact Fn.mono (wk96  (q1.ch hch) (q2.ch hch) hr) fun _ _ _ h => RV_bool.2 h⟩ o0) fun g3 w3_ v3 hs hr => ?_)
 have hfr := hfr.ext hs
 subst hr
 refine EL_p (.bool (!y4)) (P_not rfl) rfl ?_
 refine Zg (.bool (!y4)) rfl rfl ?_
 refine Zb (Zd (E_ret ?_))
 obtain rfl := sinj h
 exact end1 rfl rfl (show _ = .bool (!y4) from rfl) ⟨_, hfr, rfl⟩
def f83 (x0 : LoomLoomMill) (x1 : Int) (x2 : List (Int × LoomRun)) : Option ((List Bool)) :=
 (shl64 (1 : Int) (((x0).orders).length : Int)).bind fun y6 =>
 (mks 1 (false : Bool) y6).bind fun y7 =>
 (idx y7 (0 : Int)).bind fun y9 =>
 Option.bind (α := (List Bool)) (
  lp (σ := (List Bool) × (Vector (Vector Int 7) 128) × Int) (fun jA (x5, i7, u0) =>
   jn (σ := Unit) (fun _ =>
    Option.bind (α := (List Bool) × (Vector (Vector Int 7) 128)) (
     lp (σ := (List Bool) × (Vector (Vector Int 7) 128) × Int) (fun kA (o3, d3, o0) =>
      bif (decide (o0 < (((x0).orders).length : Int))) then
       Option.bind (α := (List Bool) × (Vector (Vector Int 7) 128)) (
        (idx (d3).toList u0).bind fun lA =>
        (idx (lA).toList o0).bind fun xD =>
        jn (σ := Unit) (fun _ =>
         (f98 x0 ((vmod d3 u0 (fun b => (vset b o0 ((1048576 : Int)))))) u0 o0 x1 x2).bind fun u3 =>
         bif (decide (u3 < (1048576 : Int))) then
          (idx ((x0).orders) o0).bind fun o8 =>
          (idx ((vmod d3 u0 (fun b => (vset b o0 ((1048576 : Int)))))).toList u0).bind fun mA =>
          (idx (mA).toList o0).bind fun yD =>
          (idx o3 u0).bind fun zD =>
          some ((List.set o3 (Int.toNat u0) true), (vmod ((vmod d3 u0 (fun b => (vset b o0 ((1048576 : Int)))))) u0 (fun b => (vset b o0 ((w64 (u3 + (o8).Woven)))))))
         else
          some (o3, (vmod d3 u0 (fun b => (vset b o0 ((1048576 : Int))))))
         ) fun nA =>
        (shr64 u0 o0).bind fun j7 =>
        bif ((bit64 .and j7 (1 : Int)) == (0 : Int)) then
         some (o3, (vmod d3 u0 (fun b => (vset b o0 ((1048576 : Int))))))
        else
         nA ()
        ) fun (i6, j6) =>
       kA (i6, j6, (w64 (o0 + (1 : Int))))
      else
       some (o3, d3)
      ) big (x5, i7, (0 : Int))
     ) fun (v6, x6) =>
    jA (v6, x6, (w64 (u0 + (1 : Int))))
    ) fun oA =>
   bif (decide (u0 < y6)) then
    oA ()
   else
    some (x5)
   ) big ((List.set y7 (Int.toNat (0 : Int)) true), ((Vector.replicate 128 (⟨List.toArray [0, 0, 0, 0, 0, 0, 0], rfl⟩ : Vector Int 7)) : Vector (Vector Int 7) 128), (1 : Int))
  ) fun m7 =>
 some (m7)
theorem en83 : Enters Try.prog 83 := enters_of Try.func83 (by kernel_rfl) rfl
theorem wk83 {gI : Gh} {wI : World} {x0 : LoomLoomMill} {x1 : Int} {x2 : List (Int × LoomRun)} {up0 : Value} (rp0 : RV gI.m wI x0 up0) {up2 : Value} (mq2 : MR (Value.int .i64) gI wI x2 up2) {r : (List Bool)} (h : f83 x0 x1 x2 = some r) : Fn Try.prog 83 #[up0, .int .i64 (x1), up2] gI wI (fun m w v => RV m w (r) v) := by
 unfold f83 at h
 refine fn_of_E Try.func83 rfl (Nat.le_of_ble_eq_true rfl) fun g0 hm hfr => ?_
 have rp0 : RV g0.m wI x0 up0 := hm ▸ rp0
 have mq2 := MQ.enter mq2 hm hfr
 show E _ 65 none _ _ _ _ _
 refine Zf (Za (Ze .plain rfl (D_box (g := g0) rfl rp0 fun g1 w1 p1 hs q1 => ?_)))
 have hfr := hfr.ext hs
 have mq2 := mq2.ext hs
 refine Zg (.slice none 0 0) rfl rfl ?_
 have b2 : OA 4006 g1 w1 4 ([] : List Bool) (.slice none 0 0) := OA.nil
 refine Zb (Zd (Zf (Za (Ze .plain rfl (D_allocOc (g := g1) 2007 ((Vector.replicate 128 (⟨List.toArray [0, 0, 0, 0, 0, 0, 0], rfl⟩ : Vector Int 7)) : Vector (Vector Int 7) 128) Try.zeroValue150 (fun m w => ⟨_, (rep_replicate (rep_vec (flat_chunk rep_int (flat_chunk rep_int (flat_chunk rep_int (flat_chunk rep_int (flat_chunk rep_int (flat_chunk rep_int (flat_chunk rep_int flat_nil))))))) rfl)), by kernel_rfl⟩) fun g3 w3 p3 hs b3 cb => ?_)))))
 have hfr := hfr.stp hs
 have mq2 := mq2.stp hs
 have q1 := q1.stp hs
 clear cb
 refine Zb (Zd (Zf (Za (EL_p (fPtr p1 2) (Zc at_96_1 rfl (PT.ptr q1)) rfl ?_))))
 have q4 := Zm (part_LoomLoomMill_1).1 q1
 refine Ze .plain rfl (D_load (g := g3) Try.isAgg25 Try.sizeOf25 rfl q4 fun v5 r5 => ?_)
 refine EL_p (.int .i64 (((x0).orders).length : Int)) (P_len Try.underlying25 rfl r5) rfl ?_
 obtain ⟨y6, oE, h⟩ := bsome h
 refine EL_p (.int .i64 (y6)) (P_int rfl rfl (congrArg (Option.map (Value.int .i64)) oE)) rfl ?_
 refine Zg (.int .i64 (y6)) rfl rfl ?_
 refine Zb (Zd (Zf (Za (Zn (.int .i64 (y6)) rfl rfl ?_))))
 obtain ⟨y7, rE, h⟩ := bsome h
 refine Ze .plain rfl (D_makeSliceM (g := g3) 9017 (false : Bool) rfl Try.underlying101 info_4 rfl (fun _ _ => rfl) rfl rfl rE fun g8 w8 v8 hs b8 => ?_)
 have hfr := hfr.stp hs
 have mq2 := mq2.stp hs
 have q1 := q1.stp hs
 have b3 := b3.stp hs rfl
 refine Zg v8 rfl rfl ?_
 refine Zb (Zd (Zf (Za (Zn v8 rfl rfl ?_))))
 obtain ⟨y9, vD, h⟩ := bsome h
 refine EL_p (ePtr v8 (0 : Int) 1) (P_indexAddrM (α := Bool) Try.underlying101 Try.sizeOf4 rfl b8 rfl vD) rfl ?_
 refine Ze .plain rfl (D_storeM (g := g8) (α := Bool) (a' := true) Try.sizeOf4 rfl b8 vD rfl (RV_bool.2 rfl) fun sE bG hs b10 => ?_)
 have hfr := hfr.stp hs
 have mq2 := mq2.stp hs
 have q1 := q1.stp hs
 have b3 := b3.stp hs rfl
 refine Zb (Zd ?_)
 obtain ⟨m7, hx, h⟩ := bsome h
 refine E_join (fun e w => ∃ (g : Gh) , Fr gI wI g w ∧ e 6 = v8 ∧ OM 9017 g w 4 (m7 : List Bool) v8) (fun Q' hQ => ?_) (fun tE eF hR => ?_)
 ·replace h := hx
  clear hx
  refine Zf (Za (Zg (.int .i64 (1)) rfl rfl ?_))
  refine Zb (Zd (Zr ?_))
  refine E_lp h (fun (s : (List Bool) × (Vector (Vector Int 7) 128) × Int) e w => ∃ (g : Gh) , Fr gI wI g w ∧ e 1 = .int .i64 (x1) ∧ e 2 = up2 ∧ MQ (Value.int .i64) wI.heap.size g w (x2 : List (Int × LoomRun)) up2 ∧ e 3 = p1 ∧ PT g.m w (x0 : LoomLoomMill) p1 ∧ e 6 = v8 ∧ OM 9017 g w 4 (s.1 : List Bool) v8 ∧ e 7 = p3 ∧ OB 2007 g w 150 (s.2.1 : Vector (Vector Int 7) 128) p3 ∧ e 8 = .int .i64 (y6) ∧ e 9 = .int .i64 (s.2.2)) ⟨sE, hfr, rfl, rfl, mq2, rfl, q1, rfl, b10, rfl, b3, rfl, rfl⟩ (fun X270 jA kD => ?_)
  rintro ⟨x5, i7, u0⟩ uE iF ⟨pA, hfr, qA, rA, sA, uA, xA, y8, a9, yA, zA, d9, e9⟩ h
  refine Zq h (fun (s : Unit) e w => ∃ (g : Gh) , Fr gI wI g w ∧ e 1 = .int .i64 (x1) ∧ e 2 = up2 ∧ MQ (Value.int .i64) wI.heap.size g w (x2 : List (Int × LoomRun)) up2 ∧ e 3 = p1 ∧ PT g.m w (x0 : LoomLoomMill) p1 ∧ e 6 = v8 ∧ OM 9017 g w 4 (x5 : List Bool) v8 ∧ e 7 = p3 ∧ OB 2007 g w 150 (i7 : Vector (Vector Int 7) 128) p3 ∧ e 8 = .int .i64 (y6) ∧ e 9 = .int .i64 (u0)) (fun X273 oA lD h => ?_) ?_
  ·refine Zf (Za (Zo e9 rfl ?_))
   refine Zo d9 rfl ?_
   refine EL_in (.bool ((decide (u0 < y6)))) rfl rfl rfl rfl ?_
   refine Zb (Zd ?_)
   rcases Zt h with ⟨q8, h⟩ | ⟨q8, h⟩
   ·refine E_ct q8 rfl ?_
    exact Zu (Zd (lD () _ _ ⟨pA, hfr, qA, rA, sA, uA, xA, y8, a9, yA, zA, d9, e9⟩ h))
   ·refine E_cf q8 rfl ?_
    refine E_exit ?_
    refine thn_e ?_
    refine thn_e ?_
    refine blk_hit ?_
    obtain rfl := sinj h
    exact hQ _ _ ⟨pA, hfr, y8, a9⟩
  ·rintro _ vE nF ⟨aB, hfr, bB, cB, dB, i9, n7, eB, iB, jB, kB, lB, mB⟩ h
   obtain ⟨⟨v6, x6⟩, hx, h⟩ := bsome h
   refine E_join (fun e w => ∃ (g : Gh) , Fr gI wI g w ∧ e 1 = .int .i64 (x1) ∧ e 2 = up2 ∧ MQ (Value.int .i64) wI.heap.size g w (x2 : List (Int × LoomRun)) up2 ∧ e 3 = p1 ∧ PT g.m w (x0 : LoomLoomMill) p1 ∧ e 6 = v8 ∧ OM 9017 g w 4 (v6 : List Bool) v8 ∧ e 7 = p3 ∧ OB 2007 g w 150 (x6 : Vector (Vector Int 7) 128) p3 ∧ e 8 = .int .i64 (y6) ∧ e 9 = .int .i64 (u0)) (fun Q' hQ => ?_) (fun xE oF hR => ?_)
   ·replace h := hx
    clear hx
    refine Zr ?_
    refine Zf (Za (EL_p (fPtr p1 2) (Zc at_96_1 i9 (PT.ptr n7)) rfl ?_))
    have aE := Zm (part_LoomLoomMill_1).1 n7
    refine Ze .plain rfl (D_load (g := aB) Try.isAgg25 Try.sizeOf25 rfl aE fun pF bE => ?_)
    refine EL_p (.int .i64 (((x0).orders).length : Int)) (P_len Try.underlying25 rfl bE) rfl ?_
    refine Zn (.int .i64 (0)) rfl rfl ?_
    refine Zb (Zd (Zr ?_))
    refine E_lp h (fun (s : (List Bool) × (Vector (Vector Int 7) 128) × Int) e w => ∃ (g : Gh) , Fr gI wI g w ∧ e 1 = .int .i64 (x1) ∧ e 2 = up2 ∧ MQ (Value.int .i64) wI.heap.size g w (x2 : List (Int × LoomRun)) up2 ∧ e 3 = p1 ∧ PT g.m w (x0 : LoomLoomMill) p1 ∧ e 6 = v8 ∧ OM 9017 g w 4 (s.1 : List Bool) v8 ∧ e 7 = p3 ∧ OB 2007 g w 150 (s.2.1 : Vector (Vector Int 7) 128) p3 ∧ e 8 = .int .i64 (y6) ∧ e 9 = .int .i64 (u0) ∧ e 27 = .int .i64 ((((x0).orders).length : Int)) ∧ e 28 = .int .i64 (s.2.2)) ⟨aB, hfr, bB, cB, dB, i9, n7, eB, iB, jB, kB, lB, mB, rfl, rfl⟩ (fun X404 kA mD => ?_)
    rintro ⟨o3, d3, o0⟩ yE qF ⟨nB, hfr, o7, u7, z3, v7, z4, c8, i5, a7, b7, e8, l5, e7, t5⟩ h
    refine Zf (Za (EL_p (.bool ((decide (o0 < (((x0).orders).length : Int))))) (P_int t5 e7 rfl) rfl ?_))
    refine Zb (Zd (Zf ?_))
    rcases Zt h with ⟨r8, h⟩ | ⟨r8, h⟩
    ·refine E_ct r8 rfl ?_
     refine Zu (Zd ?_)
     obtain ⟨⟨i6, j6⟩, hx, h⟩ := bsome h
     refine E_join (fun e w => ∃ (g : Gh) , Fr gI wI g w ∧ e 1 = .int .i64 (x1) ∧ e 2 = up2 ∧ MQ (Value.int .i64) wI.heap.size g w (x2 : List (Int × LoomRun)) up2 ∧ e 3 = p1 ∧ PT g.m w (x0 : LoomLoomMill) p1 ∧ e 6 = v8 ∧ OM 9017 g w 4 (i6 : List Bool) v8 ∧ e 7 = p3 ∧ OB 2007 g w 150 (j6 : Vector (Vector Int 7) 128) p3 ∧ e 8 = .int .i64 (y6) ∧ e 9 = .int .i64 (u0) ∧ e 27 = .int .i64 ((((x0).orders).length : Int)) ∧ e 28 = .int .i64 (o0)) (fun Q' hQ => ?_) (fun zE rF hR => ?_)
     ·replace h := hx
      clear hx
      refine Zr ?_
      refine Zf (Za (Zo t5 rfl ?_))
      refine Zg (.int .i64 (o0)) rfl rfl ?_
      refine Zb (Zd (Zf (Za (Zo l5 rfl ?_))))
      refine Zn (.int .i64 (o0)) rfl rfl ?_
      obtain ⟨lA, n9, h⟩ := bsome h
      obtain ⟨hi468, he468⟩ := vat_idx n9
      refine EL_p (fPtr p3 ((u0 : Int).toNat * 7)) (P_indexAddrA (α := Vector Int 7) Try.underlying150 Try.sizeOf148 a7 (OB.ptr b7) rfl n9) rfl ?_
      obtain ⟨xD, o9, h⟩ := bsome h
      obtain ⟨hi470, he470⟩ := vat_idx o9
      refine EL_p (fPtr p3 (((u0 : Int).toNat * 7) + (o0 : Int).toNat * 1)) (P_indexAddrA2 (α := Int) (o1 := ((u0 : Int).toNat * 7)) rfl Try.underlying148 Try.sizeOf3 rfl (OB.ptr b7) rfl o9) rfl ?_
      refine Ze .plain rfl (D_storeFc (g := nB) (SubS.dynC hi468 (SubS.dyn hi470) rfl) Try.sizeOf3 rfl b7 rfl (Zj.2 rfl) fun oB sF hs b471 rst hos => ?_)
      clear rst hos
      have hfr := hfr.stp hs
      have z3 := z3.stp hs
      have z4 := z4.stp hs
      have i5 := i5.stp hs rfl
      refine Zb (Zd (Zq h (fun (s : Unit) e w => ∃ (g : Gh) , Fr gI wI g w ∧ e 1 = .int .i64 (x1) ∧ e 2 = up2 ∧ MQ (Value.int .i64) wI.heap.size g w (x2 : List (Int × LoomRun)) up2 ∧ e 3 = p1 ∧ PT g.m w (x0 : LoomLoomMill) p1 ∧ e 6 = v8 ∧ OM 9017 g w 4 (o3 : List Bool) v8 ∧ e 7 = p3 ∧ OB 2007 g w 150 ((vmod d3 u0 (fun b => (vset b o0 ((1048576 : Int))))) : Vector (Vector Int 7) 128) p3 ∧ e 8 = .int .i64 (y6) ∧ e 9 = .int .i64 (u0) ∧ e 10 = .int .i64 (o0) ∧ e 27 = .int .i64 ((((x0).orders).length : Int)) ∧ e 28 = .int .i64 (o0)) (fun X474 nA nD h => ?_) ?_))
      ·refine Zf (Za (Zo l5 rfl ?_))
       refine Zn (.int .i64 (o0)) rfl rfl ?_
       obtain ⟨j7, oD, h⟩ := bsome h
       refine EL_p (.int .i64 (j7)) (P_int rfl rfl (congrArg (Option.map (Value.int .i64)) oD)) rfl ?_
       refine EL_in (.int .i64 ((bit64 .and j7 (1 : Int)))) rfl rfl rfl rfl ?_
       refine EL_in (.bool (((bit64 .and j7 (1 : Int)) == (0 : Int)))) rfl rfl rfl rfl ?_
       refine Zb (Zd ?_)
       rcases Zt h with ⟨t8, h⟩ | ⟨t8, h⟩
       ·refine E_ct t8 rfl ?_
        refine E_exit ?_
        refine thn_e ?_
        refine blk_hit ?_
        obtain ⟨rfl, rfl⟩ := pairs2 h
        exact hQ _ _ ⟨oB, hfr, o7, u7, z3, v7, z4, c8, i5, a7, b471, e8, l5, e7, t5⟩
       ·refine E_cf t8 rfl ?_
        exact Zu (Zd (nD () _ _ ⟨oB, hfr, o7, u7, z3, v7, z4, c8, i5, a7, b471, e8, l5, rfl, e7, t5⟩ h))
      ·rintro _ cF tF ⟨tB, hfr, i8, k8, z2, c7, j1, l8, i3, d7, j3, k9, q5, g7, m8, n8⟩ h
       refine Zf (Za (Ze .plain rfl (D_load (g := tB) Try.isAgg96 Try.sizeOf96 c7 j1 fun cE dE => ?_)))
       refine Zo q5 rfl ?_
       refine Zo g7 rfl ?_
       refine Zo i8 rfl ?_
       refine Zo k8 rfl ?_
       obtain ⟨u3, sD, h⟩ := bsome h
       refine Ze .plain rfl (D_callF (g := tB) (vs := [cE, p3, .int .i64 (u0), .int .i64 (o0), .int .i64 (x1), up2]) en98 (.cons rfl (.cons d7 (.cons rfl (.cons rfl (.cons rfl (.cons rfl .nil)))))) (wk98 (RV.lent dE) (OB.lent j3) (MR.lent z2.r) sD) fun vB dF uF hs hr => ?_)
       have hfr := hfr.ext hs
       have z2 := z2.ext hs
       have j1 := j1.ext hs
       have i3 := i3.ext hs
       have j3 := j3.ext hs
       subst hr
       refine Zg (.int .i64 (u3)) rfl rfl ?_
       refine Zb (Zd (Zf (Za (Zn (.int .i64 (u3)) rfl rfl ?_))))
       refine EL_in (.bool ((decide (u3 < (1048576 : Int))))) rfl rfl rfl rfl ?_
       refine Zb (Zd ?_)
       rcases Zt h with ⟨x8, h⟩ | ⟨x8, h⟩
       ·refine E_ct x8 rfl ?_
        refine Zf ?_
        have eE := Zm (part_LoomLoomMill_1).1 j1
        refine Zs (x := .tmp 51) Try.isAgg25 Try.sizeOf25 eE fun l9 xB tD => ?_
        obtain ⟨o8, t9, h⟩ := bsome h
        have yB := PT_idx xB t9
        have gE := Zm (part_LoomOrder_2).1 yB
        refine Zs (x := .tmp 55) Try.isAgg3 Try.sizeOf3 gE fun vF iE uD => ?_
        obtain rfl := Zj.1 iE
        obtain ⟨mA, u9, h⟩ := bsome h
        obtain ⟨hi489, he489⟩ := vat_idx u9
        obtain ⟨yD, z9, h⟩ := bsome h
        obtain ⟨hi491, he491⟩ := vat_idx z9
        refine E_drawL (g := vB) (n := 12) [] [0, 1, 2, 3, 4, 5, 6, 7, 8, 9, 10, 11] rfl mixed (by kernel_rfl) trivial ?_
        refine L_p (.int .i64 (u0)) rfl rfl (Zk q5) ?_
        refine L_p (.int .i64 (o0)) rfl rfl (Zk g7) ?_
        refine L_p (.int .i64 (u3)) rfl rfl (Zk rfl) ?_
        refine L_p (fPtr p1 2) rfl rfl (Zc at_96_1 c7 (PT.ptr j1)) ?_
        refine L_ld (c := l9) rfl rfl .plain (fun _ _ h => h.ch) tD rfl ?_
        refine L_p (.int .i64 (o0)) rfl rfl (Zk g7) ?_
        refine L_p (ePtr l9 o0 5) rfl rfl (Zh (α := LoomOrder) Try.underlying25 Try.sizeOf82 rfl xB rfl t9) ?_
        refine L_p (fPtr (ePtr l9 o0 5) 2) rfl rfl (Zc at_82_2 rfl (PT.ptr yB)) ?_
        refine L_ld (c := .int .i64 ((o8).Woven)) rfl rfl .plain (fun _ _ h => h.ch) uD rfl ?_
        refine L_p (.int .i64 ((w64 (u3 + (o8).Woven)))) rfl rfl (P_int rfl rfl rfl) ?_
        refine L_p (fPtr p3 ((u0 : Int).toNat * 7)) rfl rfl (P_indexAddrA (α := Vector Int 7) Try.underlying150 Try.sizeOf148 d7 (OB.ptr j3) rfl u9) ?_
        refine L_p (fPtr p3 (((u0 : Int).toNat * 7) + (o0 : Int).toNat * 1)) rfl rfl (P_indexAddrA2 (α := Int) (o1 := ((u0 : Int).toNat * 7)) rfl Try.underlying148 Try.sizeOf3 rfl (OB.ptr j3) rfl z9) ?_
        refine L_nl fun jE xF hs => ?_
        have hfr := hfr.ext hs
        have z2 := z2.ext hs
        have j1 := j1.ext hs
        have i3 := i3.ext hs
        have j3 := j3.ext hs
        clear hs
        refine Ze .plain rfl (D_storeFc (g := jE) (SubS.dynC hi489 (SubS.dyn hi491) rfl) Try.sizeOf3 rfl j3 rfl (Zj.2 rfl) fun kE yF hs b524 rst hos => ?_)
        clear rst hos
        have hfr := hfr.stp hs
        have z2 := z2.stp hs
        have j1 := j1.stp hs
        have i3 := i3.stp hs rfl
        refine Zb (Zd (Za (Zo l8 rfl ?_)))
        refine Zo q5 rfl ?_
        obtain ⟨zD, bA, h⟩ := bsome h
        refine EL_p (ePtr v8 u0 1) (P_indexAddrM (α := Bool) Try.underlying101 Try.sizeOf4 rfl i3 rfl bA) rfl ?_
        refine Ze .plain rfl (D_storeM (g := kE) (α := Bool) (a' := true) Try.sizeOf4 rfl i3 bA rfl (RV_bool.2 rfl) fun lE zF hs b526 => ?_)
        have hfr := hfr.stp hs
        have z2 := z2.stp hs
        have j1 := j1.stp hs
        have b524 := b524.stp hs rfl
        refine Zb (blk_n ?_)
        obtain ⟨rfl, rfl⟩ := pairs2 h
        exact hQ _ _ ⟨lE, hfr, i8, k8, z2, c7, j1, l8, b526, d7, b524, k9, q5, m8, n8⟩
       ·refine E_cf x8 rfl ?_
        refine Zu (blk_n ?_)
        obtain ⟨rfl, rfl⟩ := pairs2 h
        exact hQ _ _ ⟨vB, hfr, i8, k8, z2, c7, j1, l8, i3, d7, j3, k9, q5, m8, n8⟩
     ·clear hx
      obtain ⟨mE, hfr, zB, aC, cC, dC, eC, iC, jC, kC, lC, mC, qC, gA, iA⟩ := hR
      refine Za (EL_in (.int .i64 ((w64 (o0 + (1 : Int))))) iA rfl rfl rfl ?_)
      refine Zn (.int .i64 ((w64 (o0 + (1 : Int))))) rfl rfl ?_
      exact Zb (Zd (mD (i6, j6, (w64 (o0 + (1 : Int)))) _ _ ⟨mE, hfr, zB, aC, cC, dC, eC, iC, jC, kC, lC, mC, qC, gA, rfl⟩ h))
    ·refine E_cf r8 rfl ?_
     refine E_exit ?_
     refine thn_e ?_
     refine thn_e ?_
     refine blk_hit ?_
     refine blk_n ?_
     obtain ⟨rfl, rfl⟩ := pairs2 h
     exact hQ _ _ ⟨nB, hfr, o7, u7, z3, v7, z4, c8, i5, a7, b7, e8, l5⟩
   ·clear hx
    obtain ⟨nE, hfr, rC, tC, uC, vC, xC, yC, aD, bD, cD, eD, gD⟩ := hR
    refine Za (Zo gD rfl ?_)
    refine EL_in (.int .i64 ((w64 (u0 + (1 : Int))))) rfl rfl rfl rfl ?_
    refine Zg (.int .i64 ((w64 (u0 + (1 : Int))))) rfl rfl ?_
    exact Zb (Zd (kD (v6, x6, (w64 (u0 + (1 : Int)))) _ _ ⟨nE, hfr, rC, tC, uC, vC, xC, yC, aD, bD, cD, eD, rfl⟩ h))
 ·clear hx
  obtain ⟨aG, hfr, iD, jD⟩ := hR
  refine Zf (Za (Zo iD rfl ?_))
  refine Zg v8 rfl rfl ?_
  refine Zb (Zd (E_ret ?_))
  obtain ⟨gp530, hs, rp530⟩ := OM.pub jD
  have hfr := hfr.stp hs
  obtain rfl := sinj h
  exact end1 rfl rfl (show _ = v8 from rfl) ⟨_, hfr, rp530⟩
def f85 (x0 : List Int) (x1 : List Int) : Option (Int) :=
 jn (σ := Unit) (fun _ =>
  jn (σ := Unit) (fun _ =>
   some ((0 : Int))
   ) fun n8 =>
  bif (decide (((x0).length : Int) < ((x1).length : Int))) then
   some ((-1 : Int))
  else
   n8 ()
  ) fun o8 =>
 lp (σ := Int) (fun k33 o0 =>
  bif (decide (o0 < ((x0).length : Int))) then
   jn (σ := Unit) (fun _ =>
    k33 ((w64 (o0 + (1 : Int))))
    ) fun q8 =>
   (idx x0 o0).bind fun z3 =>
   jn (σ := Unit) (fun _ =>
    (idx x1 o0).bind fun z4 =>
    (f90 z3 z4).bind fun u0 =>
    bif (u0 != (0 : Int)) then
     some (u0)
    else
     q8 ()
    ) fun k54 =>
   bif (decide (o0 ≥ ((x1).length : Int))) then
    some ((1 : Int))
   else
    k54 ()
  else
   o8 ()
  ) big ((0 : Int))
theorem en85 : Enters Try.prog 85 := enters_of Try.func85 (by kernel_rfl) rfl
theorem wk85 {gI : Gh} {wI : World} {x0 : List Int} {x1 : List Int} {up0 : Value} (rp0 : RV gI.m wI x0 up0) {up1 : Value} (rp1 : RV gI.m wI x1 up1) {r : Int} (h : f85 x0 x1 = some r) : Fn Try.prog 85 #[up0, up1] gI wI (fun _ _ v => v = .int .i64 (r)) := by
 unfold f85 at h
 refine fn_of_E Try.func85 rfl (Nat.le_of_ble_eq_true rfl) fun g0 hm hfr => ?_
 have rp0 : RV g0.m wI x0 up0 := hm ▸ rp0
 have rp1 : RV g0.m wI x1 up1 := hm ▸ rp1
 show E _ 36 none _ _ _ _ _
 refine Zf (Za (Zg (.int .i64 (0)) rfl rfl ?_))
 refine Zb (Zd (Zq h (fun (s : Unit) e w => ∃ (g : Gh) , Fr gI wI g w ∧ e 0 = up0 ∧ RV g.m w (x0 : List Int) up0 ∧ e 1 = up1 ∧ RV g.m w (x1 : List Int) up1) (fun X32 o8 t8 h => ?_) ?_))
 ·refine Zf (Za (Zn up0 rfl rfl ?_))
  refine EL_p (.int .i64 ((x0).length : Int)) (P_len Try.underlying22 rfl rp0) rfl ?_
  refine Zn (.int .i64 (0)) rfl rfl ?_
  refine Zb (Zd (Zr ?_))
  refine E_lp h (fun (s : Int) e w => ∃ (g : Gh) , Fr gI wI g w ∧ e 0 = up0 ∧ RV g.m w (x0 : List Int) up0 ∧ e 1 = up1 ∧ RV g.m w (x1 : List Int) up1 ∧ e 9 = up0 ∧ RV g.m w (x0 : List Int) up0 ∧ e 10 = .int .i64 (((x0).length : Int)) ∧ e 11 = .int .i64 (s)) ⟨g0, hfr, rfl, rp0, rfl, rp1, rfl, rp0, rfl, rfl⟩ (fun X33 k33 v8 => ?_)
  rintro o0 u9 jA ⟨y6, hfr, i6, j6, d3, i3, v6, j3, i5, j1⟩ h
  refine Zf (Za (EL_in (.bool ((decide (o0 < ((x0).length : Int))))) j1 i5 rfl rfl ?_))
  refine Zb (Zd (Zf ?_))
  rcases Zt h with ⟨l5, h⟩ | ⟨l5, h⟩
  ·refine E_ct l5 rfl ?_
   refine Zu (Zd (Zq h (fun (s : Unit) e w => ∃ (g : Gh) , Fr gI wI g w ∧ e 0 = up0 ∧ RV g.m w (x0 : List Int) up0 ∧ e 1 = up1 ∧ RV g.m w (x1 : List Int) up1 ∧ e 9 = up0 ∧ RV g.m w (x0 : List Int) up0 ∧ e 10 = .int .i64 (((x0).length : Int)) ∧ e 11 = .int .i64 (o0)) (fun X49 q8 x8 h => ?_) ?_))
   ·refine Zr ?_
    refine Zf (Za (Zo j1 rfl ?_))
    obtain ⟨z3, a7, h⟩ := bsome h
    refine EL_p (ePtr up0 o0 1) (Zh (α := Int) Try.underlying22 Try.sizeOf3 v6 j3 j1 a7) rfl ?_
    have e9 := PT_idx j3 a7
    refine Ze .plain rfl (D_load (g := y6) Try.isAgg3 Try.sizeOf3 rfl e9 fun kA i9 => ?_)
    obtain rfl := Zj.1 i9
    refine Zg (.int .i64 (o0)) rfl rfl ?_
    refine Zg (.int .i64 (z3)) rfl rfl ?_
    refine Zb (Zd (Zq h (fun (s : Unit) e w => ∃ (g : Gh) , Fr gI wI g w ∧ e 0 = up0 ∧ RV g.m w (x0 : List Int) up0 ∧ e 1 = up1 ∧ RV g.m w (x1 : List Int) up1 ∧ e 5 = .int .i64 (o0) ∧ e 6 = .int .i64 (z3) ∧ e 9 = up0 ∧ RV g.m w (x0 : List Int) up0 ∧ e 10 = .int .i64 (((x0).length : Int)) ∧ e 11 = .int .i64 (o0)) (fun X54 k54 y8 h => ?_) ?_))
    ·refine Zf (Za (Zn (.int .i64 (o0)) rfl rfl ?_))
     refine Zo d3 rfl ?_
     refine EL_p (.int .i64 ((x1).length : Int)) (P_len Try.underlying22 rfl i3) rfl ?_
     refine EL_in (.bool ((decide (o0 ≥ ((x1).length : Int))))) rfl rfl rfl rfl ?_
     refine Zb (Zd ?_)
     rcases Zt h with ⟨q5, h⟩ | ⟨q5, h⟩
     ·refine E_ct q5 rfl ?_
      refine Zf (Za (Zg (.int .i64 (1)) rfl rfl ?_))
      refine Zb (Zd (E_ret (thn_r ?_)))
      refine blk_r ?_
      refine thn_r ?_
      refine thn_r ?_
      refine blk_r ?_
      refine thn_r ?_
      obtain rfl := sinj h
      exact end1 rfl rfl (show _ = .int .i64 (1) from rfl) ⟨_, hfr, rfl⟩
     ·refine E_cf q5 rfl ?_
      exact Zu (Zd (y8 () _ _ ⟨y6, hfr, i6, j6, d3, i3, rfl, rfl, v6, j3, i5, j1⟩ h))
    ·rintro _ y9 lA ⟨r8, hfr, i7, o3, x6, z2, j7, m7, n7, u3, b7, c7⟩ h
     refine Zf (Za (Zo x6 rfl ?_))
     refine Zo j7 rfl ?_
     obtain ⟨z4, d7, h⟩ := bsome h
     refine EL_p (ePtr up1 o0 1) (Zh (α := Int) Try.underlying22 Try.sizeOf3 rfl z2 rfl d7) rfl ?_
     have k9 := PT_idx z2 d7
     refine Ze .plain rfl (D_load (g := r8) Try.isAgg3 Try.sizeOf3 rfl k9 fun mA l9 => ?_)
     obtain rfl := Zj.1 l9
     refine Zg (.int .i64 (z4)) rfl rfl ?_
     refine Zb (Zd (Zf (Za (Zo m7 rfl ?_))))
     refine Zn (.int .i64 (z4)) rfl rfl ?_
     obtain ⟨u0, a9, h⟩ := bsome h
     refine Ze .plain rfl (Zp (g := r8) (vs := [.int .i64 (z3), .int .i64 (z4)]) en90 (.cons rfl (.cons rfl .nil)) (wk90  a9) fun n9 z9 nA hs hr => ?_)
     have hfr := hfr.ext hs
     have o3 := o3.ext hs
     have z2 := z2.ext hs
     have u3 := u3.ext hs
     subst hr
     refine Zg (.int .i64 (u0)) rfl rfl ?_
     refine Zb (Zd (Zf (Za (Zn (.int .i64 (u0)) rfl rfl ?_))))
     refine EL_in (.bool ((u0 != (0 : Int)))) rfl rfl rfl rfl ?_
     refine Zb (Zd ?_)
     rcases Zt h with ⟨t5, h⟩ | ⟨t5, h⟩
     ·refine E_ct t5 rfl ?_
      refine Zf (Za (Zn (.int .i64 (u0)) rfl rfl ?_))
      refine Zg (.int .i64 (u0)) rfl rfl ?_
      refine Zb (Zd (E_ret (blk_r ?_)))
      refine thn_r ?_
      refine thn_r ?_
      refine blk_r ?_
      refine thn_r ?_
      obtain rfl := sinj h
      exact end1 rfl rfl (show _ = .int .i64 (u0) from rfl) ⟨_, hfr, rfl⟩
     ·refine E_cf t5 rfl ?_
      exact Zu (blk_n (Zd (x8 () _ _ ⟨n9, hfr, i7, o3, x6, z2, n7, u3, b7, c7⟩ h)))
   ·rintro _ bA oA ⟨o9, hfr, o7, u7, v7, c8, e8, g8, e7, g7⟩ h
    refine Za (EL_in (.int .i64 ((w64 (o0 + (1 : Int))))) g7 rfl rfl rfl ?_)
    refine Zn (.int .i64 ((w64 (o0 + (1 : Int))))) rfl rfl ?_
    exact Zb (Zd (v8 ((w64 (o0 + (1 : Int)))) _ _ ⟨o9, hfr, o7, u7, v7, c8, e8, g8, e7, rfl⟩ h))
  ·refine E_cf l5 rfl ?_
   refine E_exit ?_
   refine thn_e ?_
   refine thn_e ?_
   refine blk_hit ?_
   exact Zd (t8 () _ _ ⟨y6, hfr, i6, j6, d3, i3⟩ h)
 ·rintro _ gA w64 ⟨t9, hfr, i8, k8, l8, m8⟩ h
  refine Zq h (fun (s : Unit) e w => ∃ (g : Gh) , Fr gI wI g w) (fun X66 n8 d9 h => ?_) ?_
  ·refine Zf (Za (Zo i8 rfl ?_))
   refine EL_p (.int .i64 ((x0).length : Int)) (P_len Try.underlying22 rfl k8) rfl ?_
   refine Zo l8 rfl ?_
   refine EL_p (.int .i64 ((x1).length : Int)) (P_len Try.underlying22 rfl m8) rfl ?_
   refine EL_in (.bool ((decide (((x0).length : Int) < ((x1).length : Int))))) rfl rfl rfl rfl ?_
   refine Zb (Zd ?_)
   rcases Zt h with ⟨x5, h⟩ | ⟨x5, h⟩
   ·refine E_ct x5 rfl ?_
    refine Zf (Za (Zg (.int .i64 (-1)) rfl rfl ?_))
    refine Zb (Zd (E_ret (thn_r ?_)))
    obtain rfl := sinj h
    exact end1 rfl rfl (show _ = .int .i64 (-1) from rfl) ⟨_, hfr, rfl⟩
   ·refine E_cf x5 rfl ?_
    exact Zu (Zd (d9 () _ _ ⟨t9, hfr⟩ h))
  ·rintro _ iA pA ⟨qA, hfr⟩ h
   refine Zf (Za (Zg (.int .i64 (0)) rfl rfl ?_))
   refine Zb (Zd (E_ret ?_))
   obtain rfl := sinj h
   exact end1 rfl rfl (show _ = .int .i64 (0) from rfl) ⟨_, hfr, rfl⟩
def f87 (x0 : List Int) (x1 : Int → Int → Option Int) : Option ((List Int)) :=
 (f101 ((wu64 ((x0).length : Int)))).bind fun y2 =>
 (f100 big x0 ((0 : Int)) (((x0).length : Int)) y2 x1).bind fun y4 =>
 some (y4)
theorem en87 : Enters Try.prog 87 := enters_of Try.func87 (by kernel_rfl) rfl
theorem wk87 {iI : Nat} {gI : Gh} {wI : World} {x0 : List Int} {x1 : Int → Int → Option Int} {up0 : Value} (mp0 : OM iI gI wI 3 x0 up0) {up1 : Value} (rp1 : FnV2 Try.prog x1 up1 gI wI) {r : (List Int)} (h : f87 x0 x1 = some r) : FnM Try.prog 87 #[up0, up1] iI gI wI (fun g w v => v = .tuple #[] ∧ OM iI g w 3 r up0) := by
 unfold f87 at h
 refine fnM_of_E Try.func87 rfl (Nat.le_of_ble_eq_true rfl) fun g0 hm hfr => ?_
 have o0 := mp0
 replace mp0 := mp0.enter
 rw [← hm] at mp0
 replace hm : g0.m = gI.m := by rw [hm]
 obtain ⟨ff1, fa1, fc1, rfl, fen1, fcl1⟩ := rp1
 show E _ 14 none _ _ _ _ _
 refine Zf (Za (Zn up0 rfl rfl ?_))
 refine EL_p (.int .i64 ((x0).length : Int)) (P_lenM Try.underlying22 rfl mp0) rfl ?_
 refine Zg (.int .i64 ((x0).length : Int)) rfl rfl ?_
 refine Zb (Zd (Za (Zn up0 rfl rfl ?_)))
 refine Zn (.int .i64 ((x0).length : Int)) rfl rfl ?_
 refine Zn (.int .i64 ((x0).length : Int)) rfl rfl ?_
 refine EL_p (.int .u64 (wu64 ((x0).length : Int))) (P_intu64 Try.underlying3 Try.underlying77 rfl) rfl ?_
 obtain ⟨y2, hy2, h⟩ := bsome h
 refine Ze .plain rfl (Zp (g := g0) (vs := [.int .u64 (wu64 ((x0).length : Int))]) en101 (.cons rfl .nil) (wk101  hy2) fun g1 w1_ v1 hs hr => ?_)
 have hfr := hfr.ext hs
 have mp0 := mp0.ext hs
 subst hr
 refine Zn ((.func (.func ff1) fa1 fc1)) rfl rfl ?_
 obtain ⟨y4, u0, h⟩ := bsome h
 refine Ze .plain rfl (D_callM (g := g1) (i := 1) (vs := [up0, .int .i64 (0), .int .i64 ((x0).length : Int), .int .i64 (y2), (.func (.func ff1) fa1 fc1)]) en100 (.cons rfl (.cons rfl (.cons rfl (.cons rfl (.cons rfl .nil))))) (wk100 big mp0 (FnV2.ch ⟨_, _, _, rfl, fen1, fcl1⟩ hfr.ch) u0) fun g3 w3_ v3 hs hr => ?_)
 obtain ⟨hrv, b3⟩ := hr
 have hfr := hfr.stp hs
 subst hrv
 refine Zb ?_
 obtain rfl := sinj h
 exact end0n rfl rfl ⟨_, hfr, rfl, o0.back b3⟩
def f88 (x0 : Int) (x1 : Int) (z0 : List LoomRun) : Option (Int) :=
 (idx z0 x0).bind fun y2 =>
 (idx z0 x1).bind fun y7 =>
 (f90 ((y2).From) ((y7).From)).bind fun o0 =>
 (idx z0 x0).bind fun d3 =>
 (idx z0 x1).bind fun i3 =>
 (f90 ((d3).Order) ((i3).Order)).bind fun u0 =>
 (f89 (([o0, u0] : List Int))).bind fun z2 =>
 some (z2)
theorem en88 : Enters Try.prog 88 := enters_of Try.func88 (by kernel_rfl) rfl
theorem wk88 {gI : Gh} {wI : World} {x0 : Int} {x1 : Int} {z0 : List LoomRun} {pf0 : Value} (qf0 : PT gI.m wI z0 pf0) {r : Int} (h : f88 x0 x1 z0 = some r) : Fn Try.prog 88 #[.int .i64 (x0), .int .i64 (x1), pf0] gI wI (fun _ _ v => v = .int .i64 (r)) := by
 unfold f88 at h
 refine fn_of_E Try.func88 rfl (Nat.le_of_ble_eq_true rfl) fun g0 hm hfr => ?_
 have qf0 : PT g0.m wI z0 pf0 := hm ▸ qf0
 show E _ 30 none _ _ _ _ _
 refine Zf (Za (Zg (.int .i64 (0)) rfl rfl ?_))
 refine Zb (Zd (Zf (Zs (x := .tmp 2) Try.isAgg31 Try.sizeOf31 qf0 fun v1 r1 hl1 => ?_)))
 obtain ⟨y2, hy2, h⟩ := bsome h
 have q3 := PT_idx r1 hy2
 have q4 := Zm (part_LoomRun_2).1 q3
 refine Zs (x := .tmp 9) Try.isAgg3 Try.sizeOf3 q4 fun v5 r5 d7 => ?_
 obtain rfl := Zj.1 r5
 refine Zs (x := .tmp 2) Try.isAgg31 Try.sizeOf31 qf0 fun v6 r6 e7 => ?_
 obtain ⟨y7, z4, h⟩ := bsome h
 have q8 := PT_idx r6 z4
 have q9 := Zm (part_LoomRun_2).1 q8
 refine Zs (x := .tmp 14) Try.isAgg3 Try.sizeOf3 q9 fun o7 g7 x5 => ?_
 obtain rfl := Zj.1 g7
 obtain ⟨o0, i6, h⟩ := bsome h
 refine Zs (x := .tmp 2) Try.isAgg31 Try.sizeOf31 qf0 fun j3 i5 j6 => ?_
 obtain ⟨d3, o3, h⟩ := bsome h
 have l5 := PT_idx i5 o3
 have i7 := Zm (part_LoomRun_0).1 l5
 refine Zs (x := .tmp 20) Try.isAgg3 Try.sizeOf3 i7 fun u7 j7 x6 => ?_
 obtain rfl := Zj.1 j7
 refine Zs (x := .tmp 2) Try.isAgg31 Try.sizeOf31 qf0 fun u3 q5 y6 => ?_
 obtain ⟨i3, z3, h⟩ := bsome h
 have t5 := PT_idx q5 z3
 have m7 := Zm (part_LoomRun_0).1 t5
 refine Zs (x := .tmp 25) Try.isAgg3 Try.sizeOf3 m7 fun v7 n7 a7 => ?_
 obtain rfl := Zj.1 n7
 obtain ⟨u0, b7, h⟩ := bsome h
 obtain ⟨z2, c7, h⟩ := bsome h
 refine E_drawL (g := g0) (n := 25) [(10, (fun v g w => v = .int .i64 (o0))), (21, (fun v g w => v = .int .i64 (u0))), (22, (fun v g w => RV g.m w ([o0, u0] : List Int) v ∧ OS 3028 g w 3 ([o0, u0] : List Int) v ∧ FullV v)), (23, (fun v g w => v = .int .i64 (z2)))] [0, 1, 2, 3, 4, 5, 6, 7, 8, 9, 10, 11, 12, 13, 14, 15, 16, 17, 18, 19, 20, 21, 22, 23, 24] rfl mixed (by kernel_rfl) (⟨fun _ => up_eq _, fun _ => up_eq _, fun _ => up_and up_rv (up_and up_os (up_eq _)), fun _ => up_eq _, trivial⟩) ?_
 refine L_ld (c := v1) rfl rfl .plain (fun _ _ h => h.ch) hl1 rfl ?_
 refine L_p (.int .i64 (x0)) rfl rfl (Zk rfl) ?_
 refine L_p (ePtr v1 x0 3) rfl rfl (Zh (α := LoomRun) Try.underlying31 Try.sizeOf76 rfl r1 rfl hy2) ?_
 refine L_p (fPtr (ePtr v1 x0 3) 2) rfl rfl (Zc at_76_2 rfl (PT.ptr q3)) ?_
 refine L_ld (c := .int .i64 ((y2).From)) rfl rfl .plain (fun _ _ h => h.ch) d7 rfl ?_
 refine L_ld (c := v6) rfl rfl .plain (fun _ _ h => h.ch) e7 rfl ?_
 refine L_p (.int .i64 (x1)) rfl rfl (Zk rfl) ?_
 refine L_p (ePtr v6 x1 3) rfl rfl (Zh (α := LoomRun) Try.underlying31 Try.sizeOf76 rfl r6 rfl z4) ?_
 refine L_p (fPtr (ePtr v6 x1 3) 2) rfl rfl (Zc at_76_2 rfl (PT.ptr q8)) ?_
 refine L_ld (c := .int .i64 ((y7).From)) rfl rfl .plain (fun _ _ h => h.ch) x5 rfl ?_
 refine L_do (φ := fun v g w => v = .int .i64 (o0)) rfl rfl .plain (fun g w hd => Zp (g := g) (vs := [.int .i64 ((y2).From), .int .i64 ((y7).From)]) en90 (.cons rfl (.cons rfl .nil)) (wk90  i6) fun g' w' v hs hr => ⟨g', hs, hr⟩) (fun c8 hv => ?_)
 obtain ⟨_, _, _, rfl⟩ := hv
 refine L_ld (c := j3) rfl rfl .plain (fun _ _ h => h.ch) j6 rfl ?_
 refine L_p (.int .i64 (x0)) rfl rfl (Zk rfl) ?_
 refine L_p (ePtr j3 x0 3) rfl rfl (Zh (α := LoomRun) Try.underlying31 Try.sizeOf76 rfl i5 rfl o3) ?_
 refine L_p (fPtr (ePtr j3 x0 3) 0) rfl rfl (Zc at_76_0 rfl (PT.ptr l5)) ?_
 refine L_ld (c := .int .i64 ((d3).Order)) rfl rfl .plain (fun _ _ h => h.ch) x6 rfl ?_
 refine L_ld (c := u3) rfl rfl .plain (fun _ _ h => h.ch) y6 rfl ?_
 refine L_p (.int .i64 (x1)) rfl rfl (Zk rfl) ?_
 refine L_p (ePtr u3 x1 3) rfl rfl (Zh (α := LoomRun) Try.underlying31 Try.sizeOf76 rfl q5 rfl z3) ?_
 refine L_p (fPtr (ePtr u3 x1 3) 0) rfl rfl (Zc at_76_0 rfl (PT.ptr t5)) ?_
 refine L_ld (c := .int .i64 ((i3).Order)) rfl rfl .plain (fun _ _ h => h.ch) a7 rfl ?_
 refine L_do (φ := fun v g w => v = .int .i64 (u0)) rfl rfl .plain (fun g w hd => Zp (g := g) (vs := [.int .i64 ((d3).Order), .int .i64 ((i3).Order)]) en90 (.cons rfl (.cons rfl .nil)) (wk90  b7) fun g' w' v hs hr => ⟨g', hs, hr⟩) (fun e8 hv => ?_)
 obtain ⟨_, _, _, rfl⟩ := hv
 refine L_do (φ := fun v g w => RV g.m w ([o0, u0] : List Int) v ∧ OS 3028 g w 3 ([o0, u0] : List Int) v ∧ FullV v) rfl rfl .plain (fun g w hd => D_buildSlice (g := g) 3028 (xs := ([o0, u0] : List Int)) (vs := [.int .i64 (o0), .int .i64 (u0)]) Try.underlying22 Try.sizeOf3 Try.zeroValue3 rfl rfl (.cons rfl (.cons rfl .nil)) (RVs.cons (Zj.2 rfl) (RVs.cons (Zj.2 rfl) RVs.nil)) rfl rfl fun g' w' v hs o r hxt hfl => ⟨g', hxt, r, o, hfl⟩) (fun j1 hv => ?_)
 clear hv
 refine L_do (φ := fun v g w => v = .int .i64 (z2)) rfl rfl .plain (fun g w hd => Zp (g := g) (vs := [j1]) en89 (.cons rfl .nil) (wk89 (word (A := fun g w => RV g.m w ([o0, u0] : List Int) j1 ∧ OS 3028 g w 3 ([o0, u0] : List Int) j1 ∧ FullV j1) 22 rfl rfl (deps_of hd)).1 c7) fun g' w' v hs hr => ⟨g', hs, hr⟩) (fun g8 hv => ?_)
 obtain ⟨_, _, _, rfl⟩ := hv
 refine L_p (.int .i64 (z2)) rfl rfl (P_assign rfl) ?_
 refine L_nil fun i8 k8 hall => ?_
 have hs := hall.1
 have hfr := hfr.ext hs
 have l8 := (word_all (A := fun g w => RV g.m w ([o0, u0] : List Int) j1 ∧ OS 3028 g w 3 ([o0, u0] : List Int) j1 ∧ FullV j1) 22 rfl hall).1
 have o55 := (word_all (A := fun g w => RV g.m w ([o0, u0] : List Int) j1 ∧ OS 3028 g w 3 ([o0, u0] : List Int) j1 ∧ FullV j1) 22 rfl hall).2.1
 clear hs hall
 refine Zb (Zd (E_ret ?_))
 obtain rfl := sinj h
 exact end1 rfl rfl (show _ = .int .i64 (z2) from rfl) ⟨_, hfr, rfl⟩
def f21 : Nat → (LoomMill) → (List LoomOrder) → (List LoomRun) → Option ((List LoomRun) × Bool)
 | 0, _, _, _ => none
 | n + 1, x0, x1, x2 =>
  jn (σ := Unit) (fun _ =>
   jn (σ := Unit) (fun _ =>
    (idx x1 ((x2).length : Int)).bind fun u3 =>
    jn (σ := Unit) (fun _ =>
     some ([], false)
     ) fun kA =>
    lp (σ := Int) (fun lA o0 =>
     jn (σ := Unit) (fun _ =>
      jn (σ := Unit) (fun _ =>
       lA ((w64 (o0 + (1 : Int))))
       ) fun mA =>
      lp (σ := Int) (fun nA u0 =>
       jn (σ := Unit) (fun _ =>
        jn (σ := Unit) (fun _ =>
         nA ((w64 (u0 + (1 : Int))))
         ) fun oA =>
        (apnd 24 (([] : List LoomRun)) x2).bind fun z3 =>
        (apnd 24 z3 (([(⟨((x2).length : Int), u0, o0⟩ : LoomRun)] : List LoomRun))).bind fun pA =>
        (f21 n x0 x1 pA).bind fun t5 =>
        bif t5.2 then
         some (t5.1, true)
        else
         oA ()
        ) fun qA =>
       bif (decide (u0 < (((x0).Widths).length : Int))) then
        qA ()
       else
        mA ()
       ) big ((0 : Int))
      ) fun rA =>
     bif (decide ((w64 (o0 + (u3).Woven)) ≤ (u3).Late)) then
      rA ()
     else
      kA ()
     ) big ((u3).Early)
    ) fun mD =>
   bif (((x2).length : Int) == ((x1).length : Int)) then
    some (x2, true)
   else
    mD ()
   ) fun k6 =>
  (f35 x0 x1 x2).bind fun y9 =>
  bif (y9.2 != (0 : Int)) then
   some ([], false)
  else
   k6 ()
def f51 (x0 : LoomLoomMill) (x1 : List Int) (x2 : List (Int × LoomRun)) : Option ((List Bool)) :=
 (shl64 (1 : Int) (((x0).orders).length : Int)).bind fun y4 =>
 (mks 1 (false : Bool) y4).bind fun y5 =>
 (idx y5 (0 : Int)).bind fun mI =>
 Option.bind (α := (List Bool)) (
  lp (σ := (List Bool) × Int) (fun uD (i7, x5) =>
   bif (decide (x5 < ((x1).length : Int))) then
    Option.bind (α := (List Bool)) (
     (idx x1 x5).bind fun o9 =>
     (f83 x0 o9 x2).bind fun j6 =>
     (mks 1 (false : Bool) (((i7).length : Int))).bind fun i8 =>
     Option.bind (α := (List Bool)) (
      lp (σ := (List Bool) × Int) (fun vD (v8, o0) =>
       bif (decide (o0 < ((i8).length : Int))) then
        Option.bind (α := (List Bool)) (
         (f84 o0).bind fun oB =>
         (oB ((List Bool)) (fun y6 i6 =>
          (idx y6 o0).bind fun c8 =>
          bif c8 then
           (idx y6 o0).bind fun kG =>
           some (true, ((List.set y6 (Int.toNat o0) true)))
          else
           (idx j6 i6).bind fun n8 =>
           bif n8 then
            (idx i7 (bit64 .andNot o0 i6)).bind fun a9 =>
            (idx y6 o0).bind fun lG =>
            some (true, ((List.set y6 (Int.toNat o0) a9)))
           else
            (idx y6 o0).bind fun mG =>
            some (true, ((List.set y6 (Int.toNat o0) false)))
          ) (v8)).bind fun mA =>
         some (mA)
         ) fun x8 =>
        vD (x8, (w64 (o0 + (1 : Int))))
       else
        some (v8)
       ) big (i8, (0 : Int))
      ) fun i9 =>
     some (i9)
     ) fun d9 =>
    uD (d9, (w64 (x5 + (1 : Int))))
   else
    some (i7)
   ) big ((List.set y5 (Int.toNat (0 : Int)) true), (0 : Int))
  ) fun u9 =>
 some (u9)
theorem en51 : Enters Try.prog 51 := enters_of Try.func51 (by kernel_rfl) rfl
theorem wk51 {gI : Gh} {wI : World} {x0 : LoomLoomMill} {x1 : List Int} {x2 : List (Int × LoomRun)} {up0 : Value} (rp0 : RV gI.m wI x0 up0) {up1 : Value} (rp1 : RV gI.m wI x1 up1) {up2 : Value} (mq2 : MR (Value.int .i64) gI wI x2 up2) {r : (List Bool)} (h : f51 x0 x1 x2 = some r) : Fn Try.prog 51 #[up0, up1, up2] gI wI (fun m w v => RV m w (r) v) := by
 unfold f51 at h
 refine fnD_of_E Try.func51 rfl (Nat.le_of_ble_eq_true rfl) fun g0 hm hfr => ?_
 have hmk : MkF g0 wI [] := MkF.start
 have rp0 : RV g0.m wI x0 up0 := hm ▸ rp0
 have rp1 : RV g0.m wI x1 up1 := hm ▸ rp1
 have mq2 := MQ.enter mq2 hm hfr
 show E _ 67 none _ _ _ _ _
 refine Zf (Za (Ze .plain rfl (D_box (g := g0) rfl rp0 fun g1 w1 p1 hs q1 => ?_)))
 have hfr := hfr.ext hs
 have hmk := hmk.ext hs
 have rp1 := rp1.ext hs
 have mq2 := mq2.ext hs
 refine Zg (.slice none 0 0) rfl rfl ?_
 refine Zb (Zd (Zf (Za (EL_p (fPtr p1 2) (Zc at_96_1 rfl (PT.ptr q1)) rfl ?_))))
 have q2 := Zm (part_LoomLoomMill_1).1 q1
 refine Ze .plain rfl (D_load (g := g1) Try.isAgg25 Try.sizeOf25 rfl q2 fun v3 r3 => ?_)
 refine EL_p (.int .i64 (((x0).orders).length : Int)) (P_len Try.underlying25 rfl r3) rfl ?_
 obtain ⟨y4, nI, h⟩ := bsome h
 refine EL_p (.int .i64 (y4)) (P_int rfl rfl (congrArg (Option.map (Value.int .i64)) nI)) rfl ?_
 obtain ⟨y5, hy5, h⟩ := bsome h
 refine Ze .plain rfl (D_makeSliceM (g := g1) 9018 (false : Bool) rfl Try.underlying101 info_4 rfl (fun _ _ => rfl) rfl rfl hy5 fun g6 w6 v6 hs b6 => ?_)
 have hfr := hfr.stp hs
 have hmk := hmk.stp hs
 have rp1 := rp1.stp hs
 have mq2 := mq2.stp hs
 have q1 := q1.stp hs
 refine Ze .plain rfl (D_allocOc (g := g6) 2007 (⟨.slice none 0 0, rfl⟩ : Fv) Try.zeroValue101 (fun _ _ => fv0_rep) fun g7 w7 p7 hs b7 cb => ?_)
 clear cb
 have hfr := hfr.stp hs
 have hmk := hmk.stp hs
 have rp1 := rp1.stp hs
 have mq2 := mq2.stp hs
 have q1 := q1.stp hs
 have b6 := b6.stp hs rfl
 have z7 : OA 4007 g7 w7 4 ([] : List Bool) (.slice none 0 0) := OA.nil
 have on8 := om_one b6
 refine Ze .plain rfl (D_storeOc (g := g7) (v := v6) (a' := (⟨v6, on8⟩ : Fv)) Try.sizeOf101 rfl b7 rfl (RV_fv.2 rfl) fun g8 w8 hs b8 cb => ?_)
 clear cb
 have hfr := hfr.stp hs
 have hmk := hmk.stp hs
 have rp1 := rp1.stp hs
 have mq2 := mq2.stp hs
 have q1 := q1.stp hs
 have b6 := b6.stp hs rfl
 refine Zb (Zd (Zf (Za (Ze .plain rfl (D_loadO (α := Fv) (g := g8) Try.isAgg101 Try.sizeOf101 rfl b8 fun v9 r9 => ?_)))))
 have e9 : v9 = v6 := RV_fv.1 r9
 clear r9
 subst v9
 obtain ⟨mI, yF, h⟩ := bsome h
 refine EL_p (ePtr v6 (0 : Int) 1) (P_indexAddrM (α := Bool) Try.underlying101 Try.sizeOf4 rfl b6 rfl yF) rfl ?_
 refine Ze .plain rfl (D_storeM (g := g8) (α := Bool) (a' := true) Try.sizeOf4 rfl b6 yF rfl (RV_bool.2 rfl) fun nK oK hs b11 => ?_)
 have hfr := hfr.stp hs
 have hmk := hmk.stp hs
 have rp1 := rp1.stp hs
 have mq2 := mq2.stp hs
 have q1 := q1.stp hs
 have b8 := b8.stp hs rfl
 refine Zb (Zd ?_)
 obtain ⟨u9, hx, h⟩ := bsome h
 refine E_joinD (fun e ds w => ∃ (g : Gh) , Fr gI wI g w ∧ MkF g w ds ∧ e 7 = p7 ∧ OB 2007 g w 101 (u9 : List Bool) p7) (fun Q' hQ => ?_) (fun oI bI xI hR => ?_)
 ·replace h := hx
  clear hx
  refine Zf (Za (Zn up1 rfl rfl ?_))
  refine EL_p (.int .i64 ((x1).length : Int)) (P_len Try.underlying22 rfl rp1) rfl ?_
  refine Zn (.int .i64 (0)) rfl rfl ?_
  refine Zb (Zd (Zr ?_))
  obtain ⟨gp2345, hs, rp2345⟩ := OM.pub b11
  have hfr := hfr.stp hs
  have hmk := hmk.stp hs
  have rp1 := rp1.stp hs
  have mq2 := mq2.stp hs
  have q1 := q1.stp hs
  have b8 := b8.stp hs rfl
  have ub2345 := OB.ofRV b8 rp2345
  refine E_lpD h (fun (s : (List Bool) × Int) e ds w => ∃ (g : Gh) , Fr gI wI g w ∧ MkF g w ds ∧ e 2 = up2 ∧ MQ (Value.int .i64) wI.heap.size g w (x2 : List (Int × LoomRun)) up2 ∧ e 3 = p1 ∧ PT g.m w (x0 : LoomLoomMill) p1 ∧ e 7 = p7 ∧ OB 2007 g w 101 (s.1 : List Bool) p7 ∧ e 21 = up1 ∧ RV g.m w (x1 : List Int) up1 ∧ e 22 = .int .i64 (((x1).length : Int)) ∧ e 23 = .int .i64 (s.2)) ⟨gp2345, hfr, hmk, rfl, mq2, rfl, q1, rfl, ub2345, rfl, rp1, rfl, rfl⟩ (fun X2346 uD zF => ?_)
  rintro ⟨i7, x5⟩ pI cI xD ⟨iA, hfr, hmk, iB, k8, jB, l8, y9, e8, nA, m7, oA, k9⟩ h
  refine Zf (Za (EL_in (.bool ((decide (x5 < ((x1).length : Int))))) k9 oA rfl rfl ?_))
  refine Zb (Zd (Zf ?_))
  rcases Zt h with ⟨pA, h⟩ | ⟨pA, h⟩
  ·refine E_ct pA rfl ?_
   refine Zu (Zd ?_)
   obtain ⟨d9, hx, h⟩ := bsome h
   refine E_joinD (fun e ds w => ∃ (g : Gh) , Fr gI wI g w ∧ MkF g w ds ∧ e 2 = up2 ∧ MQ (Value.int .i64) wI.heap.size g w (x2 : List (Int × LoomRun)) up2 ∧ e 3 = p1 ∧ PT g.m w (x0 : LoomLoomMill) p1 ∧ e 7 = p7 ∧ OB 2007 g w 101 (d9 : List Bool) p7 ∧ e 21 = up1 ∧ RV g.m w (x1 : List Int) up1 ∧ e 22 = .int .i64 (((x1).length : Int)) ∧ e 23 = .int .i64 (x5)) (fun Q' hQ => ?_) (fun qI dI yI hR => ?_)
   ·replace h := hx
    clear hx
    refine Zr ?_
    refine Zf (Za ?_)
    obtain ⟨o9, xB, h⟩ := bsome h
    refine EL_p (ePtr up1 x5 1) (Zh (α := Int) Try.underlying22 Try.sizeOf3 nA m7 k9 xB) rfl ?_
    have nG := PT_idx m7 xB
    refine Ze .plain rfl (D_load (g := iA) Try.isAgg3 Try.sizeOf3 rfl nG fun zI oG => ?_)
    obtain rfl := Zj.1 oG
    refine Zg (.int .i64 (o9)) rfl rfl ?_
    refine Zb (Zd (Zf (Zs (x := .tmp 3) Try.isAgg96 Try.sizeOf96 l8 fun yD pG aG => ?_)))
    obtain ⟨j6, bG, h⟩ := bsome h
    refine L_loadO0 (x := .tmp 7) Try.isAgg101 Try.sizeOf101 e8 fun qG rG cG => ?_
    obtain ⟨i8, dG, h⟩ := bsome h
    have z3523 : OA 4011 iA xD 4 ([] : List Bool) (.slice none 0 0) := OA.nil
    refine E_drawV (g := iA) (w := xD) (i := 2010) (t2 := 101) (a0 := ([] : List Bool)) (a1 := (j6 : List Bool)) (n := 10) [(3, (fun _ v g w => RV g.m w j6 v)), (6, (fun _ v g w => OM 9033 g w 4 i8 v)), (7, (fun _ v => varA 2010 101 ([] : List Bool) (j6 : List Bool) v)), (8, (fun _ v g w => OB 2011 g w 101 (⟨.slice none 0 0, rfl⟩ : Fv) v)), (9, (fun e _ g w => OB 2010 g w 101 (j6 : List Bool) (ev e (.tmp 10))))] [0, 1, 2, 3, 4, 5, 6, 7, 8, 9] rfl mixed (by kernel_rfl) (⟨fun _ _ => upV_rv, fun _ _ => upV_om, fun _ _ => up_var0, fun _ _ => upV_ob, fun _ _ => up_var1, trivial⟩) (⟨fun _ _ _ _ _ _ => rfl, fun _ _ _ _ _ _ => rfl, fun _ _ _ _ _ _ => rfl, fun _ _ _ _ _ _ => rfl, wok_store (A := fun p g w => OB 2010 g w 101 (j6 : List Bool) p) rfl, trivial⟩) ?_
    refine L_ld (c := yD) rfl rfl .plain (fun _ _ h => h.ch) aG jB ?_
    refine L_p (.int .i64 (o9)) rfl rfl (Zk rfl) ?_
    refine L_p up2 rfl rfl (Zk iB) ?_
    refine L_do (φ := fun v g w => RV g.m w j6 v) rfl rfl .plain (fun g w hd => Zp (g := g) (vs := [yD, .int .i64 (o9), up2]) en83 (.cons rfl (.cons rfl (.cons rfl .nil))) (wk83 (pG.stp hd.1) (k8.stp hd.1).r bG) fun g' w' v hs hr => ⟨g', var_ext hs, hr⟩) (fun zD hv => ?_)
    obtain ⟨_, _, _, rq3517⟩ := hv
    refine L_ld (c := qG) rfl rfl .plain (fun _ _ h => ⟨h.ch, fun b hb ho => h.block b hb (by rw [ho]; decide)⟩) cG y9 ?_
    refine L_p (.int .i64 ((i7).length : Int)) rfl rfl (P_len Try.underlying101 rfl rG) ?_
    refine L_do (φ := fun v g w => OM 9033 g w 4 i8 v) rfl rfl .plain (fun g w hd => D_makeSliceX (g := g) 9033 (false : Bool) rfl Try.underlying101 info_4 rfl (fun _ _ => rfl) rfl rfl dG fun g' w' v hs b => ⟨g', var_ext hs, b⟩) (fun jA hv => ?_)
    clear hv
    refine L_do (φ := fun v => varA 2010 101 ([] : List Bool) (j6 : List Bool) v) rfl rfl .plain (fun g w hd => D_allocX (g := g) 2010 ([] : List Bool) Try.zeroValue101 (fun m w => ⟨_, rep_nil, rfl⟩) fun g' w' v hs b => ⟨g', var_ext hs, .inl b⟩) (fun o8 hv => ?_)
    clear hv
    refine L_do (φ := fun v g w => OB 2011 g w 101 (⟨.slice none 0 0, rfl⟩ : Fv) v) rfl rfl .plain (fun g w hd => D_allocX (g := g) 2011 (⟨.slice none 0 0, rfl⟩ : Fv) Try.zeroValue101 (fun _ _ => fv0_rep) fun g' w' v hs b => ⟨g', var_ext hs, b⟩) (fun q8 hv => ?_)
    clear hv
    refine L_do (φ := fun _ g w => OB 2010 g w 101 (j6 : List Bool) o8) rfl rfl .plain (fun g w hd => D_storeV (g := g) Try.sizeOf101 rfl (word (A := varA 2010 101 ([] : List Bool) (j6 : List Bool) o8) 7 rfl rfl (deps_of hd)) rfl (word (A := fun g w => RV g.m w j6 zD) 3 rfl rfl (deps_of hd))) (fun aJ hv => ?_)
    clear hv
    refine L_nil fun sG bJ hall => ?_
    have hs := hall.1
    have hfr := hfr.stp hs
    have hmk := hmk.stp hs
    have k8 := k8.stp hs
    have l8 := l8.stp hs
    have e8 := e8.stp hs rfl
    have m7 := m7.stp hs
    have cJ := (word_all (A := fun g w => RV g.m w j6 zD) 3 rfl hall)
    have b3542 := (word_all (A := fun g w => OM 9033 g w 4 i8 jA) 6 rfl hall)
    have b3543 := (word_all (A := fun g w => OB 2010 g w 101 (j6 : List Bool) o8) 9 rfl hall)
    have b3544 := (word_all (A := fun g w => OB 2011 g w 101 (⟨.slice none 0 0, rfl⟩ : Fv) q8) 8 rfl hall)
    clear hs hall
    have on3546 := om_one b3542
    refine Ze .plain rfl (D_storeOc (g := sG) (v := jA) (a' := (⟨jA, on3546⟩ : Fv)) Try.sizeOf101 rfl b3544 rfl (RV_fv.2 rfl) fun aE dJ hs b3546 cb => ?_)
    clear cb
    have hfr := hfr.stp hs
    have hmk := hmk.stp hs
    have k8 := k8.stp hs
    have l8 := l8.stp hs
    have e8 := e8.stp hs rfl
    have m7 := m7.stp hs
    have b3542 := b3542.stp hs rfl
    have b3543 := b3543.stp hs rfl
    refine Zb (Zd ?_)
    obtain ⟨i9, hx, h⟩ := bsome h
    refine E_joinD (fun e ds w => ∃ (g : Gh) , Fr gI wI g w ∧ MkF g w ds ∧ e 2 = up2 ∧ MQ (Value.int .i64) wI.heap.size g w (x2 : List (Int × LoomRun)) up2 ∧ e 3 = p1 ∧ PT g.m w (x0 : LoomLoomMill) p1 ∧ e 7 = p7 ∧ OB 2007 g w 101 (i7 : List Bool) p7 ∧ e 11 = q8 ∧ BX 2011 9033 g w 4 101 (i9 : List Bool) q8 ∧ e 21 = up1 ∧ RV g.m w (x1 : List Int) up1 ∧ e 22 = .int .i64 (((x1).length : Int)) ∧ e 23 = .int .i64 (x5)) (fun Q' hQ => ?_) (fun rI iI eJ hR => ?_)
    ·replace h := hx
     clear hx
     refine Zf (Za (Ze .plain rfl (D_loadO (α := Fv) (g := aE) Try.isAgg101 Try.sizeOf101 rfl b3546 fun bE cE => ?_)))
     have e4110 : bE = jA := RV_fv.1 cE
     clear cE
     subst bE
     refine EL_p (.int .i64 ((i8).length : Int)) (P_lenM Try.underlying101 rfl b3542) rfl ?_
     refine Zn (.int .i64 (0)) rfl rfl ?_
     refine Zb (Zd (Zr ?_))
     refine E_lpD h (fun (s : (List Bool) × Int) e ds w => ∃ (g : Gh) , Fr gI wI g w ∧ MkF g w ds ∧ e 2 = up2 ∧ MQ (Value.int .i64) wI.heap.size g w (x2 : List (Int × LoomRun)) up2 ∧ e 3 = p1 ∧ PT g.m w (x0 : LoomLoomMill) p1 ∧ e 7 = p7 ∧ OB 2007 g w 101 (i7 : List Bool) p7 ∧ e 10 = o8 ∧ OB 2010 g w 101 (j6 : List Bool) o8 ∧ e 11 = q8 ∧ BX 2011 9033 g w 4 101 (s.1 : List Bool) q8 ∧ e 21 = up1 ∧ RV g.m w (x1 : List Int) up1 ∧ e 22 = .int .i64 (((x1).length : Int)) ∧ e 23 = .int .i64 (x5) ∧ e 35 = .int .i64 (((i8).length : Int)) ∧ e 36 = .int .i64 (s.2)) ⟨aE, hfr, hmk, iB, k8, jB, l8, y9, e8, rfl, b3543, rfl, ⟨_, b3546, b3542⟩, nA, m7, oA, k9, rfl, rfl⟩ (fun X4111 vD eG => ?_)
     rintro ⟨v8, o0⟩ sI kB gJ ⟨dE, hfr, hmk, lB, o7, mB, u7, bA, v7, l9, n7, a7, ⟨vH, c7, d7⟩, qA, e7, rA, sA, uA, n9⟩ h
     refine Zf (Za (EL_in (.bool ((decide (o0 < ((i8).length : Int))))) n9 uA rfl rfl ?_))
     refine Zb (Zd (Zf ?_))
     rcases Zt h with ⟨xA, h⟩ | ⟨xA, h⟩
     ·refine E_ct xA rfl ?_
      refine Zu (Zd ?_)
      obtain ⟨x8, hx, h⟩ := bsome h
      refine E_joinD (fun e ds w => ∃ (g : Gh) , Fr gI wI g w ∧ MkF g w ds ∧ e 2 = up2 ∧ MQ (Value.int .i64) wI.heap.size g w (x2 : List (Int × LoomRun)) up2 ∧ e 3 = p1 ∧ PT g.m w (x0 : LoomLoomMill) p1 ∧ e 7 = p7 ∧ OB 2007 g w 101 (i7 : List Bool) p7 ∧ e 10 = o8 ∧ OB 2010 g w 101 (j6 : List Bool) o8 ∧ e 11 = q8 ∧ BX 2011 9033 g w 4 101 (x8 : List Bool) q8 ∧ e 21 = up1 ∧ RV g.m w (x1 : List Int) up1 ∧ e 22 = .int .i64 (((x1).length : Int)) ∧ e 23 = .int .i64 (x5) ∧ e 35 = .int .i64 (((i8).length : Int)) ∧ e 36 = .int .i64 (o0)) (fun Q' hQ => ?_) (fun tI jI iJ hR => ?_)
      ·replace h := hx
       clear hx
       refine Zr ?_
       refine Zf (Za (Zo n9 rfl ?_))
       refine Ze .plain rfl (D_allocOc (g := dE) 2012 (0 : Int) Try.zeroValue3 (fun m w => ⟨_, rep_int, rfl⟩) fun tG jJ uG hs b4393 cb => ?_)
       have hfr := hfr.stp hs
       have hmk := hmk.stp hs
       have o7 := o7.stp hs
       have u7 := u7.stp hs
       have v7 := v7.stp hs rfl
       have n7 := n7.stp hs rfl
       have c7 := c7.stp hs rfl
       have d7 := d7.stp hs rfl
       have e7 := e7.stp hs
       clear cb
       refine Ze .plain rfl (D_storeOc (g := tG) (v := .int .i64 (o0)) Try.sizeOf3 rfl b4393 rfl (Zj.2 rfl) fun eE kJ hs b4394 cb => ?_)
       clear cb
       have hfr := hfr.stp hs
       have hmk := hmk.stp hs
       have o7 := o7.stp hs
       have u7 := u7.stp hs
       have v7 := v7.stp hs rfl
       have n7 := n7.stp hs rfl
       have c7 := c7.stp hs rfl
       have d7 := d7.stp hs rfl
       have e7 := e7.stp hs
       refine Zb (Zd (Zf (Za (Ze .plain rfl (D_loadO (g := eE) Try.isAgg3 Try.sizeOf3 rfl b4394 fun lJ vG => ?_)))))
       obtain rfl := Zj.1 vG
       obtain ⟨oB, gG, h⟩ := bsome h
       refine Ze .plain rfl (Zp (g := eE) (vs := [.int .i64 (o0)]) en84 (.cons rfl .nil) (wk84  gG) fun mJ uI xG hs hr => ?_)
       have hfr := hfr.ext hs
       have hmk := hmk.ext hs
       have o7 := o7.ext hs
       have u7 := u7.ext hs
       have v7 := v7.ext hs
       have n7 := n7.ext hs
       have c7 := c7.ext hs
       have d7 := d7.ext hs
       have e7 := e7.ext hs
       have b4394 := b4394.ext hs
       have gE := hr
       refine Zb (Zd (Zr ?_))
       have hB0 := hfr.size
       have hmk0 := hmk
       obtain ⟨mA, hφ, h⟩ := bsome h
       refine E_rangeFunc (σ := ((List Bool))) (s0 := (v8)) 10 rfl (fun _ => 0) [] (fun (s : (List Bool)) (g : Gh) (w : World) => Fr gI wI g w ∧ MkF g w kB ∧ MQ (Value.int .i64) wI.heap.size g w (x2 : List (Int × LoomRun)) up2 ∧ PT g.m w (x0 : LoomLoomMill) p1 ∧ OB 2007 g w 101 (i7 : List Bool) p7 ∧ OB 2010 g w 101 (j6 : List Bool) o8 ∧ BX 2011 9033 g w 4 101 (s : List Bool) q8 ∧ OB 2012 g w 3 (o0 : Int) uG ∧ RV g.m w (x1 : List Int) up1 ∧ ItV Try.prog (RA1 (α := Int)) oB xG g.m w) rfl gE hφ (fun _ _ _ _ => rfl) rfl ra1_size rfl (fun _ _ _ _ _ hx hR => by obtain ⟨hfr, hmk, z2, z3, z4, z5, z6, z7, z8, z9⟩ := hR; exact ⟨hfr.ist hx hB0, hmk.ist hx, z2.ist hx hB0, z3.ist hx, z4.ist hx, z5.ist hx, z6.ist hx, z7.ist hx, z8.ist hx, z9.ist hx⟩) (fun _ _ _ _ _ hx hR => by obtain ⟨hfr, hmk, z2, z3, z4, z5, z6, z7, z8, z9⟩ := hR; exact ⟨hfr.stp hx, hmk.stp hx, z2.stp hx, z3.stp hx, z4.stp hx rfl, z5.stp hx rfl, z6.stp hx rfl, z7.stp hx rfl, z8.stp hx, z9.stp hx⟩) ⟨hfr, hmk, o7, u7, v7, n7, ⟨_, c7, d7⟩, b4394, e7, gE⟩ (fun _ h => by cases h) ?_ ?_
       ·intro vI kI s x b s2 kA yG vs hsz h hR hrec_0 iC hrd
        obtain ⟨y6, hse⟩ : ∃ y, y = s := ⟨s, rfl⟩
        subst hse
        obtain ⟨hfr, hmk, i5, l5, u3, d3, ⟨q5, j1, i3⟩, u0, j3, o3⟩ := hR
        obtain ⟨i6, hxe⟩ : ∃ y, y = x := ⟨x, rfl⟩
        subst hxe
        obtain ⟨tE, rfl, jC⟩ := ra1_get hrd
        obtain rfl : tE = .int .i64 (i6) := Zj.1 jC
        have x6 := RFr.refl kA yG
        refine Za (Zg (.int .i64 (i6)) rfl rfl ?_)
        refine Zb (Zd ?_)
        obtain ⟨zG, hbr, hs, hrN⟩ := begin_round hrec_0 iC
        refine ⟨zG, hbr, ?_⟩
        have hfr := hfr.stp hs
        have hmk := hmk.stp hs
        have x6 := x6.stp hs
        have i5 := i5.stp hs
        have l5 := l5.stp hs
        have u3 := u3.stp hs rfl
        have d3 := d3.stp hs rfl
        have j1 := j1.stp hs rfl
        have i3 := i3.stp hs rfl
        have u0 := u0.stp hs rfl
        have j3 := j3.stp hs
        have o3 := o3.stp hs
        have hrec_0 := hrN
        clear hbr hs hrN
        refine Zr ?_
        refine L_loadO0 (α := Fv) (x := .tmp 11) Try.isAgg101 Try.sizeOf101 j1 fun iE jE yA => ?_
        have e4536 : iE = q5.v := RV_fv.1 jE
        clear jE
        subst iE
        refine L_loadO0 (x := .tmp 12) Try.isAgg3 Try.sizeOf3 u0 fun nJ aH zA => ?_
        obtain rfl := Zj.1 aH
        refine L_loadO0 (α := Fv) (x := .tmp 11) Try.isAgg101 Try.sizeOf101 j1 fun kE lE aB => ?_
        have e4538 : kE = q5.v := RV_fv.1 lE
        clear lE
        subst kE
        refine L_loadO0 (x := .tmp 12) Try.isAgg3 Try.sizeOf3 u0 fun oJ bH bB => ?_
        obtain rfl := Zj.1 bH
        obtain ⟨c8, t9, h⟩ := bsome h
        refine L_loadM (x := .tmp 46) Try.isAgg4 Try.sizeOf4 i3 t9 fun pJ cH cB => ?_
        obtain rfl := RV_bool.1 cH
        rcases Zt h with ⟨t5, h⟩ | ⟨t5, h⟩
        ·obtain ⟨kG, yB, h⟩ := bsome h
         refine E_drawL (g := kA) (n := 21) [] [0, 1, 2, 3, 4, 5, 6, 7, 8, 9, 10, 11, 12, 13, 14, 15, 16, 17, 18, 19, 20] rfl mixed (by kernel_rfl) trivial ?_
         refine L_ld (c := q5.v) rfl rfl .plain (fun _ _ h => ⟨h.ch, fun b hb _ => h.below.block b hb⟩) yA a7 ?_
         refine L_ld (c := .int .i64 (o0)) rfl rfl .plain (fun _ _ h => ⟨h.ch, fun b hb _ => h.below.block b hb⟩) zA rfl ?_
         refine L_ld (c := q5.v) rfl rfl .plain (fun _ _ h => ⟨h.ch, fun b hb _ => h.below.block b hb⟩) aB a7 ?_
         refine L_ld (c := .int .i64 (o0)) rfl rfl .plain (fun _ _ h => ⟨h.ch, fun b hb _ => h.below.block b hb⟩) bB rfl ?_
         refine L_p (ePtr (q5.v) o0 1) rfl rfl (P_indexAddrM (α := Bool) Try.underlying101 Try.sizeOf4 rfl i3 rfl t9) ?_
         refine L_ld (c := .bool (c8)) rfl rfl .plain (fun _ _ h => ⟨h.ch, fun b hb _ => h.below.block b hb⟩) cB rfl ?_
         refine L_p (.bool (c8)) rfl rfl (Zk rfl) ?_
         iterate 5 refine L_s rfl rfl rfl t5 rfl ?_
         refine L_dead (fun _ => rfl) 6 rfl ?_
         refine L_s rfl rfl rfl t5 rfl ?_
         refine L_p (.bool true) rfl rfl (Zl (b := c8) rfl (pick_t t5 rfl)) ?_
         refine L_p (ePtr (q5.v) o0 1) rfl rfl (P_indexAddrM (α := Bool) Try.underlying101 Try.sizeOf4 rfl i3 rfl yB) ?_
         refine L_nl fun dH qJ hs => ?_
         have hfr := hfr.ext hs
         have hmk := hmk.ext hs
         have x6 := x6.ext hs
         have hrec_0 := hrec_0.ext hs
         have i5 := i5.ext hs
         have l5 := l5.ext hs
         have u3 := u3.ext hs
         have d3 := d3.ext hs
         have j1 := j1.ext hs
         have i3 := i3.ext hs
         have u0 := u0.ext hs
         have j3 := j3.ext hs
         have o3 := o3.ext hs
         clear hs
         refine Ze .plain rfl (D_storeM (g := dH) (α := Bool) (a' := true) Try.sizeOf4 rfl i3 yB rfl (RV_bool.2 rfl) fun rJ sJ hs b4581 => ?_)
         have hfr := hfr.stp hs
         have hmk := hmk.stp hs
         have x6 := x6.stp hs
         have hrec_0 := hrec_0.stp hs rfl
         have i5 := i5.stp hs
         have l5 := l5.stp hs
         have u3 := u3.stp hs rfl
         have d3 := d3.stp hs rfl
         have j1 := j1.stp hs rfl
         have u0 := u0.stp hs rfl
         have j3 := j3.stp hs
         have o3 := o3.stp hs
         refine Zb (blk_n ?_)
         obtain ⟨rfl, rfl⟩ := pairs2 h
         exact ⟨_, x6, ⟨hfr, hmk, i5, l5, u3, d3, ⟨_, j1, b4581⟩, u0, j3, o3⟩, hrec_0, rfl, rfl⟩
        ·refine L_loadO0 (x := .tmp 10) Try.isAgg101 Try.sizeOf101 d3 fun lA tB zB => ?_
         obtain ⟨n8, dB, h⟩ := bsome h
         have gH := PT_idx tB dB
         refine Zs (x := .tmp 51) Try.isAgg4 Try.sizeOf4 gH fun tJ iH aC => ?_
         obtain rfl := RV_bool.1 iH
         rcases Zt h with ⟨j7, h⟩ | ⟨j7, h⟩
         ·refine L_loadO0 (x := .tmp 7) Try.isAgg101 Try.sizeOf101 u3 fun mE nE hG => ?_
          refine L_loadO0 (x := .tmp 12) Try.isAgg3 Try.sizeOf3 u0 fun uJ jH iG => ?_
          obtain rfl := Zj.1 jH
          obtain ⟨a9, cC, h⟩ := bsome h
          have kH := PT_idx nE cC
          refine Zs (x := .tmp 58) Try.isAgg4 Try.sizeOf4 kH fun vJ lH jG => ?_
          obtain rfl := RV_bool.1 lH
          obtain ⟨lG, dC, h⟩ := bsome h
          refine E_drawL (g := kA) (n := 21) [] [0, 1, 2, 3, 4, 5, 6, 7, 8, 9, 10, 11, 12, 13, 14, 15, 16, 17, 18, 19, 20] rfl mixed (by kernel_rfl) trivial ?_
          refine L_ld (c := q5.v) rfl rfl .plain (fun _ _ h => ⟨h.ch, fun b hb _ => h.below.block b hb⟩) yA a7 ?_
          refine L_ld (c := .int .i64 (o0)) rfl rfl .plain (fun _ _ h => ⟨h.ch, fun b hb _ => h.below.block b hb⟩) zA rfl ?_
          refine L_ld (c := q5.v) rfl rfl .plain (fun _ _ h => ⟨h.ch, fun b hb _ => h.below.block b hb⟩) aB a7 ?_
          refine L_ld (c := .int .i64 (o0)) rfl rfl .plain (fun _ _ h => ⟨h.ch, fun b hb _ => h.below.block b hb⟩) bB rfl ?_
          refine L_p (ePtr (q5.v) o0 1) rfl rfl (P_indexAddrM (α := Bool) Try.underlying101 Try.sizeOf4 rfl i3 rfl t9) ?_
          refine L_ld (c := .bool (c8)) rfl rfl .plain (fun _ _ h => ⟨h.ch, fun b hb _ => h.below.block b hb⟩) cB rfl ?_
          refine L_p (.bool (c8)) rfl rfl (Zk rfl) ?_
          refine L_ld (c := lA) rfl rfl (.yes2 rfl rfl t5) (fun _ _ h => ⟨h.ch, fun b hb _ => h.below.block b hb⟩) zB l9 ?_
          refine L_y (.int .i64 (i6)) rfl rfl rfl rfl t5 (Zk rfl) ?_
          refine L_y (ePtr lA i6 1) rfl rfl rfl rfl t5 (Zh (α := Bool) Try.underlying101 Try.sizeOf4 rfl tB rfl dB) ?_
          refine L_ld (c := .bool (n8)) rfl rfl (.yes2 rfl rfl t5) (fun _ _ h => h.ch) aC rfl ?_
          refine L_y (.bool (n8)) rfl rfl rfl rfl t5 (Zk rfl) ?_
          refine L_ld (c := mE) rfl rfl (.yes2 rfl rfl j7) (fun _ _ h => ⟨h.ch, fun b hb _ => h.below.block b hb⟩) hG bA ?_
          refine L_ld (c := .int .i64 (o0)) rfl rfl (.yes2 rfl rfl j7) (fun _ _ h => ⟨h.ch, fun b hb _ => h.below.block b hb⟩) iG rfl ?_
          refine L_y (.int .i64 (i6)) rfl rfl rfl rfl j7 (Zk rfl) ?_
          refine L_y (.int .i64 ((bit64 .andNot o0 i6))) rfl rfl rfl rfl j7 (P_int rfl rfl rfl) ?_
          refine L_y (ePtr mE (bit64 .andNot o0 i6) 1) rfl rfl rfl rfl j7 (Zh (α := Bool) Try.underlying101 Try.sizeOf4 rfl nE rfl cC) ?_
          refine L_ld (c := .bool (a9)) rfl rfl (.yes2 rfl rfl j7) (fun _ _ h => h.ch) jG rfl ?_
          refine L_y (.bool (a9)) rfl rfl rfl rfl t5 (Zl (b := n8) rfl (pick_t j7 rfl)) ?_
          refine L_p (.bool (a9)) rfl rfl (Zl (b := c8) rfl (pick_f t5 rfl)) ?_
          refine L_p (ePtr (q5.v) o0 1) rfl rfl (P_indexAddrM (α := Bool) Try.underlying101 Try.sizeOf4 rfl i3 rfl dC) ?_
          refine L_nl fun mH xJ hs => ?_
          have hfr := hfr.ext hs
          have hmk := hmk.ext hs
          have x6 := x6.ext hs
          have hrec_0 := hrec_0.ext hs
          have i5 := i5.ext hs
          have l5 := l5.ext hs
          have u3 := u3.ext hs
          have d3 := d3.ext hs
          have j1 := j1.ext hs
          have i3 := i3.ext hs
          have u0 := u0.ext hs
          have j3 := j3.ext hs
          have o3 := o3.ext hs
          clear hs
          refine Ze .plain rfl (D_storeM (g := mH) (α := Bool) (a' := a9) Try.sizeOf4 rfl i3 dC rfl (RV_bool.2 rfl) fun yJ zJ hs b4630 => ?_)
          have hfr := hfr.stp hs
          have hmk := hmk.stp hs
          have x6 := x6.stp hs
          have hrec_0 := hrec_0.stp hs rfl
          have i5 := i5.stp hs
          have l5 := l5.stp hs
          have u3 := u3.stp hs rfl
          have d3 := d3.stp hs rfl
          have j1 := j1.stp hs rfl
          have u0 := u0.stp hs rfl
          have j3 := j3.stp hs
          have o3 := o3.stp hs
          refine Zb (blk_n ?_)
          obtain ⟨rfl, rfl⟩ := pairs2 h
          exact ⟨_, x6, ⟨hfr, hmk, i5, l5, u3, d3, ⟨_, j1, b4630⟩, u0, j3, o3⟩, hrec_0, rfl, rfl⟩
         ·obtain ⟨mG, eC, h⟩ := bsome h
          refine E_drawL (g := kA) (n := 21) [] [0, 1, 2, 3, 4, 5, 6, 7, 8, 9, 10, 11, 12, 13, 14, 15, 16, 17, 18, 19, 20] rfl mixed (by kernel_rfl) trivial ?_
          refine L_ld (c := q5.v) rfl rfl .plain (fun _ _ h => ⟨h.ch, fun b hb _ => h.below.block b hb⟩) yA a7 ?_
          refine L_ld (c := .int .i64 (o0)) rfl rfl .plain (fun _ _ h => ⟨h.ch, fun b hb _ => h.below.block b hb⟩) zA rfl ?_
          refine L_ld (c := q5.v) rfl rfl .plain (fun _ _ h => ⟨h.ch, fun b hb _ => h.below.block b hb⟩) aB a7 ?_
          refine L_ld (c := .int .i64 (o0)) rfl rfl .plain (fun _ _ h => ⟨h.ch, fun b hb _ => h.below.block b hb⟩) bB rfl ?_
          refine L_p (ePtr (q5.v) o0 1) rfl rfl (P_indexAddrM (α := Bool) Try.underlying101 Try.sizeOf4 rfl i3 rfl t9) ?_
          refine L_ld (c := .bool (c8)) rfl rfl .plain (fun _ _ h => ⟨h.ch, fun b hb _ => h.below.block b hb⟩) cB rfl ?_
          refine L_p (.bool (c8)) rfl rfl (Zk rfl) ?_
          refine L_ld (c := lA) rfl rfl (.yes2 rfl rfl t5) (fun _ _ h => ⟨h.ch, fun b hb _ => h.below.block b hb⟩) zB l9 ?_
          refine L_y (.int .i64 (i6)) rfl rfl rfl rfl t5 (Zk rfl) ?_
          refine L_y (ePtr lA i6 1) rfl rfl rfl rfl t5 (Zh (α := Bool) Try.underlying101 Try.sizeOf4 rfl tB rfl dB) ?_
          refine L_ld (c := .bool (n8)) rfl rfl (.yes2 rfl rfl t5) (fun _ _ h => h.ch) aC rfl ?_
          refine L_y (.bool (n8)) rfl rfl rfl rfl t5 (Zk rfl) ?_
          iterate 6 refine L_s rfl rfl rfl j7 rfl ?_
          refine L_y (.bool false) rfl rfl rfl rfl t5 (Zl (b := n8) rfl (pick_f j7 rfl)) ?_
          refine L_p (.bool false) rfl rfl (Zl (b := c8) rfl (pick_f t5 rfl)) ?_
          refine L_p (ePtr (q5.v) o0 1) rfl rfl (P_indexAddrM (α := Bool) Try.underlying101 Try.sizeOf4 rfl i3 rfl eC) ?_
          refine L_nl fun nH aK hs => ?_
          have hfr := hfr.ext hs
          have hmk := hmk.ext hs
          have x6 := x6.ext hs
          have hrec_0 := hrec_0.ext hs
          have i5 := i5.ext hs
          have l5 := l5.ext hs
          have u3 := u3.ext hs
          have d3 := d3.ext hs
          have j1 := j1.ext hs
          have i3 := i3.ext hs
          have u0 := u0.ext hs
          have j3 := j3.ext hs
          have o3 := o3.ext hs
          clear hs
          refine Ze .plain rfl (D_storeM (g := nH) (α := Bool) (a' := false) Try.sizeOf4 rfl i3 eC rfl (RV_bool.2 rfl) fun bK cK hs b4669 => ?_)
          have hfr := hfr.stp hs
          have hmk := hmk.stp hs
          have x6 := x6.stp hs
          have hrec_0 := hrec_0.stp hs rfl
          have i5 := i5.stp hs
          have l5 := l5.stp hs
          have u3 := u3.stp hs rfl
          have d3 := d3.stp hs rfl
          have j1 := j1.stp hs rfl
          have u0 := u0.stp hs rfl
          have j3 := j3.stp hs
          have o3 := o3.stp hs
          refine Zb (blk_n ?_)
          obtain ⟨rfl, rfl⟩ := pairs2 h
          exact ⟨_, x6, ⟨hfr, hmk, i5, l5, u3, d3, ⟨_, j1, b4669⟩, u0, j3, o3⟩, hrec_0, rfl, rfl⟩
       ·intro oH dK ds4671 hsz hR hds
        obtain ⟨hfr, hmk, uE, vE, xE, kC, ⟨xH, lC, mC⟩, yH, qC, zH⟩ := hR
        obtain ⟨D, hdse, hD, hDb⟩ := hds.1 rfl
        subst hdse
        replace hmk := MkF.push hmk0 hmk hD hDb
        clear hD hDb hds
        revert hmk
        generalize ({ target := .collected D, args := #[] } :: kB : List Deferred) = lI
        intro hmk
        refine ⟨fun _ => ?_, fun k c hs _ => absurd hs (Nat.succ_ne_zero k).symm⟩
        refine blk_n (blk_n ?_)
        obtain rfl := sinj h
        exact hQ _ _ _ ⟨oH, hfr, hmk, lB, uE, mB, vE, bA, xE, l9, kC, a7, ⟨_, lC, mC⟩, qA, qC, rA, sA, uA, n9⟩
      ·clear hx
       obtain ⟨pH, hfr, hmk, yE, zE, cF, dF, eF, iF, rC, tC, uC, ⟨aI, vC, xC⟩, yC, aD, bD, cD, eD, gD⟩ := hR
       refine Za (EL_in (.int .i64 ((w64 (o0 + (1 : Int))))) gD rfl rfl rfl ?_)
       refine Zn (.int .i64 ((w64 (o0 + (1 : Int))))) rfl rfl ?_
       exact Zb (Zd (eG (x8, (w64 (o0 + (1 : Int)))) _ _ _ ⟨pH, hfr, hmk, yE, zE, cF, dF, eF, iF, rC, tC, uC, ⟨_, vC, xC⟩, yC, aD, bD, cD, eD, rfl⟩ h))
     ·refine E_cf xA rfl ?_
      refine E_exit ?_
      refine thn_e ?_
      refine thn_e ?_
      refine blk_hit ?_
      obtain rfl := sinj h
      exact hQ _ _ _ ⟨dE, hfr, hmk, lB, o7, mB, u7, bA, v7, a7, ⟨_, c7, d7⟩, qA, e7, rA, sA⟩
    ·clear hx
     obtain ⟨qH, hfr, hmk, nF, r8, oF, t8, nB, gA, iD, ⟨eB, y8, jD⟩, kD, m8, lD, mD⟩ := hR
     refine Za (Ze .plain rfl (D_loadO (α := Fv) (g := qH) Try.isAgg101 Try.sizeOf101 iD y8 fun oE rE => ?_))
     have e4674 : oE = eB.v := RV_fv.1 rE
     clear rE
     subst oE
     obtain ⟨gp4676, hs, rp4676⟩ := OM.pub jD
     have hfr := hfr.stp hs
     have hmk := hmk.stp hs
     have r8 := r8.stp hs
     have t8 := t8.stp hs
     have gA := gA.stp hs rfl
     have y8 := y8.stp hs rfl
     have m8 := m8.stp hs
     have ub4676 := OB.ofRV y8 rp4676
     refine Ze .plain rfl (D_storeOc (g := gp4676) (v := eB.v) Try.sizeOf101 nB gA rfl rp4676 fun sH eK hs b4675 cb => ?_)
     clear cb
     have hfr := hfr.stp hs
     have hmk := hmk.stp hs
     have r8 := r8.stp hs
     have t8 := t8.stp hs
     have m8 := m8.stp hs
     refine Zb (blk_n ?_)
     obtain rfl := sinj h
     exact hQ _ _ _ ⟨sH, hfr, hmk, nF, r8, oF, t8, nB, b4675, kD, m8, lD, mD⟩
   ·clear hx
    obtain ⟨tH, hfr, hmk, pF, qF, rF, sF, tF, uF, nD, oD, sD, tD⟩ := hR
    refine Za (EL_in (.int .i64 ((w64 (x5 + (1 : Int))))) tD rfl rfl rfl ?_)
    refine Zn (.int .i64 ((w64 (x5 + (1 : Int))))) rfl rfl ?_
    exact Zb (Zd (zF (d9, (w64 (x5 + (1 : Int)))) _ _ _ ⟨tH, hfr, hmk, pF, qF, rF, sF, tF, uF, nD, oD, sD, rfl⟩ h))
  ·refine E_cf pA rfl ?_
   refine E_exit ?_
   refine thn_e ?_
   refine thn_e ?_
   refine blk_hit ?_
   obtain rfl := sinj h
   exact hQ _ _ _ ⟨iA, hfr, hmk, y9, e8⟩
 ·clear hx
  obtain ⟨uH, hfr, hmk, vF, xF⟩ := hR
  refine Zf (Za (Ze .plain rfl (D_loadO (g := uH) Try.isAgg101 Try.sizeOf101 vF xF fun sE vB => ?_)))
  refine Zg sE rfl rfl ?_
  refine Zb (Zd (E_ret (endM (.inr rfl) hmk fun lK mK hs => ?_)))
  have hfr := hfr.stp hs
  have vB := vB.stp hs
  obtain rfl := sinj h
  exact end1 rfl rfl (show _ = sE from rfl) ⟨_, hfr, vB⟩
def f54 (x0 : LoomLoomMill) (x1 : Int) (x2 : List (Int × LoomRun)) : Option (Bool × (List (Int × LoomRun))) :=
 (idx ((x0).orders) x1).bind fun y4 =>
 jn (σ := (List (Int × LoomRun))) (fun m8 =>
  some (false, m8)
  ) fun l9 =>
 lp (σ := (List (Int × LoomRun)) × Int) (fun n9 (u3, o0) =>
  jn (σ := Unit) (fun _ =>
   jn (σ := (List (Int × LoomRun))) (fun x6 =>
    n9 (x6, (w64 (o0 + (1 : Int))))
    ) fun o9 =>
   (f52 x0).bind fun o3 =>
   lp (σ := (List (Int × LoomRun)) × Int) (fun t9 (d3, u0) =>
    bif (decide (u0 < ((o3).length : Int))) then
     jn (σ := (List (Int × LoomRun))) (fun y6 =>
      t9 (y6, (w64 (u0 + (1 : Int))))
      ) fun u9 =>
     (idx o3 u0).bind fun i3 =>
     (f52 x0).bind fun i6 =>
     (f51 x0 i6 ((mset d3 x1 ((⟨x1, i3, o0⟩ : LoomRun))))).bind fun z3 =>
     (f53 x0).bind fun a7 =>
     (idx z3 a7).bind fun u7 =>
     bif u7 then
      some (true, (mset d3 x1 ((⟨x1, i3, o0⟩ : LoomRun))))
     else
      u9 ((mset d3 x1 ((⟨x1, i3, o0⟩ : LoomRun))))
    else
     o9 (d3)
    ) big (u3, (0 : Int))
   ) fun y9 =>
  bif (decide ((w64 (o0 + (y4).Woven)) ≤ (y4).Late)) then
   y9 ()
  else
   l9 (u3)
  ) big (x2, (y4).Early)
theorem en54 : Enters Try.prog 54 := enters_of Try.func54 (by kernel_rfl) rfl
theorem wk54 {iI : Nat} {gI : Gh} {wI : World} {x0 : LoomLoomMill} {x1 : Int} {x2 : List (Int × LoomRun)} {up0 : Value} (rp0 : RV gI.m wI x0 up0) {up2 : Value} (mp2 : MP (Value.int .i64) iI gI wI x2 up2) {r : Bool × (List (Int × LoomRun))} (h : f54 x0 x1 x2 = some r) : FnM Try.prog 54 #[up0, .int .i64 (x1), up2] iI gI wI (fun g w v => v = .bool (r.1) ∧ MP (Value.int .i64) iI g w r.2 up2) := by
 unfold f54 at h
 refine fnM_of_E Try.func54 rfl (Nat.le_of_ble_eq_true rfl) fun g0 hm hfr => ?_
 have y8 := mp2
 replace mp2 := mp2.enter
 rw [← hm] at mp2
 replace hm : g0.m = gI.m := by rw [hm]
 have rp0 : RV g0.m wI x0 up0 := hm ▸ rp0
 show E _ 50 none _ _ _ _ _
 refine Zf (Za (Ze .plain rfl (D_box (g := g0) rfl rp0 fun g1 w1 p1 hs q1 => ?_)))
 have hfr := hfr.ext hs
 have mp2 := mp2.ext hs
 refine Zg (.bool false) rfl rfl ?_
 refine Zb (Zd (Zf (Za (EL_p (fPtr p1 2) (Zc at_96_1 rfl (PT.ptr q1)) rfl ?_))))
 have q2 := Zm (part_LoomLoomMill_1).1 q1
 refine Ze .plain rfl (D_load (g := g1) Try.isAgg25 Try.sizeOf25 rfl q2 fun v3 r3 => ?_)
 refine Zn (.int .i64 (x1)) rfl rfl ?_
 obtain ⟨y4, qC, h⟩ := bsome h
 refine EL_p (ePtr v3 x1 5) (Zh (α := LoomOrder) Try.underlying25 Try.sizeOf82 rfl r3 rfl qC) rfl ?_
 have q5 := PT_idx r3 qC
 refine Ze .plain rfl (D_load (g := g1) Try.isAgg82 Try.sizeOf82 rfl q5 fun v6 r6 => ?_)
 refine Ze .plain rfl (D_allocOc (g := g1) 2007 (⟨0, 0, 0, 0, 0⟩ : LoomOrder) Try.zeroValue82 (fun m w => ⟨_, (rep_two rep_int (rep_two rep_int (rep_two rep_int (rep_two rep_int rep_int)))), rfl⟩) fun g7 w7 p7 hs b7 cb => ?_)
 have hfr := hfr.stp hs
 have mp2 := mp2.stp hs rfl
 have q1 := q1.stp hs
 have r6 := r6.stp hs
 clear cb
 refine Ze .plain rfl (D_storeOc (g := g7) (v := v6) Try.sizeOf82 rfl b7 rfl r6 fun g8 w8 hs b8 cb => ?_)
 clear cb
 have hfr := hfr.stp hs
 have mp2 := mp2.stp hs rfl
 have q1 := q1.stp hs
 refine Zb (Zd (Zq h (fun (s : (List (Int × LoomRun))) e w => ∃ (g : Gh) , FrM iI gI wI g w ∧ e 2 = up2 ∧ MP (Value.int .i64) 1 g w (s : List (Int × LoomRun)) up2) (fun X227 l9 tB h => ?_) ?_))
 ·refine Zf (Za (EL_p (fPtr p7 3) (Zc at_82_3 rfl (OB.ptr b8)) rfl ?_))
  refine Ze .plain rfl (D_loadF (g := g8) part_LoomOrder_3.1 Try.isAgg3 Try.sizeOf3 rfl b8 fun aE rC => ?_)
  obtain rfl := Zj.1 rC
  refine Zg (.int .i64 ((y4).Early)) rfl rfl ?_
  refine Zb (Zd (Zr ?_))
  refine E_lp h (fun (s : (List (Int × LoomRun)) × Int) e w => ∃ (g : Gh) , FrM iI gI wI g w ∧ e 1 = .int .i64 (x1) ∧ e 2 = up2 ∧ MP (Value.int .i64) 1 g w (s.1 : List (Int × LoomRun)) up2 ∧ e 3 = p1 ∧ PT g.m w (x0 : LoomLoomMill) p1 ∧ e 7 = p7 ∧ OB 2007 g w 82 (y4 : LoomOrder) p7 ∧ e 8 = .int .i64 (s.2)) ⟨g8, hfr, rfl, rfl, mp2, rfl, q1, rfl, b8, rfl⟩ (fun X230 n9 vB => ?_)
  rintro ⟨u3, o0⟩ sD bE ⟨v7, hfr, z9, n8, o8, bA, gA, c7, z4, q8⟩ h
  refine Zq h (fun (s : Unit) e w => ∃ (g : Gh) , FrM iI gI wI g w ∧ e 1 = .int .i64 (x1) ∧ e 2 = up2 ∧ MP (Value.int .i64) 1 g w (u3 : List (Int × LoomRun)) up2 ∧ e 3 = p1 ∧ PT g.m w (x0 : LoomLoomMill) p1 ∧ e 7 = p7 ∧ OB 2007 g w 82 (y4 : LoomOrder) p7 ∧ e 8 = .int .i64 (o0)) (fun X237 y9 xB h => ?_) ?_
  ·refine Zf (Za (Zo q8 rfl ?_))
   refine EL_p (fPtr p7 2) (Zc at_82_2 c7 (OB.ptr z4)) rfl ?_
   refine Ze .plain rfl (D_loadF (g := v7) part_LoomOrder_2.1 Try.isAgg3 Try.sizeOf3 rfl z4 fun cE tC => ?_)
   obtain rfl := Zj.1 tC
   refine EL_in (.int .i64 ((w64 (o0 + (y4).Woven)))) rfl rfl rfl rfl ?_
   refine EL_p (fPtr p7 4) (Zc at_82_4 c7 (OB.ptr z4)) rfl ?_
   refine Ze .plain rfl (D_loadF (g := v7) part_LoomOrder_4.1 Try.isAgg3 Try.sizeOf3 rfl z4 fun dE uC => ?_)
   obtain rfl := Zj.1 uC
   refine EL_p (.bool ((decide ((w64 (o0 + (y4).Woven)) ≤ (y4).Late)))) (P_int rfl rfl rfl) rfl ?_
   refine Zb (Zd ?_)
   rcases Zt h with ⟨c8, h⟩ | ⟨c8, h⟩
   ·refine E_ct c8 rfl ?_
    exact Zu (Zd (xB () _ _ ⟨v7, hfr, z9, n8, o8, bA, gA, c7, z4, q8⟩ h))
   ·refine E_cf c8 rfl ?_
    refine E_exit ?_
    refine thn_e ?_
    refine thn_e ?_
    refine blk_hit ?_
    exact Zd (tB (u3) _ _ ⟨v7, hfr, n8, o8⟩ h)
  ·rintro _ tD eE ⟨iA, hfr, jA, kA, d7, r8, l5, lA, e7, mA⟩ h
   refine Zq h (fun (s : (List (Int × LoomRun))) e w => ∃ (g : Gh) , FrM iI gI wI g w ∧ e 1 = .int .i64 (x1) ∧ e 2 = up2 ∧ MP (Value.int .i64) 1 g w (s : List (Int × LoomRun)) up2 ∧ e 3 = p1 ∧ PT g.m w (x0 : LoomLoomMill) p1 ∧ e 7 = p7 ∧ OB 2007 g w 82 (y4 : LoomOrder) p7 ∧ e 8 = .int .i64 (o0)) (fun X344 o9 yB h => ?_) ?_
   ·refine Zr ?_
    refine Zf (Za (Ze .plain rfl (D_load (g := iA) Try.isAgg96 Try.sizeOf96 r8 l5 fun vC xC => ?_)))
    obtain ⟨o3, zB, h⟩ := bsome h
    refine Ze .plain rfl (Zp (g := iA) (vs := [vC]) en52 (.cons rfl .nil) (wk52 xC zB) fun yC uD i7 hs hr => ?_)
    have hfr := hfr.ext hs
    have d7 := d7.ext hs
    have l5 := l5.ext hs
    have e7 := e7.ext hs
    have nA := hr
    refine EL_p (.int .i64 ((o3).length : Int)) (P_len Try.underlying22 rfl nA) rfl ?_
    refine Zn (.int .i64 (0)) rfl rfl ?_
    refine Zb (Zd (Zr ?_))
    refine E_lp h (fun (s : (List (Int × LoomRun)) × Int) e w => ∃ (g : Gh) , FrM iI gI wI g w ∧ e 1 = .int .i64 (x1) ∧ e 2 = up2 ∧ MP (Value.int .i64) 1 g w (s.1 : List (Int × LoomRun)) up2 ∧ e 3 = p1 ∧ PT g.m w (x0 : LoomLoomMill) p1 ∧ e 7 = p7 ∧ OB 2007 g w 82 (y4 : LoomOrder) p7 ∧ e 8 = .int .i64 (o0) ∧ e 28 = i7 ∧ RV g.m w (o3 : List Int) i7 ∧ e 29 = .int .i64 (((o3).length : Int)) ∧ e 30 = .int .i64 (s.2)) ⟨yC, hfr, jA, kA, d7, r8, l5, lA, e7, mA, rfl, nA, rfl, rfl⟩ (fun X348 t9 aC => ?_)
    rintro ⟨d3, u0⟩ vD aD ⟨e8, hfr, t5, x5, t8, i5, j1, v8, j3, j7, n7, z2, o7, j6⟩ h
    refine Zf (Za (EL_in (.bool ((decide (u0 < ((o3).length : Int))))) j6 o7 rfl rfl ?_))
    refine Zb (Zd (Zf ?_))
    rcases Zt h with ⟨i8, h⟩ | ⟨i8, h⟩
    ·refine E_ct i8 rfl ?_
     refine Zu (Zd (Zq h (fun (s : (List (Int × LoomRun))) e w => ∃ (g : Gh) , FrM iI gI wI g w ∧ e 1 = .int .i64 (x1) ∧ e 2 = up2 ∧ MP (Value.int .i64) 1 g w (s : List (Int × LoomRun)) up2 ∧ e 3 = p1 ∧ PT g.m w (x0 : LoomLoomMill) p1 ∧ e 7 = p7 ∧ OB 2007 g w 82 (y4 : LoomOrder) p7 ∧ e 8 = .int .i64 (o0) ∧ e 28 = i7 ∧ RV g.m w (o3 : List Int) i7 ∧ e 29 = .int .i64 (((o3).length : Int)) ∧ e 30 = .int .i64 (u0)) (fun X397 u9 cC h => ?_) ?_))
     ·refine Zr ?_
      refine Zf (Za ?_)
      obtain ⟨i3, a9, h⟩ := bsome h
      refine EL_p (ePtr i7 u0 1) (Zh (α := Int) Try.underlying22 Try.sizeOf3 n7 z2 j6 a9) rfl ?_
      have bD := PT_idx z2 a9
      refine Ze .plain rfl (D_load (g := e8) Try.isAgg3 Try.sizeOf3 rfl bD fun gE cD => ?_)
      obtain rfl := Zj.1 cD
      refine Zg (.int .i64 (i3)) rfl rfl ?_
      refine Zb (Zd (Zf (Za (Zo x5 rfl ?_))))
      refine Zo t5 rfl ?_
      refine Zo t5 rfl ?_
      refine Zn (.int .i64 (i3)) rfl rfl ?_
      refine Zo j7 rfl ?_
      have oA : RV e8.m aD (⟨x1, i3, o0⟩ : LoomRun) (.agg (setCh [[.int .i64 0], [.int .i64 0], [.int .i64 0]] [(0, .int .i64 (x1)), (1, .int .i64 (i3)), (2, .int .i64 (o0))]).flatten.toArray) := RV_build rfl (rep_pair (rfl) (rep_pair (rfl) (rep_last (rfl))))
      generalize dC : (Value.agg (setCh [[.int .i64 0], [.int .i64 0], [.int .i64 0]] [(0, .int .i64 (x1)), (1, .int .i64 (i3)), (2, .int .i64 (o0))]).flatten.toArray) = eD at oA
      refine EL_p eD (dC ▸ P_build (vs := [(0, .int .i64 (x1)), (1, .int .i64 (i3)), (2, .int .i64 (o0))]) [[.int .i64 0], [.int .i64 0], [.int .i64 0]] lay_76 rfl rfl (.cons rfl (.cons rfl (.cons rfl .nil))) ⟨⟨_, rfl, rfl⟩, ⟨⟨_, rfl, rfl⟩, ⟨⟨_, rfl, rfl⟩, trivial⟩⟩⟩) rfl ?_
      refine Ze .plain rfl (D_mapUpdate (g := e8) Try.underlying100 key_3 rfl t8 rfl rfl oA fun gD iE hs m402 => ?_)
      have hfr := hfr.stp hs
      have j1 := j1.stp hs
      have j3 := j3.stp hs rfl
      have z2 := z2.stp hs
      refine Zb (Zd (Zf (Zs (x := .tmp 3) Try.isAgg96 Try.sizeOf96 j1 fun pA iD eC => ?_)))
      refine Zs (x := .tmp 3) Try.isAgg96 Try.sizeOf96 j1 fun qA jD iC => ?_
      obtain ⟨i6, jC, h⟩ := bsome h
      obtain ⟨z3, kC, h⟩ := bsome h
      refine Zs (x := .tmp 3) Try.isAgg96 Try.sizeOf96 j1 fun rA kD lC => ?_
      obtain ⟨a7, mC, h⟩ := bsome h
      obtain ⟨u7, k8, h⟩ := bsome h
      refine E_drawL (g := gD) (n := 9) [(2, (fun v g w => RV g.m w i6 v)), (4, (fun v g w => RV g.m w z3 v)), (6, (fun v g w => v = .int .i64 (a7))), (8, (fun v _ _ => v = .bool (u7)))] [0, 1, 2, 3, 4, 5, 6, 7, 8] rfl mixed (by kernel_rfl) (⟨fun _ => up_rv, fun _ => up_rv, fun _ => up_eq _, fun _ => up_eq _, trivial⟩) ?_
      refine L_ld (c := pA) rfl rfl .plain (fun _ _ h => h.ch) eC i5 ?_
      refine L_ld (c := qA) rfl rfl .plain (fun _ _ h => h.ch) iC i5 ?_
      refine L_do (φ := fun v g w => RV g.m w i6 v) rfl rfl .plain (fun g w hd => Zp (g := g) (vs := [qA]) en52 (.cons rfl .nil) (wk52 (jD.ext hd.1) jC) fun g' w' v hs hr => ⟨g', hs, hr⟩) (fun x8 hv => ?_)
      obtain ⟨_, _, _, rq405⟩ := hv
      refine L_p up2 rfl rfl (Zk x5) ?_
      refine L_do (φ := fun v g w => RV g.m w z3 v) rfl rfl .plain (fun g w hd => Zp (g := g) (vs := [pA, x8, up2]) en51 (.cons rfl (.cons rfl (.cons rfl .nil))) (wk51 (iD.ext hd.1) (word (A := fun g w => RV g.m w i6 x8) 2 rfl rfl (deps_of hd)) (m402.ext hd.1).r kC) fun g' w' v hs hr => ⟨g', hs, hr⟩) (fun m7 hv => ?_)
      obtain ⟨_, _, _, rq407⟩ := hv
      refine L_ld (c := rA) rfl rfl .plain (fun _ _ h => h.ch) lC i5 ?_
      refine L_do (φ := fun v g w => v = .int .i64 (a7)) rfl rfl .plain (fun g w hd => Zp (g := g) (vs := [rA]) en53 (.cons rfl .nil) (wk53 (kD.ext hd.1) mC) fun g' w' v hs hr => ⟨g', hs, hr⟩) (fun jE hv => ?_)
      obtain ⟨_, _, _, rfl⟩ := hv
      refine L_pur (c := ePtr m7 a7 1) rfl rfl .plain (fun _ _ hd => Zh (α := Bool) Try.underlying101 Try.sizeOf4 rfl (word (A := fun g w => RV g.m w z3 m7) 4 rfl rfl (deps_of hd)) rfl k8) ?_
      refine L_do (φ := (fun v _ _ => v = .bool (u7))) rfl rfl .plain (fun g w hd => D_load (g := g) Try.isAgg4 Try.sizeOf4 rfl (PT_idx (word (A := fun g w => RV g.m w z3 m7) 4 rfl rfl (hop 7 rfl rfl (deps_of hd))) k8) fun v r => ⟨g, Ext.refl g w, RV_bool.1 r⟩) (fun kE hv => ?_)
      obtain ⟨_, _, _, rfl⟩ := hv
      refine L_nil fun lD lE hall => ?_
      have hs := hall.1
      have hfr := hfr.ext hs
      have m402 := m402.ext hs
      have j1 := j1.ext hs
      have j3 := j3.ext hs
      have z2 := z2.ext hs
      have mE := (word_all (A := fun g w => RV g.m w i6 x8) 2 rfl hall)
      have nE := (word_all (A := fun g w => RV g.m w z3 m7) 4 rfl hall)
      have oE := (PT_idx (word_all (A := fun g w => RV g.m w z3 m7) 4 rfl hall) k8)
      clear hs hall
      refine Zb (Zd ?_)
      rcases Zt h with ⟨l8, h⟩ | ⟨l8, h⟩
      ·refine E_ct l8 rfl ?_
       refine Zf (Za (Zg (.bool true) rfl rfl ?_))
       refine Zb (Zd (E_ret (blk_r ?_)))
       refine thn_r ?_
       refine thn_r ?_
       refine blk_r ?_
       refine blk_r ?_
       refine thn_r ?_
       refine thn_r ?_
       refine blk_r ?_
       refine thn_r ?_
       obtain rfl := sinj h
       exact end1 rfl rfl (show _ = .bool true from rfl) ⟨_, hfr, rfl, y8.back m402⟩
      ·refine E_cf l8 rfl ?_
       exact Zu (blk_n (Zd (cC ((mset d3 x1 ((⟨x1, i3, o0⟩ : LoomRun)))) _ _ ⟨lD, hfr, t5, x5, m402, i5, j1, v8, j3, j7, n7, z2, o7, j6⟩ h)))
     ·rintro y6 xD rE ⟨mD, hfr, sA, uA, xA, yA, zA, aB, bB, cB, d9, e9, i9, k9⟩ h
      refine Za (EL_in (.int .i64 ((w64 (u0 + (1 : Int))))) k9 rfl rfl rfl ?_)
      refine Zn (.int .i64 ((w64 (u0 + (1 : Int))))) rfl rfl ?_
      exact Zb (Zd (aC (y6, (w64 (u0 + (1 : Int)))) _ _ ⟨mD, hfr, sA, uA, xA, yA, zA, aB, bB, cB, d9, e9, i9, rfl⟩ h))
    ·refine E_cf i8 rfl ?_
     refine E_exit ?_
     refine thn_e ?_
     refine thn_e ?_
     refine blk_hit ?_
     exact blk_n (Zd (yB (d3) _ _ ⟨e8, hfr, t5, x5, t8, i5, j1, v8, j3, j7⟩ h))
   ·rintro x6 yD sE ⟨nD, hfr, dB, eB, iB, jB, kB, lB, mB, nB⟩ h
    refine Za (Zo nB rfl ?_)
    refine EL_in (.int .i64 ((w64 (o0 + (1 : Int))))) rfl rfl rfl rfl ?_
    refine Zg (.int .i64 ((w64 (o0 + (1 : Int))))) rfl rfl ?_
    exact Zb (Zd (vB (x6, (w64 (o0 + (1 : Int)))) _ _ ⟨nD, hfr, dB, eB, iB, jB, kB, lB, mB, rfl⟩ h))
 ·rintro m8 zD tE ⟨uE, hfr, oD, oB⟩ h
  refine Zf (Za (Zg (.bool false) rfl rfl ?_))
  refine Zb (Zd (E_ret ?_))
  obtain rfl := sinj h
  exact end1 rfl rfl (show _ = .bool false from rfl) ⟨_, hfr, rfl, y8.back oB⟩
def f55 (x0 : Int) (x1 : Int → Option Bool) : Option ((List Int) × Bool) :=
 Option.bind (α := (List Int) × Bool) (
  (shl64 (1 : Int) x0).bind fun x6 =>
  lp (σ := (List Int) × Bool × Int) (fun i8 (j1, o3, o0) =>
   bif (decide (o0 < x6)) then
    Option.bind (α := (List Int) × Bool) (
     (f59 o0).bind fun i3 =>
     jn (σ := Unit) (fun _ =>
      some (i3, true)
      ) fun k8 =>
     Option.bind (α := Bool) (
      bif o3 then
       bif (decide (((i3).length : Int) > ((j1).length : Int))) then
        some (true)
       else
        bif (((i3).length : Int) == ((j1).length : Int)) then
         (f85 i3 j1).bind fun v6 =>
         bif (decide (v6 > (0 : Int))) then
          some (true)
         else
          (x1 o0).bind fun g7 =>
          some ((!g7))
        else
         (x1 o0).bind fun i7 =>
         some ((!i7))
      else
       (x1 o0).bind fun j7 =>
       some ((!j7))
      ) fun i6 =>
     bif i6 then
      some (j1, o3)
     else
      k8 ()
     ) fun (a7, b7) =>
    i8 (a7, b7, (w64 (o0 + (1 : Int))))
   else
    some (j1, o3)
   ) big ([], false, (0 : Int))
  ) fun (c7, y6) =>
 some (c7, y6)
theorem en55 : Enters Try.prog 55 := enters_of Try.func55 (by kernel_rfl) rfl
theorem wk55 {gI : Gh} {wI : World} {x0 : Int} {x1 : Int → Option Bool} {up1 : Value} (rp1 : FnV1 Try.prog x1 up1 gI wI) {r : (List Int) × Bool} (h : f55 x0 x1 = some r) : Fn Try.prog 55 #[.int .i64 (x0), up1] gI wI (fun m w v => ∃ y0 y1, v = .tuple #[y0, y1] ∧ RV m w (r.1) y0 ∧ y1 = .bool (r.2)) := by
 unfold f55 at h
 refine fn_of_E Try.func55 rfl (Nat.le_of_ble_eq_true rfl) fun g0 hm hfr => ?_
 obtain ⟨ff1, fa1, fc1, rfl, fen1, fcl1⟩ := rp1
 show E _ 46 none _ _ _ _ _
 refine Zf (Za (Zg (.slice none 0 0) rfl rfl ?_))
 refine Zg (.bool false) rfl rfl ?_
 refine Zb (Zd ?_)
 obtain ⟨⟨c7, y6⟩, hx, h⟩ := bsome h
 refine E_join (fun e w => ∃ (g : Gh) (v4 : Value), Fr gI wI g w ∧ e 4 = v4 ∧ RV g.m w (c7 : List Int) v4 ∧ e 5 = .bool (y6)) (fun Q' hQ => ?_) (fun sA cB hR => ?_)
 ·replace h := hx
  clear hx
  refine Zf (Za (Zn (.int .i64 (x0)) rfl rfl ?_))
  obtain ⟨x6, z9, h⟩ := bsome h
  refine EL_p (.int .i64 (x6)) (P_int rfl rfl (congrArg (Option.map (Value.int .i64)) z9)) rfl ?_
  refine Zn (.int .i64 (0)) rfl rfl ?_
  refine Zb (Zd (Zr ?_))
  refine E_lp h (fun (s : (List Int) × Bool × Int) e w => ∃ (g : Gh) (v4 : Value), Fr gI wI g w ∧ e 1 = (.func (.func ff1) fa1 fc1) ∧ e 4 = v4 ∧ RV g.m w (s.1 : List Int) v4 ∧ e 5 = .bool (s.2.1) ∧ e 9 = .int .i64 (x6) ∧ e 10 = .int .i64 (s.2.2)) ⟨g0, (.slice none 0 0), hfr, rfl, rfl, RV_nil, rfl, rfl, rfl⟩ (fun X351 i8 bA => ?_)
  rintro ⟨j1, o3, o0⟩ uA dB ⟨l8, z4, hfr, i5, u3, u0, t5, j6, z3⟩ h
  refine Zf (Za (EL_in (.bool ((decide (o0 < x6)))) z3 j6 rfl rfl ?_))
  refine Zb (Zd (Zf ?_))
  rcases Zt h with ⟨m7, h⟩ | ⟨m7, h⟩
  ·refine E_ct m7 rfl ?_
   refine Zu (Zd ?_)
   obtain ⟨⟨a7, b7⟩, hx, h⟩ := bsome h
   refine E_join (fun e w => ∃ (g : Gh) (v4 : Value), Fr gI wI g w ∧ e 1 = (.func (.func ff1) fa1 fc1) ∧ e 4 = v4 ∧ RV g.m w (a7 : List Int) v4 ∧ e 5 = .bool (b7) ∧ e 9 = .int .i64 (x6) ∧ e 10 = .int .i64 (o0)) (fun Q' hQ => ?_) (fun xA eB hR => ?_)
   ·replace h := hx
    clear hx
    refine Zr ?_
    refine Zf (Za (Zo z3 rfl ?_))
    refine Zg (.int .i64 (o0)) rfl rfl ?_
    refine Zb (Zd (Zf (Za (Zn (.int .i64 (o0)) rfl rfl ?_))))
    obtain ⟨i3, gA, h⟩ := bsome h
    refine Ze .plain rfl (Zp (g := l8) (vs := [.int .i64 (o0)]) en59 (.cons rfl .nil) (wk59  gA) fun n7 yA x5 hs hr => ?_)
    have hfr := hfr.ext hs
    have u0 := u0.ext hs
    have j3 := hr
    refine Zg x5 rfl rfl ?_
    refine Zb (Zd (Zq h (fun (s : Unit) e w => ∃ (g : Gh) , Fr gI wI g w ∧ e 1 = (.func (.func ff1) fa1 fc1) ∧ e 7 = x5 ∧ RV g.m w (i3 : List Int) x5 ∧ e 9 = .int .i64 (x6) ∧ e 10 = .int .i64 (o0)) (fun X438 k8 iA h => ?_) ?_))
    ·obtain ⟨i6, hx, h⟩ := bsome h
     refine E_join (fun e w => ∃ (g : Gh) , Fr gI wI g w ∧ e 1 = (.func (.func ff1) fa1 fc1) ∧ e 4 = z4 ∧ RV g.m w (j1 : List Int) z4 ∧ e 5 = .bool (o3) ∧ e 7 = x5 ∧ RV g.m w (i3 : List Int) x5 ∧ e 9 = .int .i64 (x6) ∧ e 10 = .int .i64 (o0) ∧ e 41 = .bool (i6)) (fun Q' hQ => ?_) (fun zA iB hR => ?_)
     ·replace h := hx
      clear hx
      refine Za (Zo t5 rfl ?_)
      refine Zn (.bool (o3)) rfl rfl ?_
      rcases Zt h with ⟨z2, h⟩ | ⟨z2, h⟩
      ·refine EL_y x5 (Zk rfl) rfl rfl z2 rfl ?_
       refine EL_y (.int .i64 ((i3).length : Int)) (P_len Try.underlying22 rfl j3) rfl rfl z2 rfl ?_
       refine EL_y z4 (Zk u3) rfl rfl z2 rfl ?_
       refine EL_y (.int .i64 ((j1).length : Int)) (P_len Try.underlying22 rfl u0) rfl rfl z2 rfl ?_
       refine EL_y (.bool ((decide (((i3).length : Int) > ((j1).length : Int))))) (P_int rfl rfl rfl) rfl rfl z2 rfl ?_
       refine EL_y (.bool ((decide (((i3).length : Int) > ((j1).length : Int))))) (Zk rfl) rfl rfl z2 rfl ?_
       rcases Zt h with ⟨d3, h⟩ | ⟨d3, h⟩
       ·refine EL_s rfl rfl d3 rfl rfl ?_
        iterate 5 refine EL_s rfl rfl d3 rfl rfl ?_
        refine EL_dead 4 rfl ?_
        refine EL_s rfl rfl d3 rfl rfl ?_
        refine EL_y (.bool true) (Zl (b := (decide (((i3).length : Int) > ((j1).length : Int)))) rfl (pick_t d3 rfl)) rfl rfl z2 rfl ?_
        refine EL_p (.bool true) (Zl (b := o3) rfl (pick_t z2 rfl)) rfl ?_
        refine EL_dead 6 rfl ?_
        refine Zb ?_
        obtain rfl := sinj h
        exact hQ _ _ ⟨n7, hfr, i5, u3, u0, t5, rfl, j3, j6, z3, rfl⟩
       ·refine EL_y x5 (Zk rfl) rfl rfl d3 rfl ?_
        refine EL_y (.int .i64 ((i3).length : Int)) (P_len Try.underlying22 rfl j3) rfl rfl d3 rfl ?_
        refine EL_y z4 (Zk u3) rfl rfl d3 rfl ?_
        refine EL_y (.int .i64 ((j1).length : Int)) (P_len Try.underlying22 rfl u0) rfl rfl d3 rfl ?_
        refine EL_y (.bool ((((i3).length : Int) == ((j1).length : Int)))) (P_int rfl rfl rfl) rfl rfl d3 rfl ?_
        refine EL_y (.bool ((((i3).length : Int) == ((j1).length : Int)))) (Zk rfl) rfl rfl d3 rfl ?_
        rcases Zt h with ⟨l5, h⟩ | ⟨l5, h⟩
        ·refine EL_y x5 (Zk rfl) rfl rfl l5 rfl ?_
         refine EL_y z4 (Zk u3) rfl rfl l5 rfl ?_
         obtain ⟨v6, jA, h⟩ := bsome h
         refine Ze (.yes2 rfl rfl l5) rfl (Zp (g := n7) (vs := [x5, z4]) en85 (.cons rfl (.cons rfl .nil)) (wk85 j3 u0 jA) fun m8 aB jB hs hr => ?_)
         have hfr := hfr.ext hs
         have u0 := u0.ext hs
         have j3 := j3.ext hs
         subst hr
         refine EL_y (.bool ((decide (v6 > (0 : Int))))) (P_int rfl rfl rfl) rfl rfl l5 rfl ?_
         refine EL_y (.bool ((decide (v6 > (0 : Int))))) (Zl (b := (((i3).length : Int) == ((j1).length : Int))) rfl (pick_t l5 rfl)) rfl rfl d3 rfl ?_
         refine EL_y (.bool ((decide (v6 > (0 : Int))))) (Zl (b := (decide (((i3).length : Int) > ((j1).length : Int)))) rfl (pick_f d3 rfl)) rfl rfl z2 rfl ?_
         refine EL_p (.bool ((decide (v6 > (0 : Int))))) (Zl (b := o3) rfl (pick_t z2 rfl)) rfl ?_
         refine Zn (.bool ((decide (v6 > (0 : Int))))) rfl rfl ?_
         rcases Zt h with ⟨q5, h⟩ | ⟨q5, h⟩
         ·refine EL_s rfl rfl q5 rfl rfl ?_
          iterate 3 refine EL_s rfl rfl q5 rfl rfl ?_
          refine EL_p (.bool true) (Zl (b := (decide (v6 > (0 : Int)))) rfl (pick_t q5 rfl)) rfl ?_
          refine Zb ?_
          obtain rfl := sinj h
          exact hQ _ _ ⟨m8, hfr, i5, u3, u0, t5, rfl, j3, j6, z3, rfl⟩
         ·refine EL_y ((.func (.func ff1) fa1 fc1)) (Zk i5) rfl rfl q5 rfl ?_
          refine EL_y (.int .i64 (o0)) (Zk rfl) rfl rfl q5 rfl ?_
          obtain ⟨g7, kA, h⟩ := bsome h
          refine Ze (.yes2 rfl rfl q5) rfl (D_callv (g := m8) (vs := [.int .i64 (o0)]) rfl fen1 (.cons rfl .nil) (fcl1 _ _ hfr.ch _ _ _  (Zj.2 rfl) kA) fun nA kB lB hs hr => ?_)
          have hfr := hfr.ext hs
          have u0 := u0.ext hs
          have j3 := j3.ext hs
          obtain rfl := RV_bool.1 hr
          refine EL_y (.bool (!g7)) (P_not rfl) rfl rfl q5 rfl ?_
          refine EL_p (.bool (!g7)) (Zl (b := (decide (v6 > (0 : Int)))) rfl (pick_f q5 rfl)) rfl ?_
          refine Zb ?_
          obtain rfl := sinj h
          exact hQ _ _ ⟨nA, hfr, i5, u3, u0, t5, rfl, j3, j6, z3, rfl⟩
        ·refine EL_s rfl rfl l5 rfl rfl ?_
         iterate 3 refine EL_s rfl rfl l5 rfl rfl ?_
         refine EL_y (.bool false) (Zl (b := (((i3).length : Int) == ((j1).length : Int))) rfl (pick_f l5 rfl)) rfl rfl d3 rfl ?_
         refine EL_y (.bool false) (Zl (b := (decide (((i3).length : Int) > ((j1).length : Int)))) rfl (pick_f d3 rfl)) rfl rfl z2 rfl ?_
         refine EL_p (.bool false) (Zl (b := o3) rfl (pick_t z2 rfl)) rfl ?_
         refine Zn (.bool false) rfl rfl ?_
         refine EL_y ((.func (.func ff1) fa1 fc1)) (Zk i5) rfl rfl rfl rfl ?_
         refine EL_y (.int .i64 (o0)) (Zk rfl) rfl rfl rfl rfl ?_
         obtain ⟨i7, lA, h⟩ := bsome h
         refine Ze (.yes2 rfl rfl rfl) rfl (D_callv (g := n7) (vs := [.int .i64 (o0)]) rfl fen1 (.cons rfl .nil) (fcl1 _ _ hfr.ch _ _ _  (Zj.2 rfl) lA) fun oA mB nB hs hr => ?_)
         have hfr := hfr.ext hs
         have u0 := u0.ext hs
         have j3 := j3.ext hs
         obtain rfl := RV_bool.1 hr
         refine EL_y (.bool (!i7)) (P_not rfl) rfl rfl rfl rfl ?_
         refine EL_p (.bool (!i7)) (Zl (b := false) rfl (pick_f rfl rfl)) rfl ?_
         refine Zb ?_
         obtain rfl := sinj h
         exact hQ _ _ ⟨oA, hfr, i5, u3, u0, t5, rfl, j3, j6, z3, rfl⟩
      ·refine EL_s rfl rfl z2 rfl rfl ?_
       iterate 5 refine EL_s rfl rfl z2 rfl rfl ?_
       refine EL_dead 11 rfl ?_
       refine EL_s rfl rfl z2 rfl rfl ?_
       refine EL_p (.bool false) (Zl (b := o3) rfl (pick_f z2 rfl)) rfl ?_
       refine Zn (.bool false) rfl rfl ?_
       refine EL_y ((.func (.func ff1) fa1 fc1)) (Zk i5) rfl rfl rfl rfl ?_
       refine EL_y (.int .i64 (o0)) (Zk rfl) rfl rfl rfl rfl ?_
       obtain ⟨j7, mA, h⟩ := bsome h
       refine Ze (.yes2 rfl rfl rfl) rfl (D_callv (g := n7) (vs := [.int .i64 (o0)]) rfl fen1 (.cons rfl .nil) (fcl1 _ _ hfr.ch _ _ _  (Zj.2 rfl) mA) fun pA oB tB hs hr => ?_)
       have hfr := hfr.ext hs
       have u0 := u0.ext hs
       have j3 := j3.ext hs
       obtain rfl := RV_bool.1 hr
       refine EL_y (.bool (!j7)) (P_not rfl) rfl rfl rfl rfl ?_
       refine EL_p (.bool (!j7)) (Zl (b := false) rfl (pick_f rfl rfl)) rfl ?_
       refine Zb ?_
       obtain rfl := sinj h
       exact hQ _ _ ⟨pA, hfr, i5, u3, u0, t5, rfl, j3, j6, z3, rfl⟩
     ·clear hx
      obtain ⟨n8, hfr, u7, o8, q8, r8, t8, v8, v7, d7, e7⟩ := hR
      rcases Zt h with ⟨o7, h⟩ | ⟨o7, h⟩
      ·refine E_cond_true (Eq.trans (show ev _ _ = .bool (i6) from e7) (congrArg Value.bool o7)) ?_
       refine E_exit ?_
       refine thn_e ?_
       refine blk_hit ?_
       obtain ⟨rfl, rfl⟩ := pairs2 h
       exact hQ _ _ ⟨n8, (z4), hfr, u7, o8, q8, r8, v7, d7⟩
      ·refine E_cond_false (Eq.trans (show ev _ _ = .bool (i6) from e7) (congrArg Value.bool o7)) ?_
       exact Zu (Zd (iA () _ _ ⟨n8, hfr, u7, t8, v8, v7, d7⟩ h))
    ·rintro _ bB vB ⟨qA, hfr, x8, y8, a9, d9, e8⟩ h
     refine Za (Zo y8 rfl ?_)
     refine Zg x5 rfl rfl ?_
     refine Zg (.bool true) rfl rfl ?_
     refine Zb (blk_n ?_)
     obtain ⟨rfl, rfl⟩ := pairs2 h
     exact hQ _ _ ⟨qA, (x5), hfr, x8, rfl, a9, rfl, d9, e8⟩
   ·clear hx
    obtain ⟨rA, e9, hfr, i9, k9, l9, n9, o9, g8⟩ := hR
    refine Za (EL_in (.int .i64 ((w64 (o0 + (1 : Int))))) g8 rfl rfl rfl ?_)
    refine Zn (.int .i64 ((w64 (o0 + (1 : Int))))) rfl rfl ?_
    exact Zb (Zd (bA (a7, b7, (w64 (o0 + (1 : Int)))) _ _ ⟨rA, (e9), hfr, i9, k9, l9, n9, o9, rfl⟩ h))
  ·refine E_cf m7 rfl ?_
   refine E_exit ?_
   refine thn_e ?_
   refine thn_e ?_
   refine blk_hit ?_
   obtain ⟨rfl, rfl⟩ := pairs2 h
   exact hQ _ _ ⟨l8, (z4), hfr, u3, u0, t5⟩
 ·clear hx
  obtain ⟨xB, c8, hfr, t9, u9, y9⟩ := hR
  refine Zf (Za (Zo t9 rfl ?_))
  refine Zo y9 rfl ?_
  refine Zg c8 rfl rfl ?_
  refine Zg (.bool (y6)) rfl rfl ?_
  refine Zb (Zd (E_ret ?_))
  obtain rfl := sinj h
  exact end2 rfl rfl (show _ = c8 from rfl) (show _ = .bool (y6) from rfl) ⟨_, hfr, _, _, rfl, u9, rfl⟩
def f58 (x0 : Int) (z0 : LoomLoomMill) : Option (Bool) :=
 (f59 x0).bind fun y3 =>
 (f51 z0 y3 ([])).bind fun y5 =>
 (f53 z0).bind fun y8 =>
 (idx y5 y8).bind fun y9 =>
 some (y9)
theorem en58 : Enters Try.prog 58 := enters_of Try.func58 (by kernel_rfl) rfl
theorem wk58 {gI : Gh} {wI : World} {x0 : Int} {z0 : LoomLoomMill} {pf0 : Value} (qf0 : PT gI.m wI z0 pf0) {r : Bool} (h : f58 x0 z0 = some r) : Fn Try.prog 58 #[.int .i64 (x0), pf0] gI wI (fun _ _ v => v = .bool (r)) := by
 unfold f58 at h
 refine fn_of_E Try.func58 rfl (Nat.le_of_ble_eq_true rfl) fun g0 hm hfr => ?_
 have qf0 : PT g0.m wI z0 pf0 := hm ▸ qf0
 show E _ 12 none _ _ _ _ _
 refine Zf (Za (Zg (.bool false) rfl rfl ?_))
 refine Zb (Zd (Zf (Zs (x := .tmp 1) Try.isAgg96 Try.sizeOf96 qf0 fun v1 r1 hl1 => ?_)))
 obtain ⟨y3, hy3, h⟩ := bsome h
 obtain ⟨y5, hy5, h⟩ := bsome h
 refine Zs (x := .tmp 1) Try.isAgg96 Try.sizeOf96 qf0 fun v6 r6 u0 => ?_
 obtain ⟨y8, j1, h⟩ := bsome h
 obtain ⟨y9, o0, h⟩ := bsome h
 refine E_drawL (g := g0) (n := 9) [(2, (fun v g w => RV g.m w y3 v)), (3, (fun v g w => RV g.m w y5 v)), (5, (fun v g w => v = .int .i64 (y8))), (7, (fun v _ _ => v = .bool (y9)))] [0, 1, 2, 3, 4, 5, 6, 7, 8] rfl mixed (by kernel_rfl) (⟨fun _ => up_rv, fun _ => up_rv, fun _ => up_eq _, fun _ => up_eq _, trivial⟩) ?_
 refine L_ld (c := v1) rfl rfl .plain (fun _ _ h => h.ch) hl1 rfl ?_
 refine L_p (.int .i64 (x0)) rfl rfl (Zk rfl) ?_
 refine L_do (φ := fun v g w => RV g.m w y3 v) rfl rfl .plain (fun g w hd => Zp (g := g) (vs := [.int .i64 (x0)]) en59 (.cons rfl .nil) (wk59  hy3) fun g' w' v hs hr => ⟨g', hs, hr⟩) (fun v2 hv => ?_)
 obtain ⟨_, _, _, rq2⟩ := hv
 refine L_do (φ := fun v g w => RV g.m w y5 v) rfl rfl .plain (fun g w hd => Zp (g := g) (vs := [v1, v2, .map none]) en51 (.cons rfl (.cons rfl (.cons rfl .nil))) (wk51 (r1.ext hd.1) (word (A := fun g w => RV g.m w y3 v2) 2 rfl rfl (deps_of hd)) MR.nil hy5) fun g' w' v hs hr => ⟨g', hs, hr⟩) (fun v4 hv => ?_)
 obtain ⟨_, _, _, rq4⟩ := hv
 refine L_ld (c := v6) rfl rfl .plain (fun _ _ h => h.ch) u0 rfl ?_
 refine L_do (φ := fun v g w => v = .int .i64 (y8)) rfl rfl .plain (fun g w hd => Zp (g := g) (vs := [v6]) en53 (.cons rfl .nil) (wk53 (r6.ext hd.1) j1) fun g' w' v hs hr => ⟨g', hs, hr⟩) (fun v7 hv => ?_)
 obtain ⟨_, _, _, rfl⟩ := hv
 refine L_pur (c := ePtr v4 y8 1) rfl rfl .plain (fun _ _ hd => Zh (α := Bool) Try.underlying101 Try.sizeOf4 rfl (word (A := fun g w => RV g.m w y5 v4) 3 rfl rfl (deps_of hd)) rfl o0) ?_
 refine L_do (φ := (fun v _ _ => v = .bool (y9))) rfl rfl .plain (fun g w hd => D_load (g := g) Try.isAgg4 Try.sizeOf4 rfl (PT_idx (word (A := fun g w => RV g.m w y5 v4) 3 rfl rfl (hop 6 rfl rfl (deps_of hd))) o0) fun v r => ⟨g, Ext.refl g w, RV_bool.1 r⟩) (fun z2 hv => ?_)
 obtain ⟨_, _, _, rfl⟩ := hv
 refine L_p (.bool (y9)) rfl rfl (P_assign rfl) ?_
 refine L_nil fun d3 i3 hall => ?_
 have hs := hall.1
 have hfr := hfr.ext hs
 have j3 := (word_all (A := fun g w => RV g.m w y3 v2) 2 rfl hall)
 have o3 := (word_all (A := fun g w => RV g.m w y5 v4) 3 rfl hall)
 have u3 := (PT_idx (word_all (A := fun g w => RV g.m w y5 v4) 3 rfl hall) o0)
 clear hs hall
 refine Zb (Zd (E_ret ?_))
 obtain rfl := sinj h
 exact end1 rfl rfl (show _ = .bool (y9) from rfl) ⟨_, hfr, rfl⟩
def f68 (x0 : List LoomRun) (x1 : Int) : Option ((List Int)) :=
 Option.bind (α := (List Int)) (
  lp (σ := (List Int) × Int) (fun i8 (i3, o0) =>
   bif (decide (o0 < ((x0).length : Int))) then
    Option.bind (α := (List Int)) (
     (idx x0 o0).bind fun x6 =>
     bif ((x6).Loom == x1) then
      (apnd 8 i3 (([o0] : List Int))).bind fun y55 =>
      some (y55)
     else
      some (i3)
     ) fun j3 =>
    i8 (j3, (w64 (o0 + (1 : Int))))
   else
    some (i3)
   ) big (([] : List Int), (0 : Int))
  ) fun o3 =>
 (f87 o3 ((fun a0 a1 => f88 a0 a1 x0))).bind fun k8 =>
 some (k8)
theorem en68 : Enters Try.prog 68 := enters_of Try.func68 (by kernel_rfl) rfl
theorem wk68 {gI : Gh} {wI : World} {x0 : List LoomRun} {x1 : Int} {up0 : Value} (rp0 : RV gI.m wI x0 up0) {r : (List Int)} (h : f68 x0 x1 = some r) : Fn Try.prog 68 #[up0, .int .i64 (x1)] gI wI (fun m w v => RV m w (r) v) := by
 unfold f68 at h
 refine fn_of_E Try.func68 rfl (Nat.le_of_ble_eq_true rfl) fun g0 hm hfr => ?_
 have rp0 : RV g0.m wI x0 up0 := hm ▸ rp0
 show E _ 27 none _ _ _ _ _
 refine Zf (Za (Ze .plain rfl (D_box (g := g0) rfl rp0 fun g1 w1 p1 hs q1 => ?_)))
 have hfr := hfr.ext hs
 refine Zg (.slice none 0 0) rfl rfl ?_
 have b2 : OA 4004 g1 w1 3 ([] : List Int) (.slice none 0 0) := OA.nil
 refine Zb (Zd ?_)
 obtain ⟨o3, hx, h⟩ := bsome h
 refine E_join (fun e w => ∃ (g : Gh) (v4 : Value), Fr gI wI g w ∧ e 2 = p1 ∧ PT g.m w (x0 : List LoomRun) p1 ∧ e 4 = v4 ∧ OA 4004 g w 3 (o3 : List Int) v4) (fun Q' hQ => ?_) (fun l9 u9 hR => ?_)
 ·replace h := hx
  clear hx
  refine Zf (Za (Ze .plain rfl (D_load (g := g1) Try.isAgg31 Try.sizeOf31 rfl q1 fun t5 l8 => ?_)))
  refine EL_p (.int .i64 ((x0).length : Int)) (P_len Try.underlying31 rfl l8) rfl ?_
  refine Zn (.int .i64 (0)) rfl rfl ?_
  refine Zb (Zd (Zr ?_))
  refine E_lp h (fun (s : (List Int) × Int) e w => ∃ (g : Gh) (v4 : Value), Fr gI wI g w ∧ e 1 = .int .i64 (x1) ∧ e 2 = p1 ∧ PT g.m w (x0 : List LoomRun) p1 ∧ e 4 = v4 ∧ OA 4004 g w 3 (s.1 : List Int) v4 ∧ e 7 = t5 ∧ RV g.m w (x0 : List LoomRun) t5 ∧ e 8 = .int .i64 (((x0).length : Int)) ∧ e 9 = .int .i64 (s.2)) ⟨g1, (.slice none 0 0), hfr, rfl, rfl, q1, rfl, b2, rfl, l8, rfl, rfl⟩ (fun X31 i8 n8 => ?_)
  rintro ⟨i3, o0⟩ n9 y9 ⟨y6, j6, hfr, u3, z3, j1, z4, z2, i5, u0, l5, d3⟩ h
  refine Zf (Za (EL_in (.bool ((decide (o0 < ((x0).length : Int))))) d3 l5 rfl rfl ?_))
  refine Zb (Zd (Zf ?_))
  rcases Zt h with ⟨x5, h⟩ | ⟨x5, h⟩
  ·refine E_ct x5 rfl ?_
   refine Zu (Zd ?_)
   obtain ⟨j3, hx, h⟩ := bsome h
   refine E_join (fun e w => ∃ (g : Gh) (v4 : Value), Fr gI wI g w ∧ e 1 = .int .i64 (x1) ∧ e 2 = p1 ∧ PT g.m w (x0 : List LoomRun) p1 ∧ e 4 = v4 ∧ OA 4004 g w 3 (j3 : List Int) v4 ∧ e 7 = t5 ∧ RV g.m w (x0 : List LoomRun) t5 ∧ e 8 = .int .i64 (((x0).length : Int)) ∧ e 9 = .int .i64 (o0)) (fun Q' hQ => ?_) (fun o9 z9 hR => ?_)
   ·replace h := hx
    clear hx
    refine Zr ?_
    refine Zf (Za (Zo d3 rfl ?_))
    obtain ⟨x6, a7, h⟩ := bsome h
    refine EL_p (ePtr t5 o0 3) (Zh (α := LoomRun) Try.underlying31 Try.sizeOf76 i5 u0 d3 a7) rfl ?_
    have r8 := PT_idx u0 a7
    refine Ze .plain rfl (D_load (g := y6) Try.isAgg76 Try.sizeOf76 rfl r8 fun t8 b7 => ?_)
    refine Ze .plain rfl (D_allocOc (g := y6) 2006 (⟨0, 0, 0⟩ : LoomRun) Try.zeroValue76 (fun m w => ⟨_, (rep_two rep_int (rep_two rep_int rep_int)), rfl⟩) fun v8 bA x8 hs b48 cb => ?_)
    have hfr := hfr.stp hs
    have j1 := j1.stp hs
    have z2 := z2.stp hs rfl
    have u0 := u0.stp hs
    have b7 := b7.stp hs
    clear cb
    refine Zg (.int .i64 (o0)) rfl rfl ?_
    refine Ze .plain rfl (D_storeOc (g := v8) (v := t8) Try.sizeOf76 rfl b48 rfl b7 fun c7 gA hs b49 cb => ?_)
    clear cb
    have hfr := hfr.stp hs
    have j1 := j1.stp hs
    have z2 := z2.stp hs rfl
    have u0 := u0.stp hs
    refine Zb (Zd (Zf (Za (EL_p (fPtr x8 1) (Zc at_76_1 rfl (OB.ptr b49)) rfl ?_))))
    refine Ze .plain rfl (D_loadF (g := c7) part_LoomRun_1.1 Try.isAgg3 Try.sizeOf3 rfl b49 fun iA y8 => ?_)
    obtain rfl := Zj.1 y8
    refine Zo u3 rfl ?_
    refine EL_in (.bool (((x6).Loom == x1))) rfl rfl rfl rfl ?_
    refine Zb (Zd ?_)
    rcases Zt h with ⟨i6, h⟩ | ⟨i6, h⟩
    ·refine E_ct i6 rfl ?_
     refine Za (Zo z4 rfl ?_)
     refine Zn (.int .i64 (o0)) rfl rfl ?_
     refine Ze .plain rfl (D_buildSlice (g := c7) 3020 (xs := ([o0] : List Int)) (vs := [.int .i64 (o0)]) Try.underlying22 Try.sizeOf3 Try.zeroValue3 rfl rfl (.cons rfl .nil) (RVs.cons (Zj.2 rfl) RVs.nil) rfl rfl fun a9 jA kA hs o53 d9 hxt hfl => ?_)
     have hfr := hfr.stp hs
     have j1 := j1.stp hs
     have z2 := z2.stp hs rfl
     have u0 := u0.stp hs
     obtain ⟨y55, o8, h⟩ := bsome h
     refine Ze .plain rfl (D_appendA (g := a9) plain_int (i := 4004) Try.underlying22 info_3 rfl rfl z2 rfl d9 o8 fun e9 lA m8 hs b54 => ?_)
     have hfr := hfr.stp hs
     have j1 := j1.stp hs
     have u0 := u0.stp hs
     refine Zg m8 rfl rfl ?_
     refine Zb (blk_n ?_)
     obtain rfl := sinj h
     exact hQ _ _ ⟨e9, (m8), hfr, u3, z3, j1, rfl, b54, i5, u0, l5, d3⟩
    ·refine E_cf i6 rfl ?_
     refine Zu (blk_n ?_)
     obtain rfl := sinj h
     exact hQ _ _ ⟨c7, (j6), hfr, u3, z3, j1, z4, z2, i5, u0, l5, d3⟩
   ·clear hx
    obtain ⟨i9, d7, hfr, e7, g7, i7, j7, m7, n7, o7, u7, v7⟩ := hR
    refine Za (EL_in (.int .i64 ((w64 (o0 + (1 : Int))))) v7 rfl rfl rfl ?_)
    refine Zn (.int .i64 ((w64 (o0 + (1 : Int))))) rfl rfl ?_
    exact Zb (Zd (n8 (j3, (w64 (o0 + (1 : Int)))) _ _ ⟨i9, (d7), hfr, e7, g7, i7, j7, m7, n7, o7, u7, rfl⟩ h))
  ·refine E_cf x5 rfl ?_
   refine E_exit ?_
   refine thn_e ?_
   refine thn_e ?_
   refine blk_hit ?_
   obtain rfl := sinj h
   exact hQ _ _ ⟨y6, (j6), hfr, z3, j1, z4, z2⟩
 ·clear hx
  obtain ⟨k9, q5, hfr, c8, e8, v6, g8⟩ := hR
  refine Zf (Za (Zo v6 rfl ?_))
  refine EL_p ((.func (.func 88) #[] #[p1])) (P_makeFunc (capf_0_1 (show ev _ _ = p1 from c8))) rfl ?_
  obtain ⟨k8, q8, h⟩ := bsome h
  refine Ze .plain rfl (D_callM (g := k9) (i := 4004) (vs := [q5, (.func (.func 88) #[] #[p1])]) en87 (.cons rfl (.cons rfl .nil)) (wk87 (g8.toM) ⟨88, #[], #[p1], rfl, en88, fun g' w' hch a0 a1 b0 b1 r hu0 hu1 hr => by obtain rfl := Zj.1 hu0; obtain rfl := Zj.1 hu1; exact Fn.mono (wk88  (e8.ch hch) hr) fun _ _ _ h => Zj.2 h⟩ q8) fun mA t9 nA hs hr => ?_)
  obtain ⟨hrv, b58⟩ := hr
  have hfr := hfr.stp hs
  subst hrv
  refine Zb (Zd (Zf (Za (Zo v6 rfl ?_))))
  refine Zg q5 rfl rfl ?_
  refine Zb (Zd (E_ret ?_))
  obtain ⟨gp60, hs, rp60⟩ := OM.pub b58
  have hfr := hfr.stp hs
  obtain rfl := sinj h
  exact end1 rfl rfl (show _ = q5 from rfl) ⟨_, hfr, rp60⟩
def f71 (x0 : List Int) : Option (Bool) :=
 (f81 ((0 : Int)) ((300 : Int)) x0).bind fun y2 =>
 some (y2)
theorem en71 : Enters Try.prog 71 := enters_of Try.func71 (by kernel_rfl) rfl
theorem wk71 {gI : Gh} {wI : World} {x0 : List Int} {up0 : Value} (rp0 : RV gI.m wI x0 up0) {r : Bool} (h : f71 x0 = some r) : Fn Try.prog 71 #[up0] gI wI (fun _ _ v => v = .bool (r)) := by
 unfold f71 at h
 refine fn_of_E Try.func71 rfl (Nat.le_of_ble_eq_true rfl) fun g0 hm hfr => ?_
 have rp0 : RV g0.m wI x0 up0 := hm ▸ rp0
 show E _ 5 none _ _ _ _ _
 refine Zf (Za (Zg (.bool false) rfl rfl ?_))
 refine Zb (Zd (Zf (Za (Zn up0 rfl rfl ?_))))
 obtain ⟨y2, hy2, h⟩ := bsome h
 refine Ze .plain rfl (Zp (g := g0) (vs := [.int .i64 (0), .int .i64 (300), up0]) en81 (.cons rfl (.cons rfl (.cons rfl .nil))) (wk81 rp0 hy2) fun g1 w1_ v1 hs hr => ?_)
 have hfr := hfr.ext hs
 subst hr
 refine Zg (.bool (y2)) rfl rfl ?_
 refine Zb (Zd (E_ret ?_))
 obtain rfl := sinj h
 exact end1 rfl rfl (show _ = .bool (y2) from rfl) ⟨_, hfr, rfl⟩
def f80 (x0 : LoomOrder) : Option (Bool) :=
 Option.bind (α := Bool) (
  (f81 ((1 : Int)) ((100 : Int)) (([(x0).Width] : List Int))).bind fun i3 =>
  bif i3 then
   (f81 ((0 : Int)) ((100 : Int)) (([(x0).Chain] : List Int))).bind fun d3 =>
   bif d3 then
    (f81 ((1 : Int)) ((100 : Int)) (([(x0).Woven] : List Int))).bind fun y43 =>
    bif y43 then
     (f71 (([(x0).Early, (x0).Late] : List Int))).bind fun j3 =>
     some (j3)
    else
     some (false)
   else
    some (false)
  else
   some (false)
  ) fun z2 =>
 some (z2)
theorem en80 : Enters Try.prog 80 := enters_of Try.func80 (by kernel_rfl) rfl
theorem wk80 {gI : Gh} {wI : World} {x0 : LoomOrder} {up0 : Value} (rp0 : RV gI.m wI x0 up0) {r : Bool} (h : f80 x0 = some r) : Fn Try.prog 80 #[up0] gI wI (fun _ _ v => v = .bool (r)) := by
 unfold f80 at h
 refine fn_of_E Try.func80 rfl (Nat.le_of_ble_eq_true rfl) fun g0 hm hfr => ?_
 have rp0 : RV g0.m wI x0 up0 := hm ▸ rp0
 show E _ 27 none _ _ _ _ _
 refine Zf (Za (Ze .plain rfl (D_box (g := g0) rfl rp0 fun g1 w1 p1 hs q1 => ?_)))
 have hfr := hfr.ext hs
 refine Zg (.bool false) rfl rfl ?_
 refine Zb (Zd ?_)
 obtain ⟨z2, hx, h⟩ := bsome h
 refine E_join (fun e w => ∃ (g : Gh) , Fr gI wI g w ∧ e 2 = .bool (z2)) (fun Q' hQ => ?_) (fun k8 q8 hR => ?_)
 ·replace h := hx
  clear hx
  refine Za (EL_p (fPtr p1 0) (Zc at_82_0 rfl (PT.ptr q1)) rfl ?_)
  have x5 := Zm (part_LoomOrder_0).1 q1
  refine Ze .plain rfl (D_load (g := g1) Try.isAgg3 Try.sizeOf3 rfl x5 fun r8 i6 => ?_)
  obtain rfl := Zj.1 i6
  refine Ze .plain rfl (D_buildSlice (g := g1) 3005 (xs := ([(x0).Width] : List Int)) (vs := [.int .i64 ((x0).Width)]) Try.underlying22 Try.sizeOf3 Try.zeroValue3 rfl rfl (.cons rfl .nil) (RVs.cons (Zj.2 rfl) RVs.nil) rfl rfl fun j6 t8 v6 hs o29 x6 hxt hfl => ?_)
  have hfr := hfr.stp hs
  have q1 := q1.stp hs
  obtain ⟨i3, i5, h⟩ := bsome h
  refine Ze .plain rfl (Zp (g := j6) (vs := [.int .i64 (1), .int .i64 (100), v6]) en81 (.cons rfl (.cons rfl (.cons rfl .nil))) (wk81 x6 i5) fun u3 l8 v8 hs hr => ?_)
  have hfr := hfr.ext hs
  have q1 := q1.ext hs
  subst hr
  refine Zn (.bool (i3)) rfl rfl ?_
  rcases Zt h with ⟨u0, h⟩ | ⟨u0, h⟩
  ·refine EL_y (fPtr p1 1) (Zc at_82_1 rfl (PT.ptr q1)) rfl rfl u0 rfl ?_
   have y6 := Zm (part_LoomOrder_1).1 q1
   refine Ze (.yes2 rfl rfl u0) rfl (D_load (g := u3) Try.isAgg3 Try.sizeOf3 rfl y6 fun x8 a7 => ?_)
   obtain rfl := Zj.1 a7
   refine Ze (.yes2 rfl rfl u0) rfl (D_buildSlice (g := u3) 3010 (xs := ([(x0).Chain] : List Int)) (vs := [.int .i64 ((x0).Chain)]) Try.underlying22 Try.sizeOf3 Try.zeroValue3 rfl rfl (.cons rfl .nil) (RVs.cons (Zj.2 rfl) RVs.nil) rfl rfl fun b7 y8 c7 hs o35 d7 hxt hfl => ?_)
   have hfr := hfr.stp hs
   have q1 := q1.stp hs
   obtain ⟨d3, l5, h⟩ := bsome h
   refine Ze (.yes2 rfl rfl u0) rfl (Zp (g := b7) (vs := [.int .i64 (0), .int .i64 (100), c7]) en81 (.cons rfl (.cons rfl (.cons rfl .nil))) (wk81 d7 l5) fun z3 m8 a9 hs hr => ?_)
   have hfr := hfr.ext hs
   have q1 := q1.ext hs
   subst hr
   refine EL_p (.bool (d3)) (Zl (b := i3) rfl (pick_t u0 rfl)) rfl ?_
   refine Zn (.bool (d3)) rfl rfl ?_
   rcases Zt h with ⟨j1, h⟩ | ⟨j1, h⟩
   ·refine EL_y (fPtr p1 2) (Zc at_82_2 rfl (PT.ptr q1)) rfl rfl j1 rfl ?_
    have e7 := Zm (part_LoomOrder_2).1 q1
    refine Ze (.yes2 rfl rfl j1) rfl (D_load (g := z3) Try.isAgg3 Try.sizeOf3 rfl e7 fun d9 g7 => ?_)
    obtain rfl := Zj.1 g7
    refine Ze (.yes2 rfl rfl j1) rfl (D_buildSlice (g := z3) 3016 (xs := ([(x0).Woven] : List Int)) (vs := [.int .i64 ((x0).Woven)]) Try.underlying22 Try.sizeOf3 Try.zeroValue3 rfl rfl (.cons rfl .nil) (RVs.cons (Zj.2 rfl) RVs.nil) rfl rfl fun i7 e9 j7 hs o41 m7 hxt hfl => ?_)
    have hfr := hfr.stp hs
    have q1 := q1.stp hs
    obtain ⟨y43, q5, h⟩ := bsome h
    refine Ze (.yes2 rfl rfl j1) rfl (Zp (g := i7) (vs := [.int .i64 (1), .int .i64 (100), j7]) en81 (.cons rfl (.cons rfl (.cons rfl .nil))) (wk81 m7 q5) fun o3 n8 i9 hs hr => ?_)
    have hfr := hfr.ext hs
    have q1 := q1.ext hs
    subst hr
    refine EL_p (.bool (y43)) (Zl (b := d3) rfl (pick_t j1 rfl)) rfl ?_
    refine Zn (.bool (y43)) rfl rfl ?_
    rcases Zt h with ⟨o0, h⟩ | ⟨o0, h⟩
    ·refine EL_y (fPtr p1 3) (Zc at_82_3 rfl (PT.ptr q1)) rfl rfl o0 rfl ?_
     have n7 := Zm (part_LoomOrder_3).1 q1
     refine Ze (.yes2 rfl rfl o0) rfl (D_load (g := o3) Try.isAgg3 Try.sizeOf3 rfl n7 fun k9 o7 => ?_)
     obtain rfl := Zj.1 o7
     refine EL_y (fPtr p1 4) (Zc at_82_4 rfl (PT.ptr q1)) rfl rfl o0 rfl ?_
     have u7 := Zm (part_LoomOrder_4).1 q1
     refine Ze (.yes2 rfl rfl o0) rfl (D_load (g := o3) Try.isAgg3 Try.sizeOf3 rfl u7 fun l9 v7 => ?_)
     obtain rfl := Zj.1 v7
     refine Ze (.yes2 rfl rfl o0) rfl (D_buildSlice (g := o3) 3024 (xs := ([(x0).Early, (x0).Late] : List Int)) (vs := [.int .i64 ((x0).Early), .int .i64 ((x0).Late)]) Try.underlying22 Try.sizeOf3 Try.zeroValue3 rfl rfl (.cons rfl (.cons rfl .nil)) (RVs.cons (Zj.2 rfl) (RVs.cons (Zj.2 rfl) RVs.nil)) rfl rfl fun c8 n9 e8 hs o49 g8 hxt hfl => ?_)
     have hfr := hfr.stp hs
     obtain ⟨j3, t5, h⟩ := bsome h
     refine Ze (.yes2 rfl rfl o0) rfl (Zp (g := c8) (vs := [e8]) en71 (.cons rfl .nil) (wk71 g8 t5) fun i8 o8 o9 hs hr => ?_)
     have hfr := hfr.ext hs
     subst hr
     refine EL_p (.bool (j3)) (Zl (b := y43) rfl (pick_t o0 rfl)) rfl ?_
     refine Zg (.bool (j3)) rfl rfl ?_
     refine Zb ?_
     obtain rfl := sinj h
     exact hQ _ _ ⟨i8, hfr, rfl⟩
    ·refine EL_s rfl rfl o0 rfl rfl ?_
     iterate 5 refine EL_s rfl rfl o0 rfl rfl ?_
     refine EL_p (.bool false) (Zl (b := y43) rfl (pick_f o0 rfl)) rfl ?_
     refine Zg (.bool false) rfl rfl ?_
     refine Zb ?_
     obtain rfl := sinj h
     exact hQ _ _ ⟨o3, hfr, rfl⟩
   ·refine EL_s rfl rfl j1 rfl rfl ?_
    iterate 3 refine EL_s rfl rfl j1 rfl rfl ?_
    refine EL_p (.bool false) (Zl (b := d3) rfl (pick_f j1 rfl)) rfl ?_
    refine EL_dead 8 rfl ?_
    refine Zg (.bool false) rfl rfl ?_
    refine Zb ?_
    obtain rfl := sinj h
    exact hQ _ _ ⟨z3, hfr, rfl⟩
  ·refine EL_s rfl rfl u0 rfl rfl ?_
   iterate 3 refine EL_s rfl rfl u0 rfl rfl ?_
   refine EL_p (.bool false) (Zl (b := i3) rfl (pick_f u0 rfl)) rfl ?_
   refine EL_dead 14 rfl ?_
   refine Zg (.bool false) rfl rfl ?_
   refine Zb ?_
   obtain rfl := sinj h
   exact hQ _ _ ⟨u3, hfr, rfl⟩
 ·clear hx
  obtain ⟨t9, hfr, z4⟩ := hR
  refine E_ret ?_
  obtain rfl := sinj h
  exact end1 rfl rfl (show _ = .bool (z2) from z4) ⟨_, hfr, rfl⟩
def f93 (x0 : LoomLoomMill) (x1 : List LoomRun) (x2 : Int) : Option (Int) :=
 (idx x1 x2).bind fun y2 =>
 jn (σ := Unit) (fun _ =>
  some ((0 : Int))
  ) fun q8 =>
 Option.bind (α := Bool) (
  (f81 ((0 : Int)) ((w64 ((((x0).orders).length : Int) - (1 : Int)))) (([(y2).Order] : List Int))).bind fun q5 =>
  bif (!q5) then
   some ((!q5))
  else
   (f81 ((0 : Int)) ((w64 (((((x0).LoomMill).Widths).length : Int) - (1 : Int)))) (([(y2).Loom] : List Int))).bind fun t5 =>
   bif (!t5) then
    some ((!t5))
   else
    (f71 (([(y2).From] : List Int))).bind fun c7 =>
    some ((!c7))
  ) fun d3 =>
 bif d3 then
  some ((7 : Int))
 else
  Option.bind (α := Bool) (
   bif (decide (x2 > (0 : Int))) then
    (idx x1 (w64 (x2 - (1 : Int)))).bind fun z4 =>
    some ((decide ((y2).Order ≤ (z4).Order)))
   else
    some (false)
   ) fun i3 =>
  bif i3 then
   some ((4 : Int))
  else
   (idx ((x0).orders) (y2).Order).bind fun x5 =>
   (idx (((x0).LoomMill).Widths) (y2).Loom).bind fun i6 =>
   bif (decide ((x5).Width > i6)) then
    some ((2 : Int))
   else
    Option.bind (α := Bool) (
     (idx ((x0).orders) (y2).Order).bind fun i5 =>
     bif (decide ((y2).From < (i5).Early)) then
      some ((decide ((y2).From < (i5).Early)))
     else
      (f73 x0 y2).bind fun l5 =>
      (idx ((x0).orders) (y2).Order).bind fun j6 =>
      some ((decide (l5 > (j6).Late)))
     ) fun j3 =>
    bif j3 then
     some ((3 : Int))
    else
     q8 ()
theorem en93 : Enters Try.prog 93 := enters_of Try.func93 (by kernel_rfl) rfl
theorem wk93 {gI : Gh} {wI : World} {x0 : LoomLoomMill} {x1 : List LoomRun} {x2 : Int} {up0 : Value} (rp0 : RV gI.m wI x0 up0) {up1 : Value} (rp1 : RV gI.m wI x1 up1) {r : Int} (h : f93 x0 x1 x2 = some r) : Fn Try.prog 93 #[up0, up1, .int .i64 (x2)] gI wI (fun _ _ v => v = .int .i64 (r)) := by
 unfold f93 at h
 refine fn_of_E Try.func93 rfl (Nat.le_of_ble_eq_true rfl) fun g0 hm hfr => ?_
 have rp0 : RV g0.m wI x0 up0 := hm ▸ rp0
 have rp1 : RV g0.m wI x1 up1 := hm ▸ rp1
 show E _ 89 none _ _ _ _ _
 refine Zf (Za (Ze .plain rfl (D_box (g := g0) rfl rp0 fun g1 w1 p1 hs q1 => ?_)))
 have hfr := hfr.ext hs
 have rp1 := rp1.ext hs
 refine Zg (.int .i64 (0)) rfl rfl ?_
 refine Zb (Zd (Zf (Za (Zn up1 rfl rfl ?_))))
 refine Zn (.int .i64 (x2)) rfl rfl ?_
 obtain ⟨y2, hy2, h⟩ := bsome h
 refine EL_p (ePtr up1 x2 3) (Zh (α := LoomRun) Try.underlying31 Try.sizeOf76 rfl rp1 rfl hy2) rfl ?_
 have q3 := PT_idx rp1 hy2
 refine Ze .plain rfl (D_load (g := g1) Try.isAgg76 Try.sizeOf76 rfl q3 fun v4 r4 => ?_)
 refine Ze .plain rfl (D_allocOc (g := g1) 2007 (⟨0, 0, 0⟩ : LoomRun) Try.zeroValue76 (fun m w => ⟨_, (rep_two rep_int (rep_two rep_int rep_int)), rfl⟩) fun g5 w5 p5 hs b5 cb => ?_)
 have hfr := hfr.stp hs
 have rp1 := rp1.stp hs
 have q1 := q1.stp hs
 have r4 := r4.stp hs
 clear cb
 refine Ze .plain rfl (D_storeOc (g := g5) (v := v4) Try.sizeOf76 rfl b5 rfl r4 fun g6 w6 hs b6 cb => ?_)
 clear cb
 have hfr := hfr.stp hs
 have rp1 := rp1.stp hs
 have q1 := q1.stp hs
 refine Zb (Zd (Zq h (fun (s : Unit) e w => ∃ (g : Gh) , Fr gI wI g w) (fun X380 q8 z9 h => ?_) ?_))
 ·refine Zr ?_
  obtain ⟨d3, hx, h⟩ := bsome h
  refine E_join (fun e w => ∃ (g : Gh) , Fr gI wI g w ∧ e 1 = up1 ∧ RV g.m w (x1 : List LoomRun) up1 ∧ e 2 = .int .i64 (x2) ∧ e 3 = p1 ∧ PT g.m w (x0 : LoomLoomMill) p1 ∧ e 7 = p5 ∧ OB 2007 g w 76 (y2 : LoomRun) p5 ∧ e 12 = .bool (d3)) (fun Q' hQ => ?_) (fun xD eE hR => ?_)
  ·replace h := hx
   clear hx
   refine Zf (Za (EL_p (fPtr p1 2) (Zc at_96_1 rfl (PT.ptr q1)) rfl ?_))
   have eB := Zm (part_LoomLoomMill_1).1 q1
   refine Ze .plain rfl (D_load (g := g6) Try.isAgg25 Try.sizeOf25 rfl eB fun gE iB => ?_)
   refine EL_p (.int .i64 (((x0).orders).length : Int)) (P_len Try.underlying25 rfl iB) rfl ?_
   refine EL_p (.int .i64 ((w64 ((((x0).orders).length : Int) - (1 : Int))))) (P_int rfl rfl rfl) rfl ?_
   refine EL_p (fPtr p5 0) (Zc at_76_0 rfl (OB.ptr b6)) rfl ?_
   refine Ze .plain rfl (D_loadF (g := g6) part_LoomRun_0.1 Try.isAgg3 Try.sizeOf3 rfl b6 fun iE jB => ?_)
   obtain rfl := Zj.1 jB
   refine Ze .plain rfl (D_buildSlice (g := g6) 3019 (xs := ([(y2).Order] : List Int)) (vs := [.int .i64 ((y2).Order)]) Try.underlying22 Try.sizeOf3 Try.zeroValue3 rfl rfl (.cons rfl .nil) (RVs.cons (Zj.2 rfl) RVs.nil) rfl rfl fun kB jE lB hs o407 mB hxt hfl => ?_)
   have hfr := hfr.stp hs
   have rp1 := rp1.stp hs
   have q1 := q1.stp hs
   have b6 := b6.stp hs rfl
   obtain ⟨q5, bA, h⟩ := bsome h
   refine Ze .plain rfl (Zp (g := kB) (vs := [.int .i64 (0), .int .i64 ((w64 ((((x0).orders).length : Int) - (1 : Int)))), lB]) en81 (.cons rfl (.cons rfl (.cons rfl .nil))) (wk81 mB bA) fun d7 yD kE hs hr => ?_)
   have hfr := hfr.ext hs
   have rp1 := rp1.ext hs
   have q1 := q1.ext hs
   have b6 := b6.ext hs
   subst hr
   refine EL_p (.bool (!q5)) (P_not rfl) rfl ?_
   refine Zg (.bool (!q5)) rfl rfl ?_
   refine Zb (Zd ?_)
   rcases Zt h with ⟨e7, h⟩ | ⟨e7, h⟩
   ·refine E_ct e7 rfl ?_
    refine Zu ?_
    obtain rfl := sinj h
    exact hQ _ _ ⟨d7, hfr, rfl, rp1, rfl, rfl, q1, rfl, b6, rfl⟩
   ·refine E_cf e7 rfl ?_
    refine Zf (Za (EL_p (fPtr p1 0) (Zc at_96_0 rfl (PT.ptr q1)) rfl ?_))
    have r8 := Zm (part_LoomLoomMill_0).1 q1
    refine EL_p (fPtr (fPtr p1 0) 0) (Zc at_24_0 rfl (PT.ptr r8)) rfl ?_
    have nB := Zm (part_LoomMill_0).1 r8
    refine Ze .plain rfl (D_load (g := d7) Try.isAgg22 Try.sizeOf22 rfl nB fun lE oB => ?_)
    refine EL_p (.int .i64 ((((x0).LoomMill).Widths).length : Int)) (P_len Try.underlying22 rfl oB) rfl ?_
    refine EL_p (.int .i64 ((w64 (((((x0).LoomMill).Widths).length : Int) - (1 : Int))))) (P_int rfl rfl rfl) rfl ?_
    refine EL_p (fPtr p5 1) (Zc at_76_1 rfl (OB.ptr b6)) rfl ?_
    refine Ze .plain rfl (D_loadF (g := d7) part_LoomRun_1.1 Try.isAgg3 Try.sizeOf3 rfl b6 fun mE tB => ?_)
    obtain rfl := Zj.1 tB
    refine Ze .plain rfl (D_buildSlice (g := d7) 3029 (xs := ([(y2).Loom] : List Int)) (vs := [.int .i64 ((y2).Loom)]) Try.underlying22 Try.sizeOf3 Try.zeroValue3 rfl rfl (.cons rfl .nil) (RVs.cons (Zj.2 rfl) RVs.nil) rfl rfl fun vB nE xB hs o416 yB hxt hfl => ?_)
    have hfr := hfr.stp hs
    have rp1 := rp1.stp hs
    have q1 := q1.stp hs
    have b6 := b6.stp hs rfl
    obtain ⟨t5, gA, h⟩ := bsome h
    refine Ze .plain rfl (Zp (g := vB) (vs := [.int .i64 (0), .int .i64 ((w64 (((((x0).LoomMill).Widths).length : Int) - (1 : Int)))), xB]) en81 (.cons rfl (.cons rfl (.cons rfl .nil))) (wk81 yB gA) fun c8 zD oE hs hr => ?_)
    have hfr := hfr.ext hs
    have rp1 := rp1.ext hs
    have q1 := q1.ext hs
    have b6 := b6.ext hs
    subst hr
    refine EL_p (.bool (!t5)) (P_not rfl) rfl ?_
    refine Zg (.bool (!t5)) rfl rfl ?_
    refine Zb (Zd ?_)
    rcases Zt h with ⟨g7, h⟩ | ⟨g7, h⟩
    ·refine E_ct g7 rfl ?_
     refine Zu ?_
     obtain rfl := sinj h
     exact hQ _ _ ⟨c8, hfr, rfl, rp1, rfl, rfl, q1, rfl, b6, rfl⟩
    ·refine E_cf g7 rfl ?_
     refine Za (EL_p (fPtr p5 2) (Zc at_76_2 rfl (OB.ptr b6)) rfl ?_)
     refine Ze .plain rfl (D_loadF (g := c8) part_LoomRun_2.1 Try.isAgg3 Try.sizeOf3 rfl b6 fun rE zB => ?_)
     obtain rfl := Zj.1 zB
     refine Ze .plain rfl (D_buildSlice (g := c8) 3034 (xs := ([(y2).From] : List Int)) (vs := [.int .i64 ((y2).From)]) Try.underlying22 Try.sizeOf3 Try.zeroValue3 rfl rfl (.cons rfl .nil) (RVs.cons (Zj.2 rfl) RVs.nil) rfl rfl fun aC sE cC hs o422 dC hxt hfl => ?_)
     have hfr := hfr.stp hs
     have rp1 := rp1.stp hs
     have q1 := q1.stp hs
     have b6 := b6.stp hs rfl
     obtain ⟨c7, iA, h⟩ := bsome h
     refine Ze .plain rfl (Zp (g := aC) (vs := [cC]) en71 (.cons rfl .nil) (wk71 dC iA) fun eC aE tE hs hr => ?_)
     have hfr := hfr.ext hs
     have rp1 := rp1.ext hs
     have q1 := q1.ext hs
     have b6 := b6.ext hs
     subst hr
     refine EL_p (.bool (!c7)) (P_not rfl) rfl ?_
     refine Zg (.bool (!c7)) rfl rfl ?_
     refine Zb ?_
     obtain rfl := sinj h
     exact hQ _ _ ⟨eC, hfr, rfl, rp1, rfl, rfl, q1, rfl, b6, rfl⟩
  ·clear hx
   obtain ⟨t8, hfr, v8, u7, v6, v7, o3, x6, z2, y6⟩ := hR
   rcases Zt h with ⟨i7, h⟩ | ⟨i7, h⟩
   ·refine E_cond_true (Eq.trans (show ev _ _ = .bool (d3) from y6) (congrArg Value.bool i7)) ?_
    refine Zf (Za (Zg (.int .i64 (7)) rfl rfl ?_))
    refine Zb (Zd (E_ret (blk_r ?_)))
    refine thn_r ?_
    obtain rfl := sinj h
    exact end1 rfl rfl (show _ = .int .i64 (7) from rfl) ⟨_, hfr, rfl⟩
   ·refine E_cond_false (Eq.trans (show ev _ _ = .bool (d3) from y6) (congrArg Value.bool i7)) ?_
    obtain ⟨i3, hx, h⟩ := bsome h
    refine E_join (fun e w => ∃ (g : Gh) , Fr gI wI g w ∧ e 3 = p1 ∧ PT g.m w (x0 : LoomLoomMill) p1 ∧ e 7 = p5 ∧ OB 2007 g w 76 (y2 : LoomRun) p5 ∧ e 37 = .bool (i3)) (fun Q' hQ => ?_) (fun bE uE hR => ?_)
    ·replace h := hx
     clear hx
     rcases Zt h with ⟨j1, h⟩ | ⟨j1, h⟩
     ·refine L_loadO (x := .tmp 41) part_LoomRun_0.1 Try.isAgg3 Try.sizeOf3 z2 fun vE iC jA => ?_
      obtain rfl := Zj.1 iC
      obtain ⟨z4, k8, h⟩ := bsome h
      have x8 := PT_idx u7 k8
      have jC := Zm (part_LoomRun_0).1 x8
      refine Zs (x := .tmp 47) Try.isAgg3 Try.sizeOf3 jC fun xE kC kA => ?_
      obtain rfl := Zj.1 kC
      refine E_drawL (g := t8) (n := 14) [] [0, 1, 2, 3, 4, 5, 6, 7, 8, 9, 10, 11, 12, 13] rfl mixed (by kernel_rfl) trivial ?_
      refine L_p (.int .i64 (x2)) rfl rfl (Zk v6) ?_
      refine L_p (.bool ((decide (x2 > (0 : Int))))) rfl rfl (P_int rfl rfl rfl) ?_
      refine L_p (.bool ((decide (x2 > (0 : Int))))) rfl rfl (Zk rfl) ?_
      refine L_y (fPtr p5 0) rfl rfl rfl rfl j1 (Zc at_76_0 x6 (OB.ptr z2)) ?_
      refine L_ld (c := .int .i64 ((y2).Order)) rfl rfl (.yes2 rfl rfl j1) (fun _ _ h => ⟨h.ch, fun b hb _ => h.below.block b hb⟩) jA rfl ?_
      refine L_y up1 rfl rfl rfl rfl j1 (Zk v8) ?_
      refine L_y (.int .i64 (x2)) rfl rfl rfl rfl j1 (Zk v6) ?_
      refine L_y (.int .i64 ((w64 (x2 - (1 : Int))))) rfl rfl rfl rfl j1 (P_int rfl rfl rfl) ?_
      refine L_y (ePtr up1 (w64 (x2 - (1 : Int))) 3) rfl rfl rfl rfl j1 (Zh (α := LoomRun) Try.underlying31 Try.sizeOf76 rfl u7 rfl k8) ?_
      refine L_y (fPtr (ePtr up1 (w64 (x2 - (1 : Int))) 3) 0) rfl rfl rfl rfl j1 (Zc at_76_0 rfl (PT.ptr x8)) ?_
      refine L_ld (c := .int .i64 ((z4).Order)) rfl rfl (.yes2 rfl rfl j1) (fun _ _ h => h.ch) kA rfl ?_
      refine L_y (.bool ((decide ((y2).Order ≤ (z4).Order)))) rfl rfl rfl rfl j1 (P_int rfl rfl rfl) ?_
      refine L_p (.bool ((decide ((y2).Order ≤ (z4).Order)))) rfl rfl (Zl (b := (decide (x2 > (0 : Int)))) rfl (pick_t j1 rfl)) ?_
      refine L_p (.bool ((decide ((y2).Order ≤ (z4).Order)))) rfl rfl (P_assign rfl) ?_
      refine L_nl fun lC yE hs => ?_
      have hfr := hfr.ext hs
      have o3 := o3.ext hs
      have z2 := z2.ext hs
      clear hs
      refine Zb ?_
      obtain rfl := sinj h
      exact hQ _ _ ⟨lC, hfr, v7, o3, x6, z2, rfl⟩
     ·refine E_drawL (g := t8) (n := 14) [] [0, 1, 2, 3, 4, 5, 6, 7, 8, 9, 10, 11, 12, 13] rfl mixed (by kernel_rfl) trivial ?_
      refine L_p (.int .i64 (x2)) rfl rfl (Zk v6) ?_
      refine L_p (.bool ((decide (x2 > (0 : Int))))) rfl rfl (P_int rfl rfl rfl) ?_
      refine L_p (.bool ((decide (x2 > (0 : Int))))) rfl rfl (Zk rfl) ?_
      iterate 9 refine L_s rfl rfl rfl j1 rfl ?_
      refine L_p (.bool false) rfl rfl (Zl (b := (decide (x2 > (0 : Int)))) rfl (pick_f j1 rfl)) ?_
      refine L_p (.bool false) rfl rfl (P_assign rfl) ?_
      refine L_nl fun mC zE hs => ?_
      have hfr := hfr.ext hs
      have o3 := o3.ext hs
      have z2 := z2.ext hs
      clear hs
      refine Zb ?_
      obtain rfl := sinj h
      exact hQ _ _ ⟨mC, hfr, v7, o3, x6, z2, rfl⟩
    ·clear hx
     obtain ⟨qC, hfr, z3, u0, u3, o0, a7⟩ := hR
     rcases Zt h with ⟨j7, h⟩ | ⟨j7, h⟩
     ·refine E_cond_true (Eq.trans (show ev _ _ = .bool (i3) from a7) (congrArg Value.bool j7)) ?_
      refine Zf (Za (Zg (.int .i64 (4)) rfl rfl ?_))
      refine Zb (Zd (E_ret (blk_r ?_)))
      refine thn_r ?_
      obtain rfl := sinj h
      exact end1 rfl rfl (show _ = .int .i64 (4) from rfl) ⟨_, hfr, rfl⟩
     ·refine E_cond_false (Eq.trans (show ev _ _ = .bool (i3) from a7) (congrArg Value.bool j7)) ?_
      refine Zf ?_
      have rC := Zm (part_LoomLoomMill_1).1 u0
      refine Zs (x := .tmp 52) Try.isAgg25 Try.sizeOf25 rC fun e8 y8 lA => ?_
      refine L_loadO (x := .tmp 54) part_LoomRun_0.1 Try.isAgg3 Try.sizeOf3 o0 fun cF tC mA => ?_
      obtain rfl := Zj.1 tC
      obtain ⟨x5, l8, h⟩ := bsome h
      have a9 := PT_idx y8 l8
      have uC := Zm (part_LoomOrder_0).1 a9
      refine Zs (x := .tmp 57) Try.isAgg3 Try.sizeOf3 uC fun dF vC nA => ?_
      obtain rfl := Zj.1 vC
      have d9 := Zm (part_LoomLoomMill_0).1 u0
      have xC := Zm (part_LoomMill_0).1 d9
      refine Zs (x := .tmp 60) Try.isAgg22 Try.sizeOf22 xC fun e9 i9 oA => ?_
      refine L_loadO (x := .tmp 62) part_LoomRun_1.1 Try.isAgg3 Try.sizeOf3 o0 fun eF yC pA => ?_
      obtain rfl := Zj.1 yC
      obtain ⟨i6, m8, h⟩ := bsome h
      have aD := PT_idx i9 m8
      refine Zs (x := .tmp 64) Try.isAgg3 Try.sizeOf3 aD fun iF bD qA => ?_
      obtain rfl := Zj.1 bD
      refine E_drawL (g := qC) (n := 16) [] [0, 1, 2, 3, 4, 5, 6, 7, 8, 9, 10, 11, 12, 13, 14, 15] rfl mixed (by kernel_rfl) trivial ?_
      refine L_p (fPtr p1 2) rfl rfl (Zc at_96_1 z3 (PT.ptr u0)) ?_
      refine L_ld (c := e8) rfl rfl .plain (fun _ _ h => h.ch) lA rfl ?_
      refine L_p (fPtr p5 0) rfl rfl (Zc at_76_0 u3 (OB.ptr o0)) ?_
      refine L_ld (c := .int .i64 ((y2).Order)) rfl rfl .plain (fun _ _ h => ⟨h.ch, fun b hb _ => h.below.block b hb⟩) mA rfl ?_
      refine L_p (ePtr e8 (y2).Order 5) rfl rfl (Zh (α := LoomOrder) Try.underlying25 Try.sizeOf82 rfl y8 rfl l8) ?_
      refine L_p (fPtr (ePtr e8 (y2).Order 5) 0) rfl rfl (Zc at_82_0 rfl (PT.ptr a9)) ?_
      refine L_ld (c := .int .i64 ((x5).Width)) rfl rfl .plain (fun _ _ h => h.ch) nA rfl ?_
      refine L_p (fPtr p1 0) rfl rfl (Zc at_96_0 z3 (PT.ptr u0)) ?_
      refine L_p (fPtr (fPtr p1 0) 0) rfl rfl (Zc at_24_0 rfl (PT.ptr d9)) ?_
      refine L_ld (c := e9) rfl rfl .plain (fun _ _ h => h.ch) oA rfl ?_
      refine L_p (fPtr p5 1) rfl rfl (Zc at_76_1 u3 (OB.ptr o0)) ?_
      refine L_ld (c := .int .i64 ((y2).Loom)) rfl rfl .plain (fun _ _ h => ⟨h.ch, fun b hb _ => h.below.block b hb⟩) pA rfl ?_
      refine L_p (ePtr e9 (y2).Loom 1) rfl rfl (Zh (α := Int) Try.underlying22 Try.sizeOf3 rfl i9 rfl m8) ?_
      refine L_ld (c := .int .i64 (i6)) rfl rfl .plain (fun _ _ h => h.ch) qA rfl ?_
      refine L_p (.bool ((decide ((x5).Width > i6)))) rfl rfl (P_int rfl rfl rfl) ?_
      refine L_p (.bool ((decide ((x5).Width > i6)))) rfl rfl (P_assign rfl) ?_
      refine L_nl fun cD nF hs => ?_
      have hfr := hfr.ext hs
      have u0 := u0.ext hs
      have o0 := o0.ext hs
      clear hs
      refine Zb (Zd ?_)
      rcases Zt h with ⟨m7, h⟩ | ⟨m7, h⟩
      ·refine E_ct m7 rfl ?_
       refine Zf (Za (Zg (.int .i64 (2)) rfl rfl ?_))
       refine Zb (Zd (E_ret (blk_r ?_)))
       refine thn_r ?_
       obtain rfl := sinj h
       exact end1 rfl rfl (show _ = .int .i64 (2) from rfl) ⟨_, hfr, rfl⟩
      ·refine E_cf m7 rfl ?_
       obtain ⟨j3, hx, h⟩ := bsome h
       refine E_join (fun e w => ∃ (g : Gh) , Fr gI wI g w ∧ e 67 = .bool (j3)) (fun Q' hQ => ?_) (fun cE oF hR => ?_)
       ·replace h := hx
        clear hx
        refine Zf (L_loadO (x := .tmp 68) part_LoomRun_2.1 Try.isAgg3 Try.sizeOf3 o0 fun pF eD rA => ?_)
        obtain rfl := Zj.1 eD
        have gD := Zm (part_LoomLoomMill_1).1 u0
        refine Zs (x := .tmp 70) Try.isAgg25 Try.sizeOf25 gD fun g8 k9 sA => ?_
        refine L_loadO (x := .tmp 72) part_LoomRun_0.1 Try.isAgg3 Try.sizeOf3 o0 fun qF iD uA => ?_
        obtain rfl := Zj.1 iD
        obtain ⟨i5, n8, h⟩ := bsome h
        have l9 := PT_idx k9 n8
        have jD := Zm (part_LoomOrder_3).1 l9
        refine Zs (x := .tmp 75) Try.isAgg3 Try.sizeOf3 jD fun rF kD xA => ?_
        obtain rfl := Zj.1 kD
        refine E_drawL (g := cD) (n := 11) [] [0, 1, 2, 3, 4, 5, 6, 7, 8, 9, 10] rfl mixed (by kernel_rfl) trivial ?_
        refine L_p (fPtr p5 2) rfl rfl (Zc at_76_2 u3 (OB.ptr o0)) ?_
        refine L_ld (c := .int .i64 ((y2).From)) rfl rfl .plain (fun _ _ h => ⟨h.ch, fun b hb _ => h.below.block b hb⟩) rA rfl ?_
        refine L_p (fPtr p1 2) rfl rfl (Zc at_96_1 z3 (PT.ptr u0)) ?_
        refine L_ld (c := g8) rfl rfl .plain (fun _ _ h => h.ch) sA rfl ?_
        refine L_p (fPtr p5 0) rfl rfl (Zc at_76_0 u3 (OB.ptr o0)) ?_
        refine L_ld (c := .int .i64 ((y2).Order)) rfl rfl .plain (fun _ _ h => ⟨h.ch, fun b hb _ => h.below.block b hb⟩) uA rfl ?_
        refine L_p (ePtr g8 (y2).Order 5) rfl rfl (Zh (α := LoomOrder) Try.underlying25 Try.sizeOf82 rfl k9 rfl n8) ?_
        refine L_p (fPtr (ePtr g8 (y2).Order 5) 3) rfl rfl (Zc at_82_3 rfl (PT.ptr l9)) ?_
        refine L_ld (c := .int .i64 ((i5).Early)) rfl rfl .plain (fun _ _ h => h.ch) xA rfl ?_
        refine L_p (.bool ((decide ((y2).From < (i5).Early)))) rfl rfl (P_int rfl rfl rfl) ?_
        refine L_p (.bool ((decide ((y2).From < (i5).Early)))) rfl rfl (P_assign rfl) ?_
        refine L_nl fun n9 sF hs => ?_
        have hfr := hfr.ext hs
        have u0 := u0.ext hs
        have o0 := o0.ext hs
        clear hs
        refine Zb (Zd ?_)
        rcases Zt h with ⟨n7, h⟩ | ⟨n7, h⟩
        ·refine E_ct n7 rfl ?_
         refine Zu ?_
         obtain rfl := sinj h
         exact hQ _ _ ⟨n9, hfr, rfl⟩
        ·refine E_cf n7 rfl ?_
         refine Zs (x := .tmp 3) Try.isAgg96 Try.sizeOf96 u0 fun o9 lD yA => ?_
         refine L_loadO0 (x := .tmp 7) Try.isAgg76 Try.sizeOf76 o0 fun t9 mD zA => ?_
         obtain ⟨l5, aB, h⟩ := bsome h
         have nD := Zm (part_LoomLoomMill_1).1 u0
         refine Zs (x := .tmp 81) Try.isAgg25 Try.sizeOf25 nD fun i8 u9 bB => ?_
         refine L_loadO (x := .tmp 83) part_LoomRun_0.1 Try.isAgg3 Try.sizeOf3 o0 fun tF oD cB => ?_
         obtain rfl := Zj.1 oD
         obtain ⟨j6, o8, h⟩ := bsome h
         have y9 := PT_idx u9 o8
         have sD := Zm (part_LoomOrder_4).1 y9
         refine Zs (x := .tmp 86) Try.isAgg3 Try.sizeOf3 sD fun uF tD dB => ?_
         obtain rfl := Zj.1 tD
         refine E_drawL (g := n9) (n := 12) [(2, (fun v g w => v = .int .i64 (l5)))] [0, 1, 2, 3, 4, 5, 6, 7, 8, 9, 10, 11] rfl mixed (by kernel_rfl) (⟨fun _ => up_eq _, trivial⟩) ?_
         refine L_ld (c := o9) rfl rfl .plain (fun _ _ h => h.ch) yA z3 ?_
         refine L_ld (c := t9) rfl rfl .plain (fun _ _ h => ⟨h.ch, fun b hb _ => h.below.block b hb⟩) zA u3 ?_
         refine L_do (φ := fun v g w => v = .int .i64 (l5)) rfl rfl .plain (fun g w hd => Zp (g := g) (vs := [o9, t9]) en73 (.cons rfl (.cons rfl .nil)) (wk73 (lD.ext hd.1) (mD.ext hd.1) aB) fun g' w' v hs hr => ⟨g', hs, hr⟩) (fun vF hv => ?_)
         obtain ⟨_, _, _, rfl⟩ := hv
         refine L_p (fPtr p1 2) rfl rfl (Zc at_96_1 z3 (PT.ptr u0)) ?_
         refine L_ld (c := i8) rfl rfl .plain (fun _ _ h => h.ch) bB rfl ?_
         refine L_p (fPtr p5 0) rfl rfl (Zc at_76_0 u3 (OB.ptr o0)) ?_
         refine L_ld (c := .int .i64 ((y2).Order)) rfl rfl .plain (fun _ _ h => ⟨h.ch, fun b hb _ => h.below.block b hb⟩) cB rfl ?_
         refine L_p (ePtr i8 (y2).Order 5) rfl rfl (Zh (α := LoomOrder) Try.underlying25 Try.sizeOf82 rfl u9 rfl o8) ?_
         refine L_p (fPtr (ePtr i8 (y2).Order 5) 4) rfl rfl (Zc at_82_4 rfl (PT.ptr y9)) ?_
         refine L_ld (c := .int .i64 ((j6).Late)) rfl rfl .plain (fun _ _ h => h.ch) dB rfl ?_
         refine L_p (.bool ((decide (l5 > (j6).Late)))) rfl rfl (P_int rfl rfl rfl) ?_
         refine L_p (.bool ((decide (l5 > (j6).Late)))) rfl rfl (P_assign rfl) ?_
         refine L_nl fun uD xF hs => ?_
         have hfr := hfr.ext hs
         clear hs
         refine Zb ?_
         obtain rfl := sinj h
         exact hQ _ _ ⟨uD, hfr, rfl⟩
       ·clear hx
        obtain ⟨vD, hfr, b7⟩ := hR
        rcases Zt h with ⟨o7, h⟩ | ⟨o7, h⟩
        ·refine E_cond_true (Eq.trans (show ev _ _ = .bool (j3) from b7) (congrArg Value.bool o7)) ?_
         refine Zf (Za (Zg (.int .i64 (3)) rfl rfl ?_))
         refine Zb (Zd (E_ret (blk_r ?_)))
         refine thn_r ?_
         obtain rfl := sinj h
         exact end1 rfl rfl (show _ = .int .i64 (3) from rfl) ⟨_, hfr, rfl⟩
        ·refine E_cond_false (Eq.trans (show ev _ _ = .bool (j3) from b7) (congrArg Value.bool o7)) ?_
         exact Zu (blk_n (Zd (z9 () _ _ ⟨vD, hfr⟩ h)))
 ·rintro _ dE yF ⟨zF, hfr⟩ h
  refine Zf (Za (Zg (.int .i64 (0)) rfl rfl ?_))
  refine Zb (Zd (E_ret ?_))
  obtain rfl := sinj h
  exact end1 rfl rfl (show _ = .int .i64 (0) from rfl) ⟨_, hfr, rfl⟩
def f94 (x0 : LoomLoomMill) (x1 : List LoomRun) : Option (Int) :=
 (mks 1 (false : Bool) (((x1).length : Int))).bind fun y2 =>
 Option.bind (α := (List Bool)) (
  lp (σ := (List Bool) × Int) (fun u9 (v6, u0) =>
   bif (decide (u0 < ((((x0).LoomMill).Widths).length : Int))) then
    Option.bind (α := (List Bool)) (
     (f68 x1 u0).bind fun o3 =>
     lp (σ := (List Bool) × Int) (fun y9 (u3, o0) =>
      jn (σ := Unit) (fun _ =>
       Option.bind (α := (List Bool)) (
        (idx o3 o0).bind fun q8 =>
        (idx x1 q8).bind fun z3 =>
        (idx o3 o0).bind fun x6 =>
        (idx o3 (w64 (o0 - (1 : Int)))).bind fun g7 =>
        (idx x1 g7).bind fun z9 =>
        (f69 x0 z9 ((z3).Order)).bind fun i6 =>
        (idx u3 x6).bind fun eC =>
        some ((List.set u3 (Int.toNat x6) ((decide ((z3).From < i6)))))
        ) fun z4 =>
       y9 (z4, (w64 (o0 + (1 : Int))))
       ) fun bA =>
      bif (decide (o0 < ((o3).length : Int))) then
       bA ()
      else
       some (u3)
      ) big (v6, (1 : Int))
     ) fun i5 =>
    u9 (i5, (w64 (u0 + (1 : Int))))
   else
    some (v6)
   ) big (y2, (0 : Int))
  ) fun y6 =>
 (f103 y6 true).bind fun i7 =>
 some (i7)
theorem en94 : Enters Try.prog 94 := enters_of Try.func94 (by kernel_rfl) rfl
theorem wk94 {gI : Gh} {wI : World} {x0 : LoomLoomMill} {x1 : List LoomRun} {up0 : Value} (rp0 : RV gI.m wI x0 up0) {up1 : Value} (rp1 : RV gI.m wI x1 up1) {r : Int} (h : f94 x0 x1 = some r) : Fn Try.prog 94 #[up0, up1] gI wI (fun _ _ v => v = .int .i64 (r)) := by
 unfold f94 at h
 refine fn_of_E Try.func94 rfl (Nat.le_of_ble_eq_true rfl) fun g0 hm hfr => ?_
 have rp0 : RV g0.m wI x0 up0 := hm ▸ rp0
 have rp1 : RV g0.m wI x1 up1 := hm ▸ rp1
 show E _ 60 none _ _ _ _ _
 refine Zf (Za (Ze .plain rfl (D_box (g := g0) rfl rp0 fun g1 w1 p1 hs q1 => ?_)))
 have hfr := hfr.ext hs
 have rp1 := rp1.ext hs
 refine Zg (.int .i64 (0)) rfl rfl ?_
 refine Zb (Zd (Zf (Za (Zn up1 rfl rfl ?_))))
 refine EL_p (.int .i64 ((x1).length : Int)) (P_len Try.underlying31 rfl rp1) rfl ?_
 obtain ⟨y2, hy2, h⟩ := bsome h
 refine Ze .plain rfl (D_makeSliceM (g := g1) 9012 (false : Bool) rfl Try.underlying101 info_4 rfl (fun _ _ => rfl) rfl rfl hy2 fun g3 w3 v3 hs b3 => ?_)
 have hfr := hfr.stp hs
 have rp1 := rp1.stp hs
 have q1 := q1.stp hs
 refine Zg v3 rfl rfl ?_
 refine Zb (Zd ?_)
 obtain ⟨y6, hx, h⟩ := bsome h
 refine E_join (fun e w => ∃ (g : Gh) , Fr gI wI g w ∧ e 5 = v3 ∧ OM 9012 g w 4 (y6 : List Bool) v3) (fun Q' hQ => ?_) (fun oD aE hR => ?_)
 ·replace h := hx
  clear hx
  refine Zf (Za (EL_p (fPtr p1 0) (Zc at_96_0 rfl (PT.ptr q1)) rfl ?_))
  have gA := Zm (part_LoomLoomMill_0).1 q1
  refine EL_p (fPtr (fPtr p1 0) 0) (Zc at_24_0 rfl (PT.ptr gA)) rfl ?_
  have iC := Zm (part_LoomMill_0).1 gA
  refine Ze .plain rfl (D_load (g := g3) Try.isAgg22 Try.sizeOf22 rfl iC fun bE jC => ?_)
  refine EL_p (.int .i64 ((((x0).LoomMill).Widths).length : Int)) (P_len Try.underlying22 rfl jC) rfl ?_
  refine Zn (.int .i64 (0)) rfl rfl ?_
  refine Zb (Zd (Zr ?_))
  refine E_lp h (fun (s : (List Bool) × Int) e w => ∃ (g : Gh) , Fr gI wI g w ∧ e 1 = up1 ∧ RV g.m w (x1 : List LoomRun) up1 ∧ e 2 = p1 ∧ PT g.m w (x0 : LoomLoomMill) p1 ∧ e 5 = v3 ∧ OM 9012 g w 4 (s.1 : List Bool) v3 ∧ e 16 = .int .i64 (((((x0).LoomMill).Widths).length : Int)) ∧ e 17 = .int .i64 (s.2)) ⟨g3, hfr, rfl, rp1, rfl, q1, rfl, b3, rfl, rfl⟩ (fun X284 u9 lB => ?_)
  rintro ⟨v6, u0⟩ sD cE ⟨iA, hfr, n7, l5, jA, a7, o7, q5, c7, j6⟩ h
  refine Zf (Za (EL_p (.bool ((decide (u0 < ((((x0).LoomMill).Widths).length : Int))))) (P_int j6 c7 rfl) rfl ?_))
  refine Zb (Zd (Zf ?_))
  rcases Zt h with ⟨j7, h⟩ | ⟨j7, h⟩
  ·refine E_ct j7 rfl ?_
   refine Zu (Zd ?_)
   obtain ⟨i5, hx, h⟩ := bsome h
   refine E_join (fun e w => ∃ (g : Gh) , Fr gI wI g w ∧ e 1 = up1 ∧ RV g.m w (x1 : List LoomRun) up1 ∧ e 2 = p1 ∧ PT g.m w (x0 : LoomLoomMill) p1 ∧ e 5 = v3 ∧ OM 9012 g w 4 (i5 : List Bool) v3 ∧ e 16 = .int .i64 (((((x0).LoomMill).Widths).length : Int)) ∧ e 17 = .int .i64 (u0)) (fun Q' hQ => ?_) (fun tD dE hR => ?_)
   ·replace h := hx
    clear hx
    refine Zr ?_
    refine Zf (Za (Zo j6 rfl ?_))
    refine Zg (.int .i64 (u0)) rfl rfl ?_
    refine Zb (Zd (Zf (Za (Zo n7 rfl ?_))))
    refine Zn (.int .i64 (u0)) rfl rfl ?_
    obtain ⟨o3, mB, h⟩ := bsome h
    refine Ze .plain rfl (Zp (g := iA) (vs := [up1, .int .i64 (u0)]) en68 (.cons rfl (.cons rfl .nil)) (wk68 l5 mB) fun kC uD j3 hs hr => ?_)
    have hfr := hfr.ext hs
    have l5 := l5.ext hs
    have a7 := a7.ext hs
    have q5 := q5.ext hs
    have lC := hr
    refine Zg j3 rfl rfl ?_
    refine Zb (Zd (Zf (Za (Zg (.int .i64 (1)) rfl rfl ?_))))
    refine Zb (Zd (Zr ?_))
    refine E_lp h (fun (s : (List Bool) × Int) e w => ∃ (g : Gh) , Fr gI wI g w ∧ e 1 = up1 ∧ RV g.m w (x1 : List LoomRun) up1 ∧ e 2 = p1 ∧ PT g.m w (x0 : LoomLoomMill) p1 ∧ e 5 = v3 ∧ OM 9012 g w 4 (s.1 : List Bool) v3 ∧ e 7 = j3 ∧ RV g.m w (o3 : List Int) j3 ∧ e 8 = .int .i64 (s.2) ∧ e 16 = .int .i64 (((((x0).LoomMill).Widths).length : Int)) ∧ e 17 = .int .i64 (u0)) ⟨kC, hfr, n7, l5, jA, a7, o7, q5, rfl, lC, rfl, c7, j6⟩ (fun X424 y9 nB => ?_)
    rintro ⟨u3, o0⟩ vD eE ⟨kA, hfr, u7, v7, c8, e8, g8, i8, k8, l8, m8, d7, e7⟩ h
    refine Zq h (fun (s : Unit) e w => ∃ (g : Gh) , Fr gI wI g w ∧ e 1 = up1 ∧ RV g.m w (x1 : List LoomRun) up1 ∧ e 2 = p1 ∧ PT g.m w (x0 : LoomLoomMill) p1 ∧ e 5 = v3 ∧ OM 9012 g w 4 (u3 : List Bool) v3 ∧ e 7 = j3 ∧ RV g.m w (o3 : List Int) j3 ∧ e 8 = .int .i64 (o0) ∧ e 16 = .int .i64 (((((x0).LoomMill).Widths).length : Int)) ∧ e 17 = .int .i64 (u0)) (fun X427 bA oB h => ?_) ?_
    ·refine Zf (Za (Zo m8 rfl ?_))
     refine Zo k8 rfl ?_
     refine EL_p (.int .i64 ((o3).length : Int)) (P_len Try.underlying22 rfl l8) rfl ?_
     refine EL_in (.bool ((decide (o0 < ((o3).length : Int))))) rfl rfl rfl rfl ?_
     refine Zb (Zd ?_)
     rcases Zt h with ⟨m7, h⟩ | ⟨m7, h⟩
     ·refine E_ct m7 rfl ?_
      exact Zu (Zd (oB () _ _ ⟨kA, hfr, u7, v7, c8, e8, g8, i8, k8, l8, m8, d7, e7⟩ h))
     ·refine E_cf m7 rfl ?_
      refine E_exit ?_
      refine thn_e ?_
      refine thn_e ?_
      refine blk_hit ?_
      refine blk_n ?_
      obtain rfl := sinj h
      exact hQ _ _ ⟨kA, hfr, u7, v7, c8, e8, g8, i8, d7, e7⟩
    ·rintro _ xD gE ⟨r8, hfr, b7, z2, n8, d3, o8, i3, t5, j1, x5, i9, k9⟩ h
     obtain ⟨z4, hx, h⟩ := bsome h
     refine E_join (fun e w => ∃ (g : Gh) , Fr gI wI g w ∧ e 1 = up1 ∧ RV g.m w (x1 : List LoomRun) up1 ∧ e 2 = p1 ∧ PT g.m w (x0 : LoomLoomMill) p1 ∧ e 5 = v3 ∧ OM 9012 g w 4 (z4 : List Bool) v3 ∧ e 7 = j3 ∧ RV g.m w (o3 : List Int) j3 ∧ e 8 = .int .i64 (o0) ∧ e 16 = .int .i64 (((((x0).LoomMill).Widths).length : Int)) ∧ e 17 = .int .i64 (u0)) (fun Q' hQ => ?_) (fun yD iE hR => ?_)
     ·replace h := hx
      clear hx
      refine Zr ?_
      refine Zf (Za (Zo b7 rfl ?_))
      refine Zo t5 rfl ?_
      refine Zo x5 rfl ?_
      obtain ⟨q8, v8, h⟩ := bsome h
      refine EL_p (ePtr j3 o0 1) (Zh (α := Int) Try.underlying22 Try.sizeOf3 rfl j1 rfl v8) rfl ?_
      have mC := PT_idx j1 v8
      refine Ze .plain rfl (D_load (g := r8) Try.isAgg3 Try.sizeOf3 rfl mC fun jE qC => ?_)
      obtain rfl := Zj.1 qC
      obtain ⟨z3, x8, h⟩ := bsome h
      refine EL_p (ePtr up1 q8 3) (Zh (α := LoomRun) Try.underlying31 Try.sizeOf76 rfl z2 rfl x8) rfl ?_
      have rC := PT_idx z2 x8
      refine Ze .plain rfl (D_load (g := r8) Try.isAgg76 Try.sizeOf76 rfl rC fun tC t8 => ?_)
      refine Ze .plain rfl (D_allocOc (g := r8) 2009 (⟨0, 0, 0⟩ : LoomRun) Try.zeroValue76 (fun m w => ⟨_, (rep_two rep_int (rep_two rep_int rep_int)), rfl⟩) fun uC kE lA hs b499 cb => ?_)
      have hfr := hfr.stp hs
      have z2 := z2.stp hs
      have d3 := d3.stp hs
      have i3 := i3.stp hs rfl
      have j1 := j1.stp hs
      have t8 := t8.stp hs
      clear cb
      refine Ze .plain rfl (D_storeOc (g := uC) (v := tC) Try.sizeOf76 rfl b499 rfl t8 fun vC lE hs b500 cb => ?_)
      clear cb
      have hfr := hfr.stp hs
      have z2 := z2.stp hs
      have d3 := d3.stp hs
      have i3 := i3.stp hs rfl
      have j1 := j1.stp hs
      refine Zb (Zd ?_)
      obtain ⟨x6, y8, h⟩ := bsome h
      have xC := PT_idx j1 y8
      refine Zs (x := .tmp 39) Try.isAgg3 Try.sizeOf3 xC fun mE yC tB => ?_
      obtain rfl := Zj.1 yC
      refine L_loadO (x := .tmp 41) part_LoomRun_2.1 Try.isAgg3 Try.sizeOf3 b500 fun nE aD vB => ?_
      obtain rfl := Zj.1 aD
      refine Zs (x := .tmp 2) Try.isAgg96 Try.sizeOf96 d3 fun mA bD xB => ?_
      obtain ⟨g7, a9, h⟩ := bsome h
      have cD := PT_idx j1 a9
      refine Zs (x := .tmp 48) Try.isAgg3 Try.sizeOf3 cD fun oE eD yB => ?_
      obtain rfl := Zj.1 eD
      obtain ⟨z9, d9, h⟩ := bsome h
      have gD := PT_idx z2 d9
      refine Zs (x := .tmp 50) Try.isAgg76 Try.sizeOf76 gD fun nA iD zB => ?_
      refine L_loadO (x := .tmp 52) part_LoomRun_0.1 Try.isAgg3 Try.sizeOf3 b500 fun rE jD aC => ?_
      obtain rfl := Zj.1 jD
      obtain ⟨i6, cC, h⟩ := bsome h
      obtain ⟨eC, e9, h⟩ := bsome h
      refine E_drawL (g := vC) (n := 21) [(18, (fun v g w => v = .int .i64 (i6)))] [0, 1, 2, 3, 4, 5, 6, 7, 8, 9, 10, 11, 12, 13, 14, 15, 16, 17, 18, 19, 20] rfl mixed (by kernel_rfl) (⟨fun _ => up_eq _, trivial⟩) ?_
      refine L_p v3 rfl rfl (Zk o8) ?_
      refine L_p j3 rfl rfl (Zk t5) ?_
      refine L_p (.int .i64 (o0)) rfl rfl (Zk x5) ?_
      refine L_p (ePtr j3 o0 1) rfl rfl (Zh (α := Int) Try.underlying22 Try.sizeOf3 rfl j1 rfl y8) ?_
      refine L_ld (c := .int .i64 (x6)) rfl rfl .plain (fun _ _ h => h.ch) tB rfl ?_
      refine L_p (fPtr lA 2) rfl rfl (Zc at_76_2 rfl (OB.ptr b500)) ?_
      refine L_ld (c := .int .i64 ((z3).From)) rfl rfl .plain (fun _ _ h => ⟨h.ch, fun b hb _ => h.below.block b hb⟩) vB rfl ?_
      refine L_ld (c := mA) rfl rfl .plain (fun _ _ h => h.ch) xB n8 ?_
      refine L_p up1 rfl rfl (Zk b7) ?_
      refine L_p j3 rfl rfl (Zk t5) ?_
      refine L_p (.int .i64 (o0)) rfl rfl (Zk x5) ?_
      refine L_p (.int .i64 ((w64 (o0 - (1 : Int))))) rfl rfl (P_int rfl rfl rfl) ?_
      refine L_p (ePtr j3 (w64 (o0 - (1 : Int))) 1) rfl rfl (Zh (α := Int) Try.underlying22 Try.sizeOf3 rfl j1 rfl a9) ?_
      refine L_ld (c := .int .i64 (g7)) rfl rfl .plain (fun _ _ h => h.ch) yB rfl ?_
      refine L_p (ePtr up1 g7 3) rfl rfl (Zh (α := LoomRun) Try.underlying31 Try.sizeOf76 rfl z2 rfl d9) ?_
      refine L_ld (c := nA) rfl rfl .plain (fun _ _ h => h.ch) zB rfl ?_
      refine L_p (fPtr lA 0) rfl rfl (Zc at_76_0 rfl (OB.ptr b500)) ?_
      refine L_ld (c := .int .i64 ((z3).Order)) rfl rfl .plain (fun _ _ h => ⟨h.ch, fun b hb _ => h.below.block b hb⟩) aC rfl ?_
      refine L_do (φ := fun v g w => v = .int .i64 (i6)) rfl rfl .plain (fun g w hd => Zp (g := g) (vs := [mA, nA, .int .i64 ((z3).Order)]) en69 (.cons rfl (.cons rfl (.cons rfl .nil))) (wk69 (bD.ext hd.1) (iD.ext hd.1) cC) fun g' w' v hs hr => ⟨g', hs, hr⟩) (fun sE hv => ?_)
      obtain ⟨_, _, _, rfl⟩ := hv
      refine L_p (.bool ((decide ((z3).From < i6)))) rfl rfl (P_int rfl rfl rfl) ?_
      refine L_p (ePtr v3 x6 1) rfl rfl (P_indexAddrM (α := Bool) Try.underlying101 Try.sizeOf4 rfl i3 rfl e9) ?_
      refine L_nl fun kD tE hs => ?_
      have hfr := hfr.ext hs
      have z2 := z2.ext hs
      have d3 := d3.ext hs
      have i3 := i3.ext hs
      have j1 := j1.ext hs
      clear hs
      refine Ze .plain rfl (D_storeM (g := kD) (α := Bool) (a' := ((decide ((z3).From < i6)))) Try.sizeOf4 rfl i3 e9 rfl (RV_bool.2 rfl) fun lD uE hs b555 => ?_)
      have hfr := hfr.stp hs
      have z2 := z2.stp hs
      have d3 := d3.stp hs
      have j1 := j1.stp hs
      refine Zb (blk_n ?_)
      obtain rfl := sinj h
      exact hQ _ _ ⟨lD, hfr, b7, z2, n8, d3, o8, b555, t5, j1, x5, i9, k9⟩
     ·clear hx
      obtain ⟨mD, hfr, oA, pA, qA, rA, sA, uA, xA, yA, zA, l9, n9⟩ := hR
      refine Za (Zo zA rfl ?_)
      refine EL_in (.int .i64 ((w64 (o0 + (1 : Int))))) rfl rfl rfl rfl ?_
      refine Zg (.int .i64 ((w64 (o0 + (1 : Int))))) rfl rfl ?_
      exact Zb (Zd (nB (z4, (w64 (o0 + (1 : Int)))) _ _ ⟨mD, hfr, oA, pA, qA, rA, sA, uA, xA, yA, rfl, l9, n9⟩ h))
   ·clear hx
    obtain ⟨nD, hfr, aB, bB, cB, dB, eB, iB, o9, t9⟩ := hR
    refine Za (EL_in (.int .i64 ((w64 (u0 + (1 : Int))))) t9 rfl rfl rfl ?_)
    refine Zn (.int .i64 ((w64 (u0 + (1 : Int))))) rfl rfl ?_
    exact Zb (Zd (lB (i5, (w64 (u0 + (1 : Int)))) _ _ ⟨nD, hfr, aB, bB, cB, dB, eB, iB, o9, rfl⟩ h))
  ·refine E_cf j7 rfl ?_
   refine E_exit ?_
   refine thn_e ?_
   refine thn_e ?_
   refine blk_hit ?_
   obtain rfl := sinj h
   exact hQ _ _ ⟨iA, hfr, o7, q5⟩
 ·clear hx
  obtain ⟨vE, hfr, jB, kB⟩ := hR
  refine Zf (Za (Zo jB rfl ?_))
  obtain ⟨gp559, hs, rp559⟩ := OM.pub kB
  have hfr := hfr.stp hs
  obtain ⟨i7, dC, h⟩ := bsome h
  refine Ze .plain rfl (Zp (g := gp559) (vs := [v3, .bool true]) en103 (.cons rfl (.cons rfl .nil)) (wk103 rp559 dC) fun xE zD yE hs hr => ?_)
  have hfr := hfr.ext hs
  subst hr
  refine Zg (.int .i64 (i7)) rfl rfl ?_
  refine Zb (Zd (E_ret ?_))
  obtain rfl := sinj h
  exact end1 rfl rfl (show _ = .int .i64 (i7) from rfl) ⟨_, hfr, rfl⟩
def f70 (x0 : LoomRun) : Option (Bool) :=
 (f71 (([(x0).From] : List Int))).bind fun y6 =>
 some ((!y6))
theorem en70 : Enters Try.prog 70 := enters_of Try.func70 (by kernel_rfl) rfl
theorem wk70 {gI : Gh} {wI : World} {x0 : LoomRun} {up0 : Value} (rp0 : RV gI.m wI x0 up0) {r : Bool} (h : f70 x0 = some r) : Fn Try.prog 70 #[up0] gI wI (fun _ _ v => v = .bool (r)) := by
 unfold f70 at h
 refine fn_of_E Try.func70 rfl (Nat.le_of_ble_eq_true rfl) fun g0 hm hfr => ?_
 have rp0 : RV g0.m wI x0 up0 := hm ▸ rp0
 show E _ 8 none _ _ _ _ _
 refine Zf (Za (Ze .plain rfl (D_box (g := g0) rfl rp0 fun g1 w1 p1 hs q1 => ?_)))
 have hfr := hfr.ext hs
 refine Zg (.bool false) rfl rfl ?_
 refine Zb (Zd (Zf (Za (EL_p (fPtr p1 2) (Zc at_76_2 rfl (PT.ptr q1)) rfl ?_))))
 have q2 := Zm (part_LoomRun_2).1 q1
 refine Ze .plain rfl (D_load (g := g1) Try.isAgg3 Try.sizeOf3 rfl q2 fun v3 r3 => ?_)
 obtain rfl := Zj.1 r3
 refine Ze .plain rfl (D_buildSlice (g := g1) 3005 (xs := ([(x0).From] : List Int)) (vs := [.int .i64 ((x0).From)]) Try.underlying22 Try.sizeOf3 Try.zeroValue3 rfl rfl (.cons rfl .nil) (RVs.cons (Zj.2 rfl) RVs.nil) rfl rfl fun g4 w4 v4 hs o4 r4 hxt hfl => ?_)
 have hfr := hfr.stp hs
 obtain ⟨y6, o0, h⟩ := bsome h
 refine Ze .plain rfl (Zp (g := g4) (vs := [v4]) en71 (.cons rfl .nil) (wk71 r4 o0) fun g5 w5_ v5 hs hr => ?_)
 have hfr := hfr.ext hs
 subst hr
 refine EL_p (.bool (!y6)) (P_not rfl) rfl ?_
 refine Zg (.bool (!y6)) rfl rfl ?_
 refine Zb (Zd (E_ret ?_))
 obtain rfl := sinj h
 exact end1 rfl rfl (show _ = .bool (!y6) from rfl) ⟨_, hfr, rfl⟩
def f78 (x0 : LoomLoomMill) (x1 : List LoomRun) : Option (Int × Int) :=
 jn (σ := Unit) (fun _ =>
  jn (σ := Unit) (fun _ =>
   jn (σ := Unit) (fun _ =>
    some ((0 : Int), (0 : Int))
    ) fun e7 =>
   (f94 x0 x1).bind fun u0 =>
   bif (decide (u0 ≥ (0 : Int))) then
    some (u0, (6 : Int))
   else
    e7 ()
   ) fun g7 =>
  lp (σ := Int) (fun i7 o0 =>
   bif (decide (o0 < ((x1).length : Int))) then
    jn (σ := Unit) (fun _ =>
     i7 ((w64 (o0 + (1 : Int))))
     ) fun j7 =>
    (f93 x0 x1 o0).bind fun j1 =>
    bif (j1 != (0 : Int)) then
     some (o0, j1)
    else
     j7 ()
   else
    g7 ()
   ) big ((0 : Int))
  ) fun k5 =>
 bif (decide (((x1).length : Int) > (((x0).orders).length : Int))) then
  some ((0 : Int), (5 : Int))
 else
  k5 ()
theorem en78 : Enters Try.prog 78 := enters_of Try.func78 (by kernel_rfl) rfl
theorem wk78 {gI : Gh} {wI : World} {x0 : LoomLoomMill} {x1 : List LoomRun} {up0 : Value} (rp0 : RV gI.m wI x0 up0) {up1 : Value} (rp1 : RV gI.m wI x1 up1) {r : Int × Int} (h : f78 x0 x1 = some r) : Fn Try.prog 78 #[up0, up1] gI wI (fun m w v => ∃ y0 y1, v = .tuple #[y0, y1] ∧ y0 = .int .i64 (r.1) ∧ y1 = .int .i64 (r.2)) := by
 unfold f78 at h
 refine fn_of_E Try.func78 rfl (Nat.le_of_ble_eq_true rfl) fun g0 hm hfr => ?_
 have rp0 : RV g0.m wI x0 up0 := hm ▸ rp0
 have rp1 : RV g0.m wI x1 up1 := hm ▸ rp1
 show E _ 35 none _ _ _ _ _
 refine Zf (Za (Ze .plain rfl (D_box (g := g0) rfl rp0 fun g1 w1 p1 hs q1 => ?_)))
 have hfr := hfr.ext hs
 have rp1 := rp1.ext hs
 refine Zg (.int .i64 (0)) rfl rfl ?_
 refine Zg (.int .i64 (0)) rfl rfl ?_
 refine Zb (Zd (Zq h (fun (s : Unit) e w => ∃ (g : Gh) , Fr gI wI g w ∧ e 1 = up1 ∧ RV g.m w (x1 : List LoomRun) up1 ∧ e 2 = p1 ∧ PT g.m w (x0 : LoomLoomMill) p1) (fun X5 k5 hk5 h => ?_) ?_))
 ·refine Zf (Za (Zn up1 rfl rfl ?_))
  refine EL_p (.int .i64 ((x1).length : Int)) (P_len Try.underlying31 rfl rp1) rfl ?_
  refine EL_p (fPtr p1 2) (Zc at_96_1 rfl (PT.ptr q1)) rfl ?_
  have q6 := Zm (part_LoomLoomMill_1).1 q1
  refine Ze .plain rfl (D_load (g := g1) Try.isAgg25 Try.sizeOf25 rfl q6 fun v7 r7 => ?_)
  refine EL_p (.int .i64 (((x0).orders).length : Int)) (P_len Try.underlying25 rfl r7) rfl ?_
  refine EL_p (.bool ((decide (((x1).length : Int) > (((x0).orders).length : Int))))) (P_int rfl rfl rfl) rfl ?_
  refine Zb (Zd ?_)
  rcases Zt h with ⟨hc8, h⟩ | ⟨hc8, h⟩
  ·refine E_ct hc8 rfl ?_
   refine Zf (Za (Zg (.int .i64 (0)) rfl rfl ?_))
   refine Zg (.int .i64 (5)) rfl rfl ?_
   refine Zb (Zd (E_ret (thn_r ?_)))
   obtain rfl := sinj h
   exact end2 rfl rfl (show _ = .int .i64 (0) from rfl) (show _ = .int .i64 (5) from rfl) ⟨_, hfr, _, _, rfl, rfl, rfl⟩
  ·refine E_cf hc8 rfl ?_
   exact Zu (Zd (hk5 () _ _ ⟨g1, hfr, rfl, rp1, rfl, q1⟩ h))
 ·rintro _ i9 w9 ⟨g9, hfr, l5, q5, n7, o7⟩ h
  refine Zq h (fun (s : Unit) e w => ∃ (g : Gh) , Fr gI wI g w ∧ e 1 = up1 ∧ RV g.m w (x1 : List LoomRun) up1 ∧ e 2 = p1 ∧ PT g.m w (x0 : LoomLoomMill) p1) (fun X23 g7 u7 h => ?_) ?_
  ·refine Zf (Za (Zo l5 rfl ?_))
   refine EL_p (.int .i64 ((x1).length : Int)) (P_len Try.underlying31 rfl q5) rfl ?_
   refine Zn (.int .i64 (0)) rfl rfl ?_
   refine Zb (Zd (Zr ?_))
   refine E_lp h (fun (s : Int) e w => ∃ (g : Gh) , Fr gI wI g w ∧ e 1 = up1 ∧ RV g.m w (x1 : List LoomRun) up1 ∧ e 2 = p1 ∧ PT g.m w (x0 : LoomLoomMill) p1 ∧ e 16 = .int .i64 (((x1).length : Int)) ∧ e 17 = .int .i64 (s)) ⟨g9, hfr, l5, q5, n7, o7, rfl, rfl⟩ (fun X24 i7 c8 => ?_)
   rintro o0 v8 k9 ⟨t5, hfr, j3, z2, o3, d3, u3, i3⟩ h
   refine Zf (Za (EL_in (.bool ((decide (o0 < ((x1).length : Int))))) i3 u3 rfl rfl ?_))
   refine Zb (Zd (Zf ?_))
   rcases Zt h with ⟨z3, h⟩ | ⟨z3, h⟩
   ·refine E_ct z3 rfl ?_
    refine Zu (Zd (Zq h (fun (s : Unit) e w => ∃ (g : Gh) , Fr gI wI g w ∧ e 1 = up1 ∧ RV g.m w (x1 : List LoomRun) up1 ∧ e 2 = p1 ∧ PT g.m w (x0 : LoomLoomMill) p1 ∧ e 16 = .int .i64 (((x1).length : Int)) ∧ e 17 = .int .i64 (o0)) (fun X31 j7 e8 h => ?_) ?_))
    ·refine Zr ?_
     refine Zf (Za (Zo i3 rfl ?_))
     refine Zg (.int .i64 (o0)) rfl rfl ?_
     refine Zb (Zd (Zf (Za (Ze .plain rfl (D_load (g := t5) Try.isAgg96 Try.sizeOf96 o3 d3 fun l8 m8 => ?_)))))
     refine Zo j3 rfl ?_
     refine Zn (.int .i64 (o0)) rfl rfl ?_
     obtain ⟨j1, g8, h⟩ := bsome h
     refine Ze .plain rfl (Zp (g := t5) (vs := [l8, up1, .int .i64 (o0)]) en93 (.cons rfl (.cons rfl (.cons rfl .nil))) (wk93 m8 z2 g8) fun n8 x8 l9 hs hr => ?_)
     have hfr := hfr.ext hs
     have z2 := z2.ext hs
     have d3 := d3.ext hs
     subst hr
     refine Zg (.int .i64 (j1)) rfl rfl ?_
     refine Zb (Zd (Zf (Za (Zn (.int .i64 (j1)) rfl rfl ?_))))
     refine EL_in (.bool ((j1 != (0 : Int)))) rfl rfl rfl rfl ?_
     refine Zb (Zd ?_)
     rcases Zt h with ⟨z4, h⟩ | ⟨z4, h⟩
     ·refine E_ct z4 rfl ?_
      refine Zf (Za (Zn (.int .i64 (o0)) rfl rfl ?_))
      refine Zn (.int .i64 (j1)) rfl rfl ?_
      refine Zg (.int .i64 (o0)) rfl rfl ?_
      refine Zg (.int .i64 (j1)) rfl rfl ?_
      refine Zb (Zd (E_ret (blk_r ?_)))
      refine thn_r ?_
      refine thn_r ?_
      refine blk_r ?_
      refine thn_r ?_
      obtain rfl := sinj h
      exact end2 rfl rfl (show _ = .int .i64 (o0) from rfl) (show _ = .int .i64 (j1) from rfl) ⟨_, hfr, _, _, rfl, rfl, rfl⟩
     ·refine E_cf z4 rfl ?_
      exact Zu (blk_n (Zd (e8 () _ _ ⟨n8, hfr, j3, z2, o3, d3, u3, i3⟩ h)))
    ·rintro _ y8 n9 ⟨o8, hfr, j6, v6, x6, y6, x5, i6⟩ h
     refine Za (EL_in (.int .i64 ((w64 (o0 + (1 : Int))))) i6 rfl rfl rfl ?_)
     refine Zn (.int .i64 ((w64 (o0 + (1 : Int))))) rfl rfl ?_
     exact Zb (Zd (c8 ((w64 (o0 + (1 : Int)))) _ _ ⟨o8, hfr, j6, v6, x6, y6, x5, rfl⟩ h))
   ·refine E_cf z3 rfl ?_
    refine E_exit ?_
    refine thn_e ?_
    refine thn_e ?_
    refine blk_hit ?_
    exact Zd (u7 () _ _ ⟨t5, hfr, j3, z2, o3, d3⟩ h)
  ·rintro _ a9 o9 ⟨m7, hfr, a7, b7, c7, d7⟩ h
   refine Zq h (fun (s : Unit) e w => ∃ (g : Gh) , Fr gI wI g w) (fun X42 e7 i8 h => ?_) ?_
   ·refine Zf (Za (Ze .plain rfl (D_load (g := m7) Try.isAgg96 Try.sizeOf96 c7 d7 fun q8 r8 => ?_)))
    refine Zo a7 rfl ?_
    obtain ⟨u0, k8, h⟩ := bsome h
    refine Ze .plain rfl (Zp (g := m7) (vs := [q8, up1]) en94 (.cons rfl (.cons rfl .nil)) (wk94 r8 b7 k8) fun t8 d9 t9 hs hr => ?_)
    have hfr := hfr.ext hs
    subst hr
    refine Zg (.int .i64 (u0)) rfl rfl ?_
    refine Zb (Zd (Zf (Za (Zn (.int .i64 (u0)) rfl rfl ?_))))
    refine EL_in (.bool ((decide (u0 ≥ (0 : Int))))) rfl rfl rfl rfl ?_
    refine Zb (Zd ?_)
    rcases Zt h with ⟨i5, h⟩ | ⟨i5, h⟩
    ·refine E_ct i5 rfl ?_
     refine Zf (Za (Zn (.int .i64 (u0)) rfl rfl ?_))
     refine Zg (.int .i64 (u0)) rfl rfl ?_
     refine Zg (.int .i64 (6)) rfl rfl ?_
     refine Zb (Zd (E_ret (thn_r ?_)))
     obtain rfl := sinj h
     exact end2 rfl rfl (show _ = .int .i64 (u0) from rfl) (show _ = .int .i64 (6) from rfl) ⟨_, hfr, _, _, rfl, rfl, rfl⟩
    ·refine E_cf i5 rfl ?_
     exact Zu (Zd (i8 () _ _ ⟨t8, hfr⟩ h))
   ·rintro _ e9 u9 ⟨y9, hfr⟩ h
    refine Zf (Za (Zg (.int .i64 (0)) rfl rfl ?_))
    refine Zg (.int .i64 (0)) rfl rfl ?_
    refine Zb (Zd (E_ret ?_))
    obtain rfl := sinj h
    exact end2 rfl rfl (show _ = .int .i64 (0) from rfl) (show _ = .int .i64 (0) from rfl) ⟨_, hfr, _, _, rfl, rfl, rfl⟩
def f79 (x0 : LoomOrder) : Option (Bool) :=
 (f80 x0).bind fun y4 =>
 some ((!y4))
theorem en79 : Enters Try.prog 79 := enters_of Try.func79 (by kernel_rfl) rfl
theorem wk79 {gI : Gh} {wI : World} {x0 : LoomOrder} {up0 : Value} (rp0 : RV gI.m wI x0 up0) {r : Bool} (h : f79 x0 = some r) : Fn Try.prog 79 #[up0] gI wI (fun _ _ v => v = .bool (r)) := by
 unfold f79 at h
 refine fn_of_E Try.func79 rfl (Nat.le_of_ble_eq_true rfl) fun g0 hm hfr => ?_
 have rp0 : RV g0.m wI x0 up0 := hm ▸ rp0
 show E _ 6 none _ _ _ _ _
 refine Zf (Za (Ze .plain rfl (D_box (g := g0) rfl rp0 fun g1 w1 p1 hs q1 => ?_)))
 have hfr := hfr.ext hs
 refine Zg (.bool false) rfl rfl ?_
 refine Zb (Zd (Zf (Za (Ze .plain rfl (D_load (g := g1) Try.isAgg82 Try.sizeOf82 rfl q1 fun v2 r2 => ?_)))))
 obtain ⟨y4, o0, h⟩ := bsome h
 refine Ze .plain rfl (Zp (g := g1) (vs := [v2]) en80 (.cons rfl .nil) (wk80 r2 o0) fun g3 w3_ v3 hs hr => ?_)
 have hfr := hfr.ext hs
 subst hr
 refine EL_p (.bool (!y4)) (P_not rfl) rfl ?_
 refine Zg (.bool (!y4)) rfl rfl ?_
 refine Zb (Zd (E_ret ?_))
 obtain rfl := sinj h
 exact end1 rfl rfl (show _ = .bool (!y4) from rfl) ⟨_, hfr, rfl⟩
def f50 (x0 : LoomMill) (x1 : List LoomOrder) : Option (LoomLoomMill × Int) :=
 jn (σ := LoomLoomMill) (fun i7 =>
  some ((⟨x0, x1⟩ : LoomLoomMill), (0 : Int))
  ) fun x8 =>
 Option.bind (α := Bool) (
  bif (decide ((((x0).Widths).length : Int) > (3 : Int))) then
   some ((decide ((((x0).Widths).length : Int) > (3 : Int))))
  else
   some ((decide (((x1).length : Int) > (7 : Int))))
  ) fun j3 =>
 bif j3 then
  some ((⟨⟨[], 0⟩, []⟩ : LoomLoomMill), (5 : Int))
 else
  Option.bind (α := Bool) (
   bif ((((x0).Widths).length : Int) == (0 : Int)) then
    some (((((x0).Widths).length : Int) == (0 : Int)))
   else
    (f81 ((1 : Int)) ((100 : Int)) ((x0).Widths)).bind fun z4 =>
    bif (!z4) then
     some ((!z4))
    else
     (f81 ((0 : Int)) ((20 : Int)) (([(x0).Change] : List Int))).bind fun i5 =>
     bif (!i5) then
      some ((!i5))
     else
      (f82 x1 ((fun a0 => f79 a0))).bind fun j7 =>
      some (j7)
   ) fun d3 =>
  bif d3 then
   some ((⟨⟨[], 0⟩, []⟩ : LoomLoomMill), (2 : Int))
  else
   x8 ((⟨⟨[], 0⟩, []⟩ : LoomLoomMill))
theorem en50 : Enters Try.prog 50 := enters_of Try.func50 (by kernel_rfl) rfl
theorem wk50 {gI : Gh} {wI : World} {x0 : LoomMill} {x1 : List LoomOrder} {up0 : Value} (rp0 : RV gI.m wI x0 up0) {up1 : Value} (rp1 : RV gI.m wI x1 up1) {r : LoomLoomMill × Int} (h : f50 x0 x1 = some r) : Fn Try.prog 50 #[up0, up1] gI wI (fun m w v => ∃ y0 y1, v = .tuple #[y0, y1] ∧ RV m w (r.1) y0 ∧ y1 = .int .i64 (r.2)) := by
 unfold f50 at h
 refine fn_of_E Try.func50 rfl (Nat.le_of_ble_eq_true rfl) fun g0 hm hfr => ?_
 have rp0 : RV g0.m wI x0 up0 := hm ▸ rp0
 have rp1 : RV g0.m wI x1 up1 := hm ▸ rp1
 show E _ 37 none _ _ _ _ _
 refine Zf (Za (Ze .plain rfl (D_box (g := g0) rfl rp0 fun g1 w1 p1 hs q1 => ?_)))
 have hfr := hfr.ext hs
 have rp1 := rp1.ext hs
 refine Ze .plain rfl (D_allocOc (g := g1) 2004 (⟨⟨[], 0⟩, []⟩ : LoomLoomMill) Try.zeroValue96 (fun m w => ⟨_, (rep_two (rep_two rep_nil rep_int) rep_nil), rfl⟩) fun g2 w2 p2 hs b2 cb => ?_)
 have hfr := hfr.stp hs
 have rp1 := rp1.stp hs
 have q1 := q1.stp hs
 have m7 : OSF 2004 60400 0 g2 w2 3 96 ([] : List Int) p2 := cb.osf (by rfl)
 have n7 : OSF 2004 60402 2 g2 w2 82 96 ([] : List LoomOrder) p2 := cb.osf (by rfl)
 clear cb
 refine Zg (.int .i64 (0)) rfl rfl ?_
 refine Zb (Zd (Zf (Za (Zg (.func (.func 79) #[] #[]) rfl rfl ?_))))
 refine Zb (Zd (Zq h (fun (s : LoomLoomMill) e w => ∃ (g : Gh) , Fr gI wI g w ∧ e 1 = up1 ∧ RV g.m w (x1 : List LoomOrder) up1 ∧ e 2 = p1 ∧ PT g.m w (x0 : LoomMill) p1 ∧ e 4 = p2 ∧ OB 2004 g w 96 (s : LoomLoomMill) p2 ∧ OSF 2004 60400 0 g w 3 96 (((s).LoomMill).Widths) p2 ∧ OSF 2004 60402 2 g w 82 96 ((s).orders) p2) (fun X51 x8 t9 h => ?_) ?_))
 ·refine Zr ?_
  obtain ⟨j3, hx, h⟩ := bsome h
  refine E_join (fun e w => ∃ (g : Gh) , Fr gI wI g w ∧ e 1 = up1 ∧ RV g.m w (x1 : List LoomOrder) up1 ∧ e 2 = p1 ∧ PT g.m w (x0 : LoomMill) p1 ∧ e 4 = p2 ∧ OB 2004 g w 96 ((⟨⟨[], 0⟩, []⟩ : LoomLoomMill) : LoomLoomMill) p2 ∧ OSF 2004 60400 0 g w 3 96 ((((⟨⟨[], 0⟩, []⟩ : LoomLoomMill)).LoomMill).Widths) p2 ∧ OSF 2004 60402 2 g w 82 96 (((⟨⟨[], 0⟩, []⟩ : LoomLoomMill)).orders) p2 ∧ e 6 = .func (.func 79) #[] #[] ∧ e 7 = .bool (j3)) (fun Q' hQ => ?_) (fun iB iA hR => ?_)
  ·replace h := hx
   clear hx
   refine Zf (Za (EL_p (fPtr p1 0) (Zc at_24_0 rfl (PT.ptr q1)) rfl ?_))
   have jA := Zm (part_LoomMill_0).1 q1
   refine Ze .plain rfl (D_load (g := g2) Try.isAgg22 Try.sizeOf22 rfl jA fun vB kA => ?_)
   refine EL_p (.int .i64 (((x0).Widths).length : Int)) (P_len Try.underlying22 rfl kA) rfl ?_
   refine EL_p (.bool ((decide ((((x0).Widths).length : Int) > (3 : Int))))) (P_int rfl rfl rfl) rfl ?_
   refine EL_p (.bool ((decide ((((x0).Widths).length : Int) > (3 : Int))))) (P_assign rfl) rfl ?_
   refine Zb (Zd ?_)
   rcases Zt h with ⟨x5, h⟩ | ⟨x5, h⟩
   ·refine E_ct x5 rfl ?_
    refine Zu ?_
    obtain rfl := sinj h
    exact hQ _ _ ⟨g2, hfr, rfl, rp1, rfl, q1, rfl, b2, m7, n7, rfl, rfl⟩
   ·refine E_cf x5 rfl ?_
    refine Za (Zn up1 rfl rfl ?_)
    refine EL_p (.int .i64 ((x1).length : Int)) (P_len Try.underlying25 rfl rp1) rfl ?_
    refine EL_in (.bool ((decide (((x1).length : Int) > (7 : Int))))) rfl rfl rfl rfl ?_
    refine Zg (.bool ((decide (((x1).length : Int) > (7 : Int))))) rfl rfl ?_
    refine Zb ?_
    obtain rfl := sinj h
    exact hQ _ _ ⟨g2, hfr, rfl, rp1, rfl, q1, rfl, b2, m7, n7, rfl, rfl⟩
  ·clear hx
   obtain ⟨u3, hfr, o3, u0, z2, o0, i3, j1, u4_0_58, u4_2_58, m8, e7⟩ := hR
   rcases Zt h with ⟨i6, h⟩ | ⟨i6, h⟩
   ·refine E_cond_true (Eq.trans (show ev _ _ = .bool (j3) from e7) (congrArg Value.bool i6)) ?_
    refine Zf (Za ?_)
    have y8 : RV u3.m iA (⟨⟨[], 0⟩, []⟩ : LoomLoomMill) (.agg (setCh [[.slice none 0 0, .int .i64 0], [.slice none 0 0]] []).flatten.toArray) := RV_build rfl (rep_pair ((rep_two rep_nil rep_int)) (rep_last (rep_nil)))
    generalize j6 : (Value.agg (setCh [[.slice none 0 0, .int .i64 0], [.slice none 0 0]] []).flatten.toArray) = a9 at y8
    refine EL_p a9 (j6 ▸ P_build (vs := []) [[.slice none 0 0, .int .i64 0], [.slice none 0 0]] lay_96 rfl rfl .nil trivial) rfl ?_
    refine Ze .plain rfl (D_storeOc (g := u3) (v := a9) Try.sizeOf96 i3 j1 rfl y8 fun d9 e9 hs b61 cb => ?_)
    have aB : OSF 2004 60400 0 d9 e9 3 96 ([] : List Int) p2 := cb.osf (by rw [← j6]; rfl)
    have bB : OSF 2004 60402 2 d9 e9 82 96 ([] : List LoomOrder) p2 := cb.osf (by rw [← j6]; rfl)
    clear cb
    have hfr := hfr.stp hs
    refine Zg (.int .i64 (5)) rfl rfl ?_
    refine Zb (Zd (E_ret (blk_r ?_)))
    refine thn_r ?_
    obtain rfl := sinj h
    obtain ⟨ad62, cv62, hp62, u9, cr62⟩ := ob_read Try.isAgg96 Try.sizeOf96 b61
    exact endm_ct rfl rfl ((show _ = p2 from i3).trans hp62) u9 (show _ = .int .i64 (5) from rfl) ⟨_, hfr, _, _, rfl, cr62, rfl⟩
   ·refine E_cond_false (Eq.trans (show ev _ _ = .bool (j3) from e7) (congrArg Value.bool i6)) ?_
    obtain ⟨d3, hx, h⟩ := bsome h
    refine E_join (fun e w => ∃ (g : Gh) , Fr gI wI g w ∧ e 1 = up1 ∧ RV g.m w (x1 : List LoomOrder) up1 ∧ e 2 = p1 ∧ PT g.m w (x0 : LoomMill) p1 ∧ e 4 = p2 ∧ OB 2004 g w 96 ((⟨⟨[], 0⟩, []⟩ : LoomLoomMill) : LoomLoomMill) p2 ∧ OSF 2004 60400 0 g w 3 96 ((((⟨⟨[], 0⟩, []⟩ : LoomLoomMill)).LoomMill).Widths) p2 ∧ OSF 2004 60402 2 g w 82 96 (((⟨⟨[], 0⟩, []⟩ : LoomLoomMill)).orders) p2 ∧ e 16 = .bool (d3)) (fun Q' hQ => ?_) (fun jB lA hR => ?_)
    ·replace h := hx
     clear hx
     refine Zf (Za (EL_p (fPtr p1 0) (Zc at_24_0 z2 (PT.ptr o0)) rfl ?_))
     have mA := Zm (part_LoomMill_0).1 o0
     refine Ze .plain rfl (D_load (g := u3) Try.isAgg22 Try.sizeOf22 rfl mA fun xB nA => ?_)
     refine EL_p (.int .i64 (((x0).Widths).length : Int)) (P_len Try.underlying22 rfl nA) rfl ?_
     refine EL_in (.bool (((((x0).Widths).length : Int) == (0 : Int)))) rfl rfl rfl rfl ?_
     refine Zg (.bool (((((x0).Widths).length : Int) == (0 : Int)))) rfl rfl ?_
     refine Zb (Zd ?_)
     rcases Zt h with ⟨v6, h⟩ | ⟨v6, h⟩
     ·refine E_ct v6 rfl ?_
      refine Zu ?_
      obtain rfl := sinj h
      exact hQ _ _ ⟨u3, hfr, o3, u0, z2, o0, i3, j1, u4_0_58, u4_2_58, rfl⟩
     ·refine E_cf v6 rfl ?_
      refine Zf (Za (EL_p (fPtr p1 0) (Zc at_24_0 z2 (PT.ptr o0)) rfl ?_))
      have oA := Zm (part_LoomMill_0).1 o0
      refine Ze .plain rfl (D_load (g := u3) Try.isAgg22 Try.sizeOf22 rfl oA fun pA qA => ?_)
      obtain ⟨z4, y9, h⟩ := bsome h
      refine Ze .plain rfl (Zp (g := u3) (vs := [.int .i64 (1), .int .i64 (100), pA]) en81 (.cons rfl (.cons rfl (.cons rfl .nil))) (wk81 qA y9) fun o7 kB yB hs hr => ?_)
      have hfr := hfr.ext hs
      have u0 := u0.ext hs
      have o0 := o0.ext hs
      have u4_0_58 := u4_0_58.ext hs
      have u4_2_58 := u4_2_58.ext hs
      have j1 := j1.ext hs
      subst hr
      refine EL_p (.bool (!z4)) (P_not rfl) rfl ?_
      refine Zg (.bool (!z4)) rfl rfl ?_
      refine Zb (Zd ?_)
      rcases Zt h with ⟨x6, h⟩ | ⟨x6, h⟩
      ·refine E_ct x6 rfl ?_
       refine Zu ?_
       obtain rfl := sinj h
       exact hQ _ _ ⟨o7, hfr, o3, u0, z2, o0, i3, j1, u4_0_58, u4_2_58, rfl⟩
      ·refine E_cf x6 rfl ?_
       refine Zf (Za (EL_p (fPtr p1 1) (Zc at_24_1 z2 (PT.ptr o0)) rfl ?_))
       have rA := Zm (part_LoomMill_1).1 o0
       refine Ze .plain rfl (D_load (g := o7) Try.isAgg3 Try.sizeOf3 rfl rA fun zB sA => ?_)
       obtain rfl := Zj.1 sA
       refine Ze .plain rfl (D_buildSlice (g := o7) 3027 (xs := ([(x0).Change] : List Int)) (vs := [.int .i64 ((x0).Change)]) Try.underlying22 Try.sizeOf3 Try.zeroValue3 rfl rfl (.cons rfl .nil) (RVs.cons (Zj.2 rfl) RVs.nil) rfl rfl fun uA aC xA hs o89 yA hxt hfl => ?_)
       have hfr := hfr.stp hs
       have u0 := u0.stp hs
       have o0 := o0.stp hs
       have u4_0_58 := u4_0_58.stp hs rfl
       have u4_2_58 := u4_2_58.stp hs rfl
       have j1 := j1.stp hs rfl
       obtain ⟨i5, z9, h⟩ := bsome h
       refine Ze .plain rfl (Zp (g := uA) (vs := [.int .i64 (0), .int .i64 (20), xA]) en81 (.cons rfl (.cons rfl (.cons rfl .nil))) (wk81 yA z9) fun i9 lB cC hs hr => ?_)
       have hfr := hfr.ext hs
       have u0 := u0.ext hs
       have o0 := o0.ext hs
       have u4_0_58 := u4_0_58.ext hs
       have u4_2_58 := u4_2_58.ext hs
       have j1 := j1.ext hs
       subst hr
       refine EL_p (.bool (!i5)) (P_not rfl) rfl ?_
       refine Zg (.bool (!i5)) rfl rfl ?_
       refine Zb (Zd ?_)
       rcases Zt h with ⟨y6, h⟩ | ⟨y6, h⟩
       ·refine E_ct y6 rfl ?_
        refine Zu ?_
        obtain rfl := sinj h
        exact hQ _ _ ⟨i9, hfr, o3, u0, z2, o0, i3, j1, u4_0_58, u4_2_58, rfl⟩
       ·refine E_cf y6 rfl ?_
        refine Za (Zo o3 rfl ?_)
        refine Zo m8 rfl ?_
        obtain ⟨j7, bA, h⟩ := bsome h
        refine Ze .plain rfl (Zp (g := i9) (vs := [up1, .func (.func 79) #[] #[]]) en82 (.cons rfl (.cons rfl .nil)) (wk82 u0 ⟨79, #[], #[], rfl, en79, fun g' w' hch a0 b0 r hu0 hr => by exact Fn.mono (wk79 hu0  hr) fun _ _ _ h => RV_bool.2 h⟩ bA) fun zA mB dC hs hr => ?_)
        have hfr := hfr.ext hs
        have u0 := u0.ext hs
        have o0 := o0.ext hs
        have u4_0_58 := u4_0_58.ext hs
        have u4_2_58 := u4_2_58.ext hs
        have j1 := j1.ext hs
        subst hr
        refine Zg (.bool (j7)) rfl rfl ?_
        refine Zb ?_
        obtain rfl := sinj h
        exact hQ _ _ ⟨zA, hfr, o3, u0, z2, o0, i3, j1, u4_0_58, u4_2_58, rfl⟩
    ·clear hx
     obtain ⟨u7, hfr, n8, o8, q8, r8, z3, g7, u4_0_95, u4_2_95, l5⟩ := hR
     rcases Zt h with ⟨a7, h⟩ | ⟨a7, h⟩
     ·refine E_cond_true (Eq.trans (show ev _ _ = .bool (d3) from l5) (congrArg Value.bool a7)) ?_
      refine Zf (Za ?_)
      have k9 : RV u7.m lA (⟨⟨[], 0⟩, []⟩ : LoomLoomMill) (.agg (setCh [[.slice none 0 0, .int .i64 0], [.slice none 0 0]] []).flatten.toArray) := RV_build rfl (rep_pair ((rep_two rep_nil rep_int)) (rep_last (rep_nil)))
      generalize b7 : (Value.agg (setCh [[.slice none 0 0, .int .i64 0], [.slice none 0 0]] []).flatten.toArray) = l9 at k9
      refine EL_p l9 (b7 ▸ P_build (vs := []) [[.slice none 0 0, .int .i64 0], [.slice none 0 0]] lay_96 rfl rfl .nil trivial) rfl ?_
      refine Ze .plain rfl (D_storeOc (g := u7) (v := l9) Try.sizeOf96 z3 g7 rfl k9 fun n9 o9 hs b98 cb => ?_)
      have cB : OSF 2004 60400 0 n9 o9 3 96 ([] : List Int) p2 := cb.osf (by rw [← b7]; rfl)
      have dB : OSF 2004 60402 2 n9 o9 82 96 ([] : List LoomOrder) p2 := cb.osf (by rw [← b7]; rfl)
      clear cb
      have hfr := hfr.stp hs
      refine Zg (.int .i64 (2)) rfl rfl ?_
      refine Zb (Zd (E_ret (blk_r ?_)))
      refine thn_r ?_
      obtain rfl := sinj h
      obtain ⟨ad99, cv99, hp99, gA, cr99⟩ := ob_read Try.isAgg96 Try.sizeOf96 b98
      exact endm_ct rfl rfl ((show _ = p2 from z3).trans hp99) gA (show _ = .int .i64 (2) from rfl) ⟨_, hfr, _, _, rfl, cr99, rfl⟩
     ·refine E_cond_false (Eq.trans (show ev _ _ = .bool (d3) from l5) (congrArg Value.bool a7)) ?_
      exact Zu (blk_n (Zd (t9 ((⟨⟨[], 0⟩, []⟩ : LoomLoomMill)) _ _ ⟨u7, hfr, n8, o8, q8, r8, z3, g7, u4_0_95, u4_2_95⟩ h)))
 ·rintro i7 eB nB ⟨c7, hfr, v7, q5, c8, e8, t5, g8, u4_0_100, u4_2_100⟩ h
  refine Zf (Za (Ze .plain rfl (D_load (g := c7) Try.isAgg24 Try.sizeOf24 c8 e8 fun d7 i8 => ?_)))
  refine Zo v7 rfl ?_
  have k8 : RV c7.m _ (⟨x0, x1⟩ : LoomLoomMill) (.agg (setCh [[.slice none 0 0, .int .i64 0], [.slice none 0 0]] [(0, d7), (1, up1)]).flatten.toArray) := RV_build rfl (rep_pair (RV.cells i8) (rep_last (RV.cells q5)))
  generalize t8 : (Value.agg (setCh [[.slice none 0 0, .int .i64 0], [.slice none 0 0]] [(0, d7), (1, up1)]).flatten.toArray) = l8 at k8
  refine EL_p l8 (t8 ▸ P_build (vs := [(0, d7), (1, up1)]) [[.slice none 0 0, .int .i64 0], [.slice none 0 0]] lay_96 rfl rfl (.cons rfl (.cons rfl .nil)) ⟨⟨_, rfl, cells_size i8⟩, ⟨⟨_, rfl, cells_size q5⟩, trivial⟩⟩) rfl ?_
  refine Ze .plain rfl (D_storeOc (g := c7) (v := l8) Try.sizeOf96 t5 g8 rfl k8 fun oB tB hs b103 cb => ?_)
  clear cb
  have hfr := hfr.stp hs
  refine Zg (.int .i64 (0)) rfl rfl ?_
  refine Zb (Zd (E_ret ?_))
  obtain rfl := sinj h
  obtain ⟨ad104, cv104, hp104, v8, cr104⟩ := ob_read Try.isAgg96 Try.sizeOf96 b103
  exact endm_ct rfl rfl ((show _ = p2 from t5).trans hp104) v8 (show _ = .int .i64 (0) from rfl) ⟨_, hfr, _, _, rfl, cr104, rfl⟩
def f65 (x0 : LoomMill) (x1 : List LoomOrder) (x2 : List LoomRun) (x3 : LoomStop) : Option (LoomStill × Int) :=
 (f50 x0 x1).bind fun y6 =>
 Option.bind (α := Int) (
  bif (y6.2 == (0 : Int)) then
   (f78 (y6.1) x2).bind fun z4 =>
   some (z4.2)
  else
   some (y6.2)
  ) fun z2 =>
 jn (σ := LoomStill) (fun l8 =>
  some ((⟨y6.1, x3⟩ : LoomStill), (0 : Int))
  ) fun u9 =>
 bif (z2 != (0 : Int)) then
  some ((⟨⟨⟨[], 0⟩, []⟩, ⟨0, ⟨0, 0⟩⟩⟩ : LoomStill), z2)
 else
  (f81 ((0 : Int)) ((w64 ((((x0).Widths).length : Int) - (1 : Int)))) (([(x3).Loom] : List Int))).bind fun y81 =>
  bif (!y81) then
   some ((⟨⟨⟨[], 0⟩, []⟩, ⟨0, ⟨0, 0⟩⟩⟩ : LoomStill), (7 : Int))
  else
   Option.bind (α := Bool) (
    (f71 (([((x3).Days).Low, ((x3).Days).High] : List Int))).bind fun y110 =>
    bif (!y110) then
     some ((!y110))
    else
     some ((decide (((x3).Days).Low > ((x3).Days).High)))
    ) fun o3 =>
   bif o3 then
    some ((⟨⟨⟨[], 0⟩, []⟩, ⟨0, ⟨0, 0⟩⟩⟩ : LoomStill), (2 : Int))
   else
    u9 ((⟨⟨⟨[], 0⟩, []⟩, ⟨0, ⟨0, 0⟩⟩⟩ : LoomStill))
theorem en65 : Enters Try.prog 65 := enters_of Try.func65 (by kernel_rfl) rfl
theorem wk65 {gI : Gh} {wI : World} {x0 : LoomMill} {x1 : List LoomOrder} {x2 : List LoomRun} {x3 : LoomStop} {up0 : Value} (rp0 : RV gI.m wI x0 up0) {up1 : Value} (rp1 : RV gI.m wI x1 up1) {up2 : Value} (rp2 : RV gI.m wI x2 up2) {up3 : Value} (rp3 : RV gI.m wI x3 up3) {r : LoomStill × Int} (h : f65 x0 x1 x2 x3 = some r) : Fn Try.prog 65 #[up0, up1, up2, up3] gI wI (fun m w v => ∃ y0 y1, v = .tuple #[y0, y1] ∧ RV m w (r.1) y0 ∧ y1 = .int .i64 (r.2)) := by
 unfold f65 at h
 refine fn_of_E Try.func65 rfl (Nat.le_of_ble_eq_true rfl) fun g0 hm hfr => ?_
 have rp0 : RV g0.m wI x0 up0 := hm ▸ rp0
 have rp1 : RV g0.m wI x1 up1 := hm ▸ rp1
 have rp2 : RV g0.m wI x2 up2 := hm ▸ rp2
 have rp3 : RV g0.m wI x3 up3 := hm ▸ rp3
 show E _ 62 none _ _ _ _ _
 refine Zf (Za (Ze .plain rfl (D_box (g := g0) rfl rp0 fun g1 w1 p1 hs q1 => ?_)))
 have hfr := hfr.ext hs
 have rp1 := rp1.ext hs
 have rp2 := rp2.ext hs
 have rp3 := rp3.ext hs
 refine Ze .plain rfl (D_box (g := g1) rfl rp3 fun g2 w2 p2 hs q2 => ?_)
 have hfr := hfr.ext hs
 have rp1 := rp1.ext hs
 have rp2 := rp2.ext hs
 have q1 := q1.ext hs
 refine Ze .plain rfl (D_allocOc (g := g2) 2008 (⟨⟨⟨[], 0⟩, []⟩, ⟨0, ⟨0, 0⟩⟩⟩ : LoomStill) Try.zeroValue113 (fun m w => ⟨_, (rep_two (rep_two (rep_two rep_nil rep_int) rep_nil) (rep_two rep_int (rep_two rep_int rep_int))), rfl⟩) fun g3 w3 p3 hs b3 cb => ?_)
 have hfr := hfr.stp hs
 have rp1 := rp1.stp hs
 have rp2 := rp2.stp hs
 have q1 := q1.stp hs
 have q2 := q2.stp hs
 have i3 : OSF 2008 60800 0 g3 w3 3 113 ([] : List Int) p3 := cb.osf (by rfl)
 have j3 : OSF 2008 60802 2 g3 w3 82 113 ([] : List LoomOrder) p3 := cb.osf (by rfl)
 clear cb
 refine Zg (.int .i64 (0)) rfl rfl ?_
 refine Zb (Zd (Zf (Za (Ze .plain rfl (D_load (g := g3) Try.isAgg24 Try.sizeOf24 rfl q1 fun v4 r4 => ?_)))))
 refine Zn up1 rfl rfl ?_
 obtain ⟨y6, zA, h⟩ := bsome h
 refine Ze .plain rfl (Zp (g := g3) (vs := [v4, up1]) en50 (.cons rfl (.cons rfl .nil)) (wk50 r4 rp1 zA) fun g5 w5_ v5 hs hr => ?_)
 have hfr := hfr.ext hs
 have rp2 := rp2.ext hs
 have q1 := q1.ext hs
 have q2 := q2.ext hs
 have i3 := i3.ext hs
 have j3 := j3.ext hs
 have b3 := b3.ext hs
 obtain ⟨c7, dC, rfl, d7, rfl⟩ := hr
 refine Zn (.tuple #[c7, .int .i64 (y6.2)]) rfl rfl ?_
 refine EL_p c7 (Zi rfl rfl) rfl ?_
 refine EL_p (.int .i64 (y6.2)) (Zi rfl rfl) rfl ?_
 refine Ze .plain rfl (D_allocOc (g := g5) 2010 (⟨⟨[], 0⟩, []⟩ : LoomLoomMill) Try.zeroValue96 (fun m w => ⟨_, (rep_two (rep_two rep_nil rep_int) rep_nil), rfl⟩) fun g7 w7 p7 hs b7 cb => ?_)
 have hfr := hfr.stp hs
 have rp2 := rp2.stp hs
 have q1 := q1.stp hs
 have q2 := q2.stp hs
 have i3 := i3.stp hs rfl
 have j3 := j3.stp hs rfl
 have b3 := b3.stp hs rfl
 have d7 := d7.stp hs
 have eC : OSF 2010 61000 0 g7 w7 3 96 ([] : List Int) p7 := cb.osf (by rfl)
 have iC : OSF 2010 61002 2 g7 w7 82 96 ([] : List LoomOrder) p7 := cb.osf (by rfl)
 clear cb
 refine Ze .plain rfl (D_storeOc (g := g7) (v := c7) Try.sizeOf96 rfl b7 rfl d7 fun g8 w8 hs b8 cb => ?_)
 clear cb
 have hfr := hfr.stp hs
 have rp2 := rp2.stp hs
 have q1 := q1.stp hs
 have q2 := q2.stp hs
 have i3 := i3.stp hs rfl
 have j3 := j3.stp hs rfl
 have b3 := b3.stp hs rfl
 refine Zg (.int .i64 (y6.2)) rfl rfl ?_
 refine Zb (Zd ?_)
 obtain ⟨z2, hx, h⟩ := bsome h
 refine E_join (fun e w => ∃ (g : Gh) , Fr gI wI g w ∧ e 4 = p1 ∧ PT g.m w (x0 : LoomMill) p1 ∧ e 7 = p2 ∧ PT g.m w (x3 : LoomStop) p2 ∧ e 8 = p3 ∧ OB 2008 g w 113 ((⟨⟨⟨[], 0⟩, []⟩, ⟨0, ⟨0, 0⟩⟩⟩ : LoomStill) : LoomStill) p3 ∧ OSF 2008 60800 0 g w 3 113 (((((⟨⟨⟨[], 0⟩, []⟩, ⟨0, ⟨0, 0⟩⟩⟩ : LoomStill)).mill).LoomMill).Widths) p3 ∧ OSF 2008 60802 2 g w 82 113 ((((⟨⟨⟨[], 0⟩, []⟩, ⟨0, ⟨0, 0⟩⟩⟩ : LoomStill)).mill).orders) p3 ∧ e 9 = .int .i64 (z2) ∧ e 10 = p7 ∧ OB 2010 g w 96 (y6.1 : LoomLoomMill) p7) (fun Q' hQ => ?_) (fun jC gD hR => ?_)
 ·replace h := hx
  clear hx
  refine Zf (Za (Zn (.int .i64 (y6.2)) rfl rfl ?_))
  refine EL_in (.bool ((y6.2 == (0 : Int)))) rfl rfl rfl rfl ?_
  refine Zb (Zd ?_)
  rcases Zt h with ⟨e7, h⟩ | ⟨e7, h⟩
  ·refine E_ct e7 rfl ?_
   refine Za (Ze .plain rfl (D_loadO (g := g8) Try.isAgg96 Try.sizeOf96 rfl b8 fun aB bB => ?_))
   refine Zn up2 rfl rfl ?_
   obtain ⟨z4, y9, h⟩ := bsome h
   refine Ze .plain rfl (Zp (g := g8) (vs := [aB, up2]) en78 (.cons rfl (.cons rfl .nil)) (wk78 bB rp2 y9) fun cB kC iD hs hr => ?_)
   have hfr := hfr.ext hs
   have q1 := q1.ext hs
   have q2 := q2.ext hs
   have i3 := i3.ext hs
   have j3 := j3.ext hs
   have b3 := b3.ext hs
   have b8 := b8.ext hs
   obtain ⟨xB, yB, rfl, rfl, rfl⟩ := hr
   refine Zn (.tuple #[.int .i64 (z4.1), .int .i64 (z4.2)]) rfl rfl ?_
   refine EL_p (.int .i64 (z4.1)) (Zi rfl rfl) rfl ?_
   refine EL_p (.int .i64 (z4.2)) (Zi rfl rfl) rfl ?_
   refine Zg (.int .i64 (z4.2)) rfl rfl ?_
   refine Zb ?_
   obtain rfl := sinj h
   exact hQ _ _ ⟨cB, hfr, rfl, q1, rfl, q2, rfl, b3, i3, j3, rfl, rfl, b8⟩
  ·refine E_cf e7 rfl ?_
   refine Zu ?_
   obtain rfl := sinj h
   exact hQ _ _ ⟨g8, hfr, rfl, q1, rfl, q2, rfl, b3, i3, j3, rfl, rfl, b8⟩
 ·clear hx
  obtain ⟨j6, hfr, k9, u7, u3, o0, d3, u0, u8_0_17, u8_2_17, v7, v6, j1⟩ := hR
  refine Zq h (fun (s : LoomStill) e w => ∃ (g : Gh) , Fr gI wI g w ∧ e 7 = p2 ∧ PT g.m w (x3 : LoomStop) p2 ∧ e 8 = p3 ∧ OB 2008 g w 113 (s : LoomStill) p3 ∧ OSF 2008 60800 0 g w 3 113 ((((s).mill).LoomMill).Widths) p3 ∧ OSF 2008 60802 2 g w 82 113 (((s).mill).orders) p3 ∧ e 10 = p7 ∧ OB 2010 g w 96 (y6.1 : LoomLoomMill) p7) (fun X70 u9 z9 h => ?_) ?_
  ·refine Zr ?_
   refine Zf (Za (Zo v7 rfl ?_))
   refine EL_in (.bool ((z2 != (0 : Int)))) rfl rfl rfl rfl ?_
   refine Zg (.bool ((z2 != (0 : Int)))) rfl rfl ?_
   refine Zb (Zd ?_)
   rcases Zt h with ⟨i7, h⟩ | ⟨i7, h⟩
   ·refine E_ct i7 rfl ?_
    refine Zf (Za (Ze .plain rfl (D_loadO (g := j6) Try.isAgg113 Try.sizeOf113 d3 u0 fun dB eB => ?_)))
    refine Zo v7 rfl ?_
    refine Ze .plain rfl (D_storeOc (g := j6) (v := dB) Try.sizeOf113 d3 u0 rfl eB fun jD kD hs b73 cb => ?_)
    clear cb
    have hfr := hfr.stp hs
    refine Zg (.int .i64 (z2)) rfl rfl ?_
    refine Zb (Zd (E_ret (blk_r ?_)))
    refine thn_r ?_
    obtain rfl := sinj h
    obtain ⟨ad74, cv74, hp74, bA, cr74⟩ := ob_read Try.isAgg113 Try.sizeOf113 b73
    exact endm_ct rfl rfl ((show _ = p3 from d3).trans hp74) bA (show _ = .int .i64 (z2) from rfl) ⟨_, hfr, _, _, rfl, cr74, rfl⟩
   ·refine E_cf i7 rfl ?_
    refine Zf (Za (EL_p (fPtr p1 0) (Zc at_24_0 k9 (PT.ptr u7)) rfl ?_))
    have iB := Zm (part_LoomMill_0).1 u7
    refine Ze .plain rfl (D_load (g := j6) Try.isAgg22 Try.sizeOf22 rfl iB fun lD jB => ?_)
    refine EL_p (.int .i64 (((x0).Widths).length : Int)) (P_len Try.underlying22 rfl jB) rfl ?_
    refine EL_p (.int .i64 ((w64 ((((x0).Widths).length : Int) - (1 : Int))))) (P_int rfl rfl rfl) rfl ?_
    refine EL_p (fPtr p2 0) (Zc at_54_0 u3 (PT.ptr o0)) rfl ?_
    have kB := Zm (part_LoomStop_0).1 o0
    refine Ze .plain rfl (D_load (g := j6) Try.isAgg3 Try.sizeOf3 rfl kB fun mD lB => ?_)
    obtain rfl := Zj.1 lB
    refine Ze .plain rfl (D_buildSlice (g := j6) 3037 (xs := ([(x3).Loom] : List Int)) (vs := [.int .i64 ((x3).Loom)]) Try.underlying22 Try.sizeOf3 Try.zeroValue3 rfl rfl (.cons rfl .nil) (RVs.cons (Zj.2 rfl) RVs.nil) rfl rfl fun mB nD nB hs o79 oB hxt hfl => ?_)
    have hfr := hfr.stp hs
    have o0 := o0.stp hs
    have u8_0_17 := u8_0_17.stp hs rfl
    have u8_2_17 := u8_2_17.stp hs rfl
    have u0 := u0.stp hs rfl
    have j1 := j1.stp hs rfl
    obtain ⟨y81, gA, h⟩ := bsome h
    refine Ze .plain rfl (Zp (g := mB) (vs := [.int .i64 (0), .int .i64 ((w64 ((((x0).Widths).length : Int) - (1 : Int)))), nB]) en81 (.cons rfl (.cons rfl (.cons rfl .nil))) (wk81 oB gA) fun x6 lC oD hs hr => ?_)
    have hfr := hfr.ext hs
    have o0 := o0.ext hs
    have u8_0_17 := u8_0_17.ext hs
    have u8_2_17 := u8_2_17.ext hs
    have u0 := u0.ext hs
    have j1 := j1.ext hs
    subst hr
    refine EL_p (.bool (!y81)) (P_not rfl) rfl ?_
    refine Zg (.bool (!y81)) rfl rfl ?_
    refine Zb (Zd ?_)
    rcases Zt h with ⟨j7, h⟩ | ⟨j7, h⟩
    ·refine E_ct j7 rfl ?_
     refine Zf (Za (Ze .plain rfl (D_loadO (g := x6) Try.isAgg113 Try.sizeOf113 d3 u0 fun tB vB => ?_)))
     refine Ze .plain rfl (D_storeOc (g := x6) (v := tB) Try.sizeOf113 d3 u0 rfl vB fun sD tD hs b84 cb => ?_)
     clear cb
     have hfr := hfr.stp hs
     refine Zg (.int .i64 (7)) rfl rfl ?_
     refine Zb (Zd (E_ret (blk_r ?_)))
     refine thn_r ?_
     obtain rfl := sinj h
     obtain ⟨ad85, cv85, hp85, iA, cr85⟩ := ob_read Try.isAgg113 Try.sizeOf113 b84
     exact endm_ct rfl rfl ((show _ = p3 from d3).trans hp85) iA (show _ = .int .i64 (7) from rfl) ⟨_, hfr, _, _, rfl, cr85, rfl⟩
    ·refine E_cf j7 rfl ?_
     obtain ⟨o3, hx, h⟩ := bsome h
     refine E_join (fun e w => ∃ (g : Gh) , Fr gI wI g w ∧ e 7 = p2 ∧ PT g.m w (x3 : LoomStop) p2 ∧ e 8 = p3 ∧ OB 2008 g w 113 ((⟨⟨⟨[], 0⟩, []⟩, ⟨0, ⟨0, 0⟩⟩⟩ : LoomStill) : LoomStill) p3 ∧ OSF 2008 60800 0 g w 3 113 (((((⟨⟨⟨[], 0⟩, []⟩, ⟨0, ⟨0, 0⟩⟩⟩ : LoomStill)).mill).LoomMill).Widths) p3 ∧ OSF 2008 60802 2 g w 82 113 ((((⟨⟨⟨[], 0⟩, []⟩, ⟨0, ⟨0, 0⟩⟩⟩ : LoomStill)).mill).orders) p3 ∧ e 10 = p7 ∧ OB 2010 g w 96 (y6.1 : LoomLoomMill) p7 ∧ e 41 = .bool (o3)) (fun Q' hQ => ?_) (fun zB mC hR => ?_)
     ·replace h := hx
      clear hx
      refine Zf (Za (EL_p (fPtr p2 1) (Zc at_54_1 u3 (PT.ptr o0)) rfl ?_))
      have m8 := Zm (part_LoomStop_1).1 o0
      refine EL_p (fPtr (fPtr p2 1) 0) (Zc at_48_0 rfl (PT.ptr m8)) rfl ?_
      have jA := Zm (part_Span_0).1 m8
      refine Ze .plain rfl (D_load (g := x6) Try.isAgg3 Try.sizeOf3 rfl jA fun qC kA => ?_)
      obtain rfl := Zj.1 kA
      refine EL_p (fPtr p2 1) (Zc at_54_1 u3 (PT.ptr o0)) rfl ?_
      have n8 := Zm (part_LoomStop_1).1 o0
      refine EL_p (fPtr (fPtr p2 1) 1) (Zc at_48_1 rfl (PT.ptr n8)) rfl ?_
      have lA := Zm (part_Span_1).1 n8
      refine Ze .plain rfl (D_load (g := x6) Try.isAgg3 Try.sizeOf3 rfl lA fun rC mA => ?_)
      obtain rfl := Zj.1 mA
      refine Ze .plain rfl (D_buildSlice (g := x6) 3048 (xs := ([((x3).Days).Low, ((x3).Days).High] : List Int)) (vs := [.int .i64 (((x3).Days).Low), .int .i64 (((x3).Days).High)]) Try.underlying22 Try.sizeOf3 Try.zeroValue3 rfl rfl (.cons rfl (.cons rfl .nil)) (RVs.cons (Zj.2 rfl) (RVs.cons (Zj.2 rfl) RVs.nil)) rfl rfl fun nA tC oA hs o108 pA hxt hfl => ?_)
      have hfr := hfr.stp hs
      have o0 := o0.stp hs
      have u8_0_17 := u8_0_17.stp hs rfl
      have u8_2_17 := u8_2_17.stp hs rfl
      have u0 := u0.stp hs rfl
      have j1 := j1.stp hs rfl
      obtain ⟨y110, l9, h⟩ := bsome h
      refine Ze .plain rfl (Zp (g := nA) (vs := [oA]) en71 (.cons rfl .nil) (wk71 pA l9) fun q5 aC uC hs hr => ?_)
      have hfr := hfr.ext hs
      have o0 := o0.ext hs
      have u8_0_17 := u8_0_17.ext hs
      have u8_2_17 := u8_2_17.ext hs
      have u0 := u0.ext hs
      have j1 := j1.ext hs
      subst hr
      refine EL_p (.bool (!y110)) (P_not rfl) rfl ?_
      refine Zg (.bool (!y110)) rfl rfl ?_
      refine Zb (Zd ?_)
      rcases Zt h with ⟨t5, h⟩ | ⟨t5, h⟩
      ·refine E_ct t5 rfl ?_
       refine Zu ?_
       obtain rfl := sinj h
       exact hQ _ _ ⟨q5, hfr, u3, o0, d3, u0, u8_0_17, u8_2_17, v6, j1, rfl⟩
      ·refine E_cf t5 rfl ?_
       refine Za (EL_p (fPtr p2 1) (Zc at_54_1 u3 (PT.ptr o0)) rfl ?_)
       have o8 := Zm (part_LoomStop_1).1 o0
       refine EL_p (fPtr (fPtr p2 1) 0) (Zc at_48_0 rfl (PT.ptr o8)) rfl ?_
       have qA := Zm (part_Span_0).1 o8
       refine Ze .plain rfl (D_load (g := q5) Try.isAgg3 Try.sizeOf3 rfl qA fun vC rA => ?_)
       obtain rfl := Zj.1 rA
       refine EL_p (fPtr p2 1) (Zc at_54_1 u3 (PT.ptr o0)) rfl ?_
       have q8 := Zm (part_LoomStop_1).1 o0
       refine EL_p (fPtr (fPtr p2 1) 1) (Zc at_48_1 rfl (PT.ptr q8)) rfl ?_
       have sA := Zm (part_Span_1).1 q8
       refine Ze .plain rfl (D_load (g := q5) Try.isAgg3 Try.sizeOf3 rfl sA fun xC uA => ?_)
       obtain rfl := Zj.1 uA
       refine EL_in (.bool ((decide (((x3).Days).Low > ((x3).Days).High)))) rfl rfl rfl rfl ?_
       refine Zg (.bool ((decide (((x3).Days).Low > ((x3).Days).High)))) rfl rfl ?_
       refine Zb ?_
       obtain rfl := sinj h
       exact hQ _ _ ⟨q5, hfr, u3, o0, d3, u0, u8_0_17, u8_2_17, v6, j1, rfl⟩
     ·clear hx
      obtain ⟨m7, hfr, r8, t8, z3, i5, u8_0_118, u8_2_118, c8, e8, l5⟩ := hR
      rcases Zt h with ⟨x5, h⟩ | ⟨x5, h⟩
      ·refine E_cond_true (Eq.trans (show ev _ _ = .bool (o3) from l5) (congrArg Value.bool x5)) ?_
       refine Zf (Za (Ze .plain rfl (D_loadO (g := m7) Try.isAgg113 Try.sizeOf113 z3 i5 fun xA yA => ?_)))
       refine Ze .plain rfl (D_storeOc (g := m7) (v := xA) Try.sizeOf113 z3 i5 rfl yA fun yC aD hs b121 cb => ?_)
       clear cb
       have hfr := hfr.stp hs
       refine Zg (.int .i64 (2)) rfl rfl ?_
       refine Zb (Zd (E_ret (blk_r ?_)))
       refine thn_r ?_
       obtain rfl := sinj h
       obtain ⟨ad122, cv122, hp122, n9, cr122⟩ := ob_read Try.isAgg113 Try.sizeOf113 b121
       exact endm_ct rfl rfl ((show _ = p3 from z3).trans hp122) n9 (show _ = .int .i64 (2) from rfl) ⟨_, hfr, _, _, rfl, cr122, rfl⟩
      ·refine E_cond_false (Eq.trans (show ev _ _ = .bool (o3) from l5) (congrArg Value.bool x5)) ?_
       exact Zu (blk_n (Zd (z9 ((⟨⟨⟨[], 0⟩, []⟩, ⟨0, ⟨0, 0⟩⟩⟩ : LoomStill)) _ _ ⟨m7, hfr, r8, t8, z3, i5, u8_0_118, u8_2_118, c8, e8⟩ h)))
  ·rintro l8 cC bD ⟨i6, hfr, v8, x8, a7, y8, u8_0_123, u8_2_123, i8, k8⟩ h
   refine Zf (Za (Ze .plain rfl (D_loadO (g := i6) Try.isAgg96 Try.sizeOf96 i8 k8 fun n7 a9 => ?_)))
   refine Ze .plain rfl (D_load (g := i6) Try.isAgg54 Try.sizeOf54 v8 x8 fun o7 d9 => ?_)
   have e9 : RV i6.m _ (⟨y6.1, x3⟩ : LoomStill) (.agg (setCh [[.slice none 0 0, .int .i64 0, .slice none 0 0], [.int .i64 0, .int .i64 0, .int .i64 0]] [(0, n7), (1, o7)]).flatten.toArray) := RV_build rfl (rep_pair (RV.cells a9) (rep_last (RV.cells d9)))
   generalize o9 : (Value.agg (setCh [[.slice none 0 0, .int .i64 0, .slice none 0 0], [.int .i64 0, .int .i64 0, .int .i64 0]] [(0, n7), (1, o7)]).flatten.toArray) = i9 at e9
   refine EL_p i9 (o9 ▸ P_build (vs := [(0, n7), (1, o7)]) [[.slice none 0 0, .int .i64 0, .slice none 0 0], [.int .i64 0, .int .i64 0, .int .i64 0]] lay_113 rfl rfl (.cons rfl (.cons rfl .nil)) ⟨⟨_, rfl, cells_size a9⟩, ⟨⟨_, rfl, cells_size d9⟩, trivial⟩⟩) rfl ?_
   refine Ze .plain rfl (D_storeOc (g := i6) (v := i9) Try.sizeOf113 a7 y8 rfl e9 fun cD eD hs b127 cb => ?_)
   clear cb
   have hfr := hfr.stp hs
   refine Zg (.int .i64 (0)) rfl rfl ?_
   refine Zb (Zd (E_ret ?_))
   obtain rfl := sinj h
   obtain ⟨ad128, cv128, hp128, t9, cr128⟩ := ob_read Try.isAgg113 Try.sizeOf113 b127
   exact endm_ct rfl rfl ((show _ = p3 from a7).trans hp128) t9 (show _ = .int .i64 (0) from rfl) ⟨_, hfr, _, _, rfl, cr128, rfl⟩
def f17 (x0 : LoomMill) (x1 : List LoomOrder) : Option ((List LoomRun) × Int) :=
 (f50 x0 x1).bind fun y4 =>
 jn (σ := (List LoomRun)) (fun c7 =>
  jn (σ := (List LoomRun)) (fun r8 =>
   jn (σ := (List LoomRun)) (fun g7 =>
    some (g7, (0 : Int))
    ) fun a9 =>
   lp (σ := (List LoomRun) × (List (Int × LoomRun)) × Int) (fun d9 (d3, i7, o0) =>
    bif (decide (o0 < ((x1).length : Int))) then
     jn (σ := (List LoomRun) × (List (Int × LoomRun))) (fun (i6, j6) =>
      d9 (i6, j6, (w64 (o0 + (1 : Int))))
      ) fun e9 =>
     jn (σ := (List LoomRun) × (List (Int × LoomRun))) (fun (j7, i3) =>
      (apnd 24 j7 (([((mget i3 o0).getD (⟨0, 0, 0⟩ : LoomRun))] : List LoomRun))).bind fun y137 =>
      e9 (y137, i3)
      ) fun i9 =>
     (f54 (y4.1) o0 i7).bind fun v6 =>
     bif (!v6.1) then
      some ([], (9 : Int))
     else
      i9 (d3, v6.2)
    else
     a9 (d3)
    ) big (r8, ([] : List (Int × LoomRun)), (0 : Int))
   ) fun tB =>
  (f52 (y4.1)).bind fun a7 =>
  (f51 (y4.1) a7 (([] : List (Int × LoomRun)))).bind fun t5 =>
  (f53 (y4.1)).bind fun m7 =>
  (idx t5 m7).bind fun n7 =>
  bif (!n7) then
   some ([], (9 : Int))
  else
   tB (c7)
  ) fun k8 =>
 bif (y4.2 != (0 : Int)) then
  some ([], y4.2)
 else
  k8 ([])
theorem en17 : Enters Try.prog 17 := enters_of Try.func17 (by kernel_rfl) rfl
theorem wk17 {gI : Gh} {wI : World} {x0 : LoomMill} {x1 : List LoomOrder} {up0 : Value} (rp0 : RV gI.m wI x0 up0) {up1 : Value} (rp1 : RV gI.m wI x1 up1) {r : (List LoomRun) × Int} (h : f17 x0 x1 = some r) : Fn Try.prog 17 #[up0, up1] gI wI (fun m w v => ∃ y0 y1, v = .tuple #[y0, y1] ∧ RV m w (r.1) y0 ∧ y1 = .int .i64 (r.2)) := by
 unfold f17 at h
 refine fn_of_E Try.func17 rfl (Nat.le_of_ble_eq_true rfl) fun g0 hm hfr => ?_
 have rp0 : RV g0.m wI x0 up0 := hm ▸ rp0
 have rp1 : RV g0.m wI x1 up1 := hm ▸ rp1
 show E _ 47 none _ _ _ _ _
 refine Zf (Za (Ze .plain rfl (D_box (g := g0) rfl rp0 fun g1 w1 p1 hs q1 => ?_)))
 have hfr := hfr.ext hs
 have rp1 := rp1.ext hs
 refine Zg (.slice none 0 0) rfl rfl ?_
 refine Zg (.int .i64 (0)) rfl rfl ?_
 refine Zb (Zd (Zf (Za (Ze .plain rfl (D_load (g := g1) Try.isAgg24 Try.sizeOf24 rfl q1 fun v2 r2 => ?_)))))
 refine Zn up1 rfl rfl ?_
 obtain ⟨y4, aD, h⟩ := bsome h
 refine Ze .plain rfl (Zp (g := g1) (vs := [v2, up1]) en50 (.cons rfl (.cons rfl .nil)) (wk50 r2 rp1 aD) fun g3 w3_ v3 hs hr => ?_)
 have hfr := hfr.ext hs
 have rp1 := rp1.ext hs
 obtain ⟨l8, xD, rfl, m8, rfl⟩ := hr
 refine Zn (.tuple #[l8, .int .i64 (y4.2)]) rfl rfl ?_
 refine EL_p l8 (Zi rfl rfl) rfl ?_
 refine EL_p (.int .i64 (y4.2)) (Zi rfl rfl) rfl ?_
 refine Ze .plain rfl (D_allocOc (g := g3) 2006 (⟨⟨[], 0⟩, []⟩ : LoomLoomMill) Try.zeroValue96 (fun m w => ⟨_, (rep_two (rep_two rep_nil rep_int) rep_nil), rfl⟩) fun g5 w5 p5 hs b5 cb => ?_)
 have hfr := hfr.stp hs
 have rp1 := rp1.stp hs
 have m8 := m8.stp hs
 have yD : OSF 2006 60600 0 g5 w5 3 96 ([] : List Int) p5 := cb.osf (by rfl)
 have zD : OSF 2006 60602 2 g5 w5 82 96 ([] : List LoomOrder) p5 := cb.osf (by rfl)
 clear cb
 refine Ze .plain rfl (D_storeOc (g := g5) (v := l8) Try.sizeOf96 rfl b5 rfl m8 fun g6 w6 hs b6 cb => ?_)
 clear cb
 have hfr := hfr.stp hs
 have rp1 := rp1.stp hs
 refine Zg (.int .i64 (y4.2)) rfl rfl ?_
 refine Zb (Zd (Zq h (fun (s : (List LoomRun)) e w => ∃ (g : Gh) (v4 : Value), Fr gI wI g w ∧ e 1 = up1 ∧ RV g.m w (x1 : List LoomOrder) up1 ∧ e 4 = v4 ∧ RV g.m w (s : List LoomRun) v4 ∧ OS 1004 g w 76 (s : List LoomRun) v4 ∧ e 6 = p5 ∧ OB 2006 g w 96 (y4.1 : LoomLoomMill) p5) (fun X8 k8 bD h => ?_) ?_))
 ·refine Zf (Za (Zn (.int .i64 (y4.2)) rfl rfl ?_))
  refine EL_in (.bool ((y4.2 != (0 : Int)))) rfl rfl rfl rfl ?_
  refine Zb (Zd ?_)
  rcases Zt h with ⟨k9, h⟩ | ⟨k9, h⟩
  ·refine E_ct k9 rfl ?_
   refine Zf (Za (Zn (.int .i64 (y4.2)) rfl rfl ?_))
   refine Zg (.slice none 0 0) rfl rfl ?_
   refine Zg (.int .i64 (y4.2)) rfl rfl ?_
   refine Zb (Zd (E_ret (thn_r ?_)))
   obtain rfl := sinj h
   exact end2 rfl rfl (show _ = .slice none 0 0 from rfl) (show _ = .int .i64 (y4.2) from rfl) ⟨_, hfr, _, _, rfl, RV_nil, rfl⟩
  ·refine E_cf k9 rfl ?_
   exact Zu (Zd (bD ([]) _ _ ⟨g6, (.slice none 0 0), hfr, rfl, rp1, rfl, RV_nil, OS.nil, rfl, b6⟩ h))
 ·rintro c7 aE nE ⟨cD, qA, hfr, rA, o3, sA, u3, z3, x5, u0⟩ h
  refine Zf (Za (Ze .plain rfl (D_makeMap (g := cD) (Value.int .i64) LoomRun 8018 fun eD oE z2 hs m11 => ?_)))
  have hfr := hfr.stp hs
  have o3 := o3.stp hs
  have u3 := u3.stp hs
  have z3 := z3.stp hs rfl
  have u0 := u0.stp hs rfl
  refine Zg z2 rfl rfl ?_
  refine Zb (Zd (Zq h (fun (s : (List LoomRun)) e w => ∃ (g : Gh) (v4 : Value), Fr gI wI g w ∧ e 1 = up1 ∧ RV g.m w (x1 : List LoomOrder) up1 ∧ e 4 = v4 ∧ RV g.m w (s : List LoomRun) v4 ∧ OS 1004 g w 76 (s : List LoomRun) v4 ∧ e 6 = p5 ∧ OB 2006 g w 96 (y4.1 : LoomLoomMill) p5 ∧ e 7 = z2 ∧ MP (Value.int .i64) 8018 g w (([] : List (Int × LoomRun)) : List (Int × LoomRun)) z2) (fun X41 tB zB h => ?_) ?_))
  ·refine Zf (L_loadO0 (x := .tmp 6) Try.isAgg96 Try.sizeOf96 u0 fun vB gD aC => ?_)
   refine L_loadO0 (x := .tmp 6) Try.isAgg96 Try.sizeOf96 u0 fun xB iD cC => ?_
   obtain ⟨a7, dC, h⟩ := bsome h
   obtain ⟨t5, eC, h⟩ := bsome h
   refine L_loadO0 (x := .tmp 6) Try.isAgg96 Try.sizeOf96 u0 fun yB jD iC => ?_
   obtain ⟨m7, jC, h⟩ := bsome h
   obtain ⟨n7, n8, h⟩ := bsome h
   refine E_drawL (g := eD) (n := 10) [(2, (fun v g w => RV g.m w a7 v)), (4, (fun v g w => RV g.m w t5 v)), (6, (fun v g w => v = .int .i64 (m7))), (8, (fun v _ _ => v = .bool (n7)))] [0, 1, 2, 3, 4, 5, 6, 7, 8, 9] rfl mixed (by kernel_rfl) (⟨fun _ => up_rv, fun _ => up_rv, fun _ => up_eq _, fun _ => up_eq _, trivial⟩) ?_
   refine L_ld (c := vB) rfl rfl .plain (fun _ _ h => ⟨h.ch, fun b hb _ => h.below.block b hb⟩) aC x5 ?_
   refine L_ld (c := xB) rfl rfl .plain (fun _ _ h => ⟨h.ch, fun b hb _ => h.below.block b hb⟩) cC x5 ?_
   refine L_do (φ := fun v g w => RV g.m w a7 v) rfl rfl .plain (fun g w hd => Zp (g := g) (vs := [xB]) en52 (.cons rfl .nil) (wk52 (iD.ext hd.1) dC) fun g' w' v hs hr => ⟨g', hs, hr⟩) (fun l9 hv => ?_)
   obtain ⟨_, _, _, rq44⟩ := hv
   refine L_p z2 rfl rfl (Zk rfl) ?_
   refine L_do (φ := fun v g w => RV g.m w t5 v) rfl rfl .plain (fun g w hd => Zp (g := g) (vs := [vB, l9, z2]) en51 (.cons rfl (.cons rfl (.cons rfl .nil))) (wk51 (gD.ext hd.1) (word (A := fun g w => RV g.m w a7 l9) 2 rfl rfl (deps_of hd)) (m11.ext hd.1).r eC) fun g' w' v hs hr => ⟨g', hs, hr⟩) (fun o7 hv => ?_)
   obtain ⟨_, _, _, rq46⟩ := hv
   refine L_ld (c := yB) rfl rfl .plain (fun _ _ h => ⟨h.ch, fun b hb _ => h.below.block b hb⟩) iC x5 ?_
   refine L_do (φ := fun v g w => v = .int .i64 (m7)) rfl rfl .plain (fun g w hd => Zp (g := g) (vs := [yB]) en53 (.cons rfl .nil) (wk53 (jD.ext hd.1) jC) fun g' w' v hs hr => ⟨g', hs, hr⟩) (fun rE hv => ?_)
   obtain ⟨_, _, _, rfl⟩ := hv
   refine L_pur (c := ePtr o7 m7 1) rfl rfl .plain (fun _ _ hd => Zh (α := Bool) Try.underlying101 Try.sizeOf4 rfl (word (A := fun g w => RV g.m w t5 o7) 4 rfl rfl (deps_of hd)) rfl n8) ?_
   refine L_do (φ := (fun v _ _ => v = .bool (n7))) rfl rfl .plain (fun g w hd => D_load (g := g) Try.isAgg4 Try.sizeOf4 rfl (PT_idx (word (A := fun g w => RV g.m w t5 o7) 4 rfl rfl (hop 7 rfl rfl (deps_of hd))) n8) fun v r => ⟨g, Ext.refl g w, RV_bool.1 r⟩) (fun sE hv => ?_)
   obtain ⟨_, _, _, rfl⟩ := hv
   refine L_p (.bool (!n7)) rfl rfl (P_not rfl) ?_
   refine L_nil fun kD tE hall => ?_
   have hs := hall.1
   have hfr := hfr.ext hs
   have o3 := o3.ext hs
   have u3 := u3.ext hs
   have z3 := z3.ext hs
   have u0 := u0.ext hs
   have m11 := m11.ext hs
   have uE := (word_all (A := fun g w => RV g.m w a7 l9) 2 rfl hall)
   have vE := (word_all (A := fun g w => RV g.m w t5 o7) 4 rfl hall)
   have xE := (PT_idx (word_all (A := fun g w => RV g.m w t5 o7) 4 rfl hall) n8)
   clear hs hall
   refine Zb (Zd ?_)
   rcases Zt h with ⟨o8, h⟩ | ⟨o8, h⟩
   ·refine E_ct o8 rfl ?_
    refine Zf (Za (Zg (.slice none 0 0) rfl rfl ?_))
    refine Zg (.int .i64 (9)) rfl rfl ?_
    refine Zb (Zd (E_ret (thn_r ?_)))
    obtain rfl := sinj h
    exact end2 rfl rfl (show _ = .slice none 0 0 from rfl) (show _ = .int .i64 (9) from rfl) ⟨_, hfr, _, _, rfl, RV_nil, rfl⟩
   ·refine E_cf o8 rfl ?_
    exact Zu (Zd (zB (c7) _ _ ⟨kD, (qA), hfr, rA, o3, sA, u3, z3, x5, u0, rfl, m11⟩ h))
  ·rintro r8 bE yE ⟨lD, uA, hfr, xA, yA, zA, aB, bB, cB, dB, eB, iB⟩ h
   refine Zq h (fun (s : (List LoomRun)) e w => ∃ (g : Gh) (v4 : Value), Fr gI wI g w ∧ e 4 = v4 ∧ RV g.m w (s : List LoomRun) v4 ∧ OS 1004 g w 76 (s : List LoomRun) v4) (fun X105 a9 jB h => ?_) ?_
   ·refine Zf (Za (Zo xA rfl ?_))
    refine EL_p (.int .i64 ((x1).length : Int)) (P_len Try.underlying25 rfl yA) rfl ?_
    refine Zn (.int .i64 (0)) rfl rfl ?_
    refine Zb (Zd (Zr ?_))
    refine E_lp h (fun (s : (List LoomRun) × (List (Int × LoomRun)) × Int) e w => ∃ (g : Gh) (v4 : Value), Fr gI wI g w ∧ e 4 = v4 ∧ RV g.m w (s.1 : List LoomRun) v4 ∧ OS 1004 g w 76 (s.1 : List LoomRun) v4 ∧ e 6 = p5 ∧ OB 2006 g w 96 (y4.1 : LoomLoomMill) p5 ∧ e 7 = z2 ∧ MP (Value.int .i64) 8018 g w (s.2.1 : List (Int × LoomRun)) z2 ∧ e 30 = .int .i64 (((x1).length : Int)) ∧ e 31 = .int .i64 (s.2.2)) ⟨lD, (uA), hfr, zA, aB, bB, cB, dB, eB, iB, rfl, rfl⟩ (fun X106 d9 kB => ?_)
    rintro ⟨d3, i7, o0⟩ oD cE ⟨q8, u7, hfr, v7, z4, i5, c8, l5, e8, n9, b7, q5⟩ h
    refine Zf (Za (EL_in (.bool ((decide (o0 < ((x1).length : Int))))) q5 b7 rfl rfl ?_))
    refine Zb (Zd (Zf ?_))
    rcases Zt h with ⟨d7, h⟩ | ⟨d7, h⟩
    ·refine E_ct d7 rfl ?_
     refine Zu (Zd (Zq h (fun (s : (List LoomRun) × (List (Int × LoomRun))) e w => ∃ (g : Gh) (v4 : Value), Fr gI wI g w ∧ e 4 = v4 ∧ RV g.m w (s.1 : List LoomRun) v4 ∧ OS 1004 g w 76 (s.1 : List LoomRun) v4 ∧ e 6 = p5 ∧ OB 2006 g w 96 (y4.1 : LoomLoomMill) p5 ∧ e 7 = z2 ∧ MP (Value.int .i64) 8018 g w (s.2 : List (Int × LoomRun)) z2 ∧ e 30 = .int .i64 (((x1).length : Int)) ∧ e 31 = .int .i64 (o0)) (fun X123 e9 lB h => ?_) ?_))
     ·refine Zr ?_
      refine Zf (Za (Zo q5 rfl ?_))
      refine Zg (.int .i64 (o0)) rfl rfl ?_
      refine Zb (Zd (Zq h (fun (s : (List LoomRun) × (List (Int × LoomRun))) e w => ∃ (g : Gh) (v4 : Value), Fr gI wI g w ∧ e 4 = v4 ∧ RV g.m w (s.1 : List LoomRun) v4 ∧ OS 1004 g w 76 (s.1 : List LoomRun) v4 ∧ e 6 = p5 ∧ OB 2006 g w 96 (y4.1 : LoomLoomMill) p5 ∧ e 7 = z2 ∧ MP (Value.int .i64) 8018 g w (s.2 : List (Int × LoomRun)) z2 ∧ e 8 = .int .i64 (o0) ∧ e 30 = .int .i64 (((x1).length : Int)) ∧ e 31 = .int .i64 (o0)) (fun X128 i9 mB h => ?_) ?_))
      ·refine Zf (Za (Ze .plain rfl (D_loadO (g := q8) Try.isAgg96 Try.sizeOf96 c8 l5 fun kC lC => ?_)))
       refine Zn (.int .i64 (o0)) rfl rfl ?_
       refine Zo e8 rfl ?_
       obtain ⟨v6, nB, h⟩ := bsome h
       refine Ze .plain rfl (D_callM (g := q8) (i := 8018) (vs := [kC, .int .i64 (o0), z2]) en54 (.cons rfl (.cons rfl (.cons rfl .nil))) (wk54 lC n9 nB) fun mC sD dE hs hr => ?_)
       obtain ⟨hrv, b130⟩ := hr
       have hfr := hfr.stp hs
       have z4 := z4.stp hs
       have i5 := i5.stp hs rfl
       have l5 := l5.stp hs rfl
       subst hrv
       refine EL_p (.bool (!v6.1)) (P_not rfl) rfl ?_
       refine Zb (Zd ?_)
       rcases Zt h with ⟨e7, h⟩ | ⟨e7, h⟩
       ·refine E_ct e7 rfl ?_
        refine Zf (Za (Zg (.slice none 0 0) rfl rfl ?_))
        refine Zg (.int .i64 (9)) rfl rfl ?_
        refine Zb (Zd (E_ret (thn_r ?_)))
        refine blk_r ?_
        refine thn_r ?_
        refine thn_r ?_
        refine blk_r ?_
        refine thn_r ?_
        obtain rfl := sinj h
        exact end2 rfl rfl (show _ = .slice none 0 0 from rfl) (show _ = .int .i64 (9) from rfl) ⟨_, hfr, _, _, rfl, RV_nil, rfl⟩
       ·refine E_cf e7 rfl ?_
        exact Zu (Zd (mB (d3, v6.2) _ _ ⟨mC, (u7), hfr, v7, z4, i5, c8, l5, e8, b130, rfl, b7, q5⟩ h))
      ·rintro ⟨j7, i3⟩ tD eE ⟨o9, mD, hfr, t9, x6, y6, u9, j3, g8, j1, y9, t8, v8⟩ h
       refine Za (Zo t9 rfl ?_)
       refine Zo g8 rfl ?_
       refine Zo y9 rfl ?_
       refine Ze .plain rfl (D_lookup (g := o9) (z0 := (⟨0, 0, 0⟩ : LoomRun)) Try.underlying100 key_3 Try.zeroValue76 (fun m w => ⟨_, (rep_two rep_int (rep_two rep_int rep_int)), rfl⟩) rfl j1 rfl fun qC rC => ?_)
       refine Ze .plain rfl (D_buildSlice (g := o9) 3043 (xs := ([((mget i3 o0).getD (⟨0, 0, 0⟩ : LoomRun))] : List LoomRun)) (vs := [qC]) Try.underlying31 Try.sizeOf76 Try.zeroValue76 rfl rfl (.cons rfl .nil) (RVs.cons rC RVs.nil) rfl rfl fun tC gE iE hs o135 uC hxt hfl => ?_)
       have hfr := hfr.stp hs
       have x6 := x6.stp hs
       have y6 := y6.stp hs rfl
       have j3 := j3.stp hs rfl
       have j1 := j1.stp hs rfl
       obtain ⟨y137, oB, h⟩ := bsome h
       refine Ze .plain rfl (D_append (g := tC) (i := 1004) Try.underlying31 info_76 rfl rfl y6 x6 rfl uC oB fun vC jE z9 hs o136 xC _ => ?_)
       have hfr := hfr.stp hs
       have j3 := j3.stp hs rfl
       have j1 := j1.stp hs rfl
       refine Zg z9 rfl rfl ?_
       exact Zb (blk_n (Zd (lB (y137, i3) _ _ ⟨vC, (z9), hfr, rfl, xC, o136, u9, j3, g8, j1, t8, v8⟩ h)))
     ·rintro ⟨i6, j6⟩ uD kE ⟨yC, bA, hfr, gA, iA, jA, kA, lA, mA, nA, x8, y8⟩ h
      refine Za (EL_in (.int .i64 ((w64 (o0 + (1 : Int))))) y8 rfl rfl rfl ?_)
      refine Zn (.int .i64 ((w64 (o0 + (1 : Int))))) rfl rfl ?_
      exact Zb (Zd (kB (i6, j6, (w64 (o0 + (1 : Int)))) _ _ ⟨yC, (bA), hfr, gA, iA, jA, kA, lA, mA, nA, x8, rfl⟩ h))
    ·refine E_cf d7 rfl ?_
     refine E_exit ?_
     refine thn_e ?_
     refine thn_e ?_
     refine blk_hit ?_
     exact Zd (jB (d3) _ _ ⟨q8, (u7), hfr, v7, z4, i5⟩ h)
   ·rintro g7 vD lE ⟨mE, i8, hfr, oA, pA, nD⟩ h
    refine Zf (Za (Zo oA rfl ?_))
    refine Zg i8 rfl rfl ?_
    refine Zg (.int .i64 (0)) rfl rfl ?_
    refine Zb (Zd (E_ret ?_))
    obtain rfl := sinj h
    exact end2 rfl rfl (show _ = i8 from rfl) (show _ = .int .i64 (0) from rfl) ⟨_, hfr, _, _, rfl, pA, rfl⟩
def f23 (x0 : LoomMill) (x1 : List LoomOrder) : Option ((List Int) × Int) :=
 (f50 x0 x1).bind fun y4 =>
 jn (σ := Unit) (fun _ =>
  (f52 (y4.1)).bind fun z2 =>
  (f51 (y4.1) z2 ([])).bind fun d3 =>
  (f55 (((x1).length : Int)) ((fun a0 => f56 a0 d3))).bind fun j1 =>
  jn (σ := Unit) (fun _ =>
   some (j1.1, (0 : Int))
   ) fun j6 =>
  bif (!j1.2) then
   some ([], (7 : Int))
  else
   j6 ()
  ) fun k8 =>
 bif (y4.2 != (0 : Int)) then
  some ([], y4.2)
 else
  k8 ()
theorem en23 : Enters Try.prog 23 := enters_of Try.func23 (by kernel_rfl) rfl
theorem wk23 {gI : Gh} {wI : World} {x0 : LoomMill} {x1 : List LoomOrder} {up0 : Value} (rp0 : RV gI.m wI x0 up0) {up1 : Value} (rp1 : RV gI.m wI x1 up1) {r : (List Int) × Int} (h : f23 x0 x1 = some r) : Fn Try.prog 23 #[up0, up1] gI wI (fun m w v => ∃ y0 y1, v = .tuple #[y0, y1] ∧ RV m w (r.1) y0 ∧ y1 = .int .i64 (r.2)) := by
 unfold f23 at h
 refine fn_of_E Try.func23 rfl (Nat.le_of_ble_eq_true rfl) fun g0 hm hfr => ?_
 have rp0 : RV g0.m wI x0 up0 := hm ▸ rp0
 have rp1 : RV g0.m wI x1 up1 := hm ▸ rp1
 show E _ 34 none _ _ _ _ _
 refine Zf (Za (Ze .plain rfl (D_box (g := g0) rfl rp0 fun g1 w1 p1 hs q1 => ?_)))
 have hfr := hfr.ext hs
 have rp1 := rp1.ext hs
 refine Zg (.slice none 0 0) rfl rfl ?_
 refine Zg (.int .i64 (0)) rfl rfl ?_
 refine Zb (Zd (Zf (Za (Ze .plain rfl (D_load (g := g1) Try.isAgg24 Try.sizeOf24 rfl q1 fun v2 r2 => ?_)))))
 refine Zn up1 rfl rfl ?_
 obtain ⟨y4, g7, h⟩ := bsome h
 refine Ze .plain rfl (Zp (g := g1) (vs := [v2, up1]) en50 (.cons rfl (.cons rfl .nil)) (wk50 r2 rp1 g7) fun g3 w3_ v3 hs hr => ?_)
 have hfr := hfr.ext hs
 have rp1 := rp1.ext hs
 obtain ⟨j3, e8, rfl, o3, rfl⟩ := hr
 refine Zn (.tuple #[j3, .int .i64 (y4.2)]) rfl rfl ?_
 refine EL_p j3 (Zi rfl rfl) rfl ?_
 refine EL_p (.int .i64 (y4.2)) (Zi rfl rfl) rfl ?_
 refine Ze .plain rfl (D_allocOc (g := g3) 2006 (⟨⟨[], 0⟩, []⟩ : LoomLoomMill) Try.zeroValue96 (fun m w => ⟨_, (rep_two (rep_two rep_nil rep_int) rep_nil), rfl⟩) fun g5 w5 p5 hs b5 cb => ?_)
 have hfr := hfr.stp hs
 have rp1 := rp1.stp hs
 have o3 := o3.stp hs
 have g8 : OSF 2006 60600 0 g5 w5 3 96 ([] : List Int) p5 := cb.osf (by rfl)
 have i8 : OSF 2006 60602 2 g5 w5 82 96 ([] : List LoomOrder) p5 := cb.osf (by rfl)
 clear cb
 refine Ze .plain rfl (D_storeOc (g := g5) (v := j3) Try.sizeOf96 rfl b5 rfl o3 fun g6 w6 hs b6 cb => ?_)
 clear cb
 have hfr := hfr.stp hs
 have rp1 := rp1.stp hs
 refine Zg (.int .i64 (y4.2)) rfl rfl ?_
 refine Zb (Zd (Zq h (fun (s : Unit) e w => ∃ (g : Gh) , Fr gI wI g w ∧ e 1 = up1 ∧ RV g.m w (x1 : List LoomOrder) up1 ∧ e 6 = p5 ∧ OB 2006 g w 96 (y4.1 : LoomLoomMill) p5) (fun X8 k8 i7 h => ?_) ?_))
 ·refine Zf (Za (Zn (.int .i64 (y4.2)) rfl rfl ?_))
  refine EL_in (.bool ((y4.2 != (0 : Int)))) rfl rfl rfl rfl ?_
  refine Zb (Zd ?_)
  rcases Zt h with ⟨i5, h⟩ | ⟨i5, h⟩
  ·refine E_ct i5 rfl ?_
   refine Zf (Za (Zn (.int .i64 (y4.2)) rfl rfl ?_))
   refine Zg (.slice none 0 0) rfl rfl ?_
   refine Zg (.int .i64 (y4.2)) rfl rfl ?_
   refine Zb (Zd (E_ret (thn_r ?_)))
   obtain rfl := sinj h
   exact end2 rfl rfl (show _ = .slice none 0 0 from rfl) (show _ = .int .i64 (y4.2) from rfl) ⟨_, hfr, _, _, rfl, RV_nil, rfl⟩
  ·refine E_cf i5 rfl ?_
   exact Zu (Zd (i7 () _ _ ⟨g6, hfr, rfl, rp1, rfl, b6⟩ h))
 ·rintro _ l8 o8 ⟨j7, hfr, q5, o0, z3, z4⟩ h
  refine Zf (L_loadO0 (x := .tmp 6) Try.isAgg96 Try.sizeOf96 z4 fun v6 m7 a7 => ?_)
  refine L_loadO0 (x := .tmp 6) Try.isAgg96 Try.sizeOf96 z4 fun x6 n7 hl12 => ?_
  obtain ⟨z2, b7, h⟩ := bsome h
  obtain ⟨d3, c7, h⟩ := bsome h
  refine E_drawL (g := j7) (n := 5) [(2, (fun v g w => RV g.m w z2 v)), (3, (fun v g w => RV g.m w d3 v)), (4, (fun v g w => OB 2008 g w 101 ([] : List Bool) v))] [0, 1, 2, 3, 4] rfl mixed (by kernel_rfl) (⟨fun _ => up_rv, fun _ => up_rv, fun _ => up_ob, trivial⟩) ?_
  refine L_ld (c := v6) rfl rfl .plain (fun _ _ h => ⟨h.ch, fun b hb _ => h.below.block b hb⟩) a7 z3 ?_
  refine L_ld (c := x6) rfl rfl .plain (fun _ _ h => ⟨h.ch, fun b hb _ => h.below.block b hb⟩) hl12 z3 ?_
  refine L_do (φ := fun v g w => RV g.m w z2 v) rfl rfl .plain (fun g w hd => Zp (g := g) (vs := [x6]) en52 (.cons rfl .nil) (wk52 (n7.ext hd.1) b7) fun g' w' v hs hr => ⟨g', hs, hr⟩) (fun l5 hv => ?_)
  obtain ⟨_, _, _, rq13⟩ := hv
  refine L_do (φ := fun v g w => RV g.m w d3 v) rfl rfl .plain (fun g w hd => Zp (g := g) (vs := [v6, l5, .map none]) en51 (.cons rfl (.cons rfl (.cons rfl .nil))) (wk51 (m7.ext hd.1) (word (A := fun g w => RV g.m w z2 l5) 2 rfl rfl (deps_of hd)) MR.nil c7) fun g' w' v hs hr => ⟨g', hs, hr⟩) (fun y6 hv => ?_)
  obtain ⟨_, _, _, rq15⟩ := hv
  refine L_do (φ := fun v g w => OB 2008 g w 101 ([] : List Bool) v) rfl rfl .plain (fun g w hd => D_allocX (g := g) 2008 ([] : List Bool) Try.zeroValue101 (fun m w => ⟨_, rep_nil, rfl⟩) fun g' w' v hs b => ⟨g', hs, b⟩) (fun i3 hv => ?_)
  clear hv
  refine L_nil fun o7 q8 hall => ?_
  have hs := hall.1
  have hfr := hfr.ext hs
  have o0 := o0.ext hs
  have r8 := (word_all (A := fun g w => RV g.m w z2 l5) 2 rfl hall)
  have u7 := (word_all (A := fun g w => RV g.m w d3 y6) 3 rfl hall)
  have b25 := (word_all (A := fun g w => OB 2008 g w 101 ([] : List Bool) i3) 4 rfl hall)
  clear hs hall
  refine Ze .plain rfl (D_storeOc (g := o7) (v := y6) Try.sizeOf101 rfl b25 rfl u7 fun t8 v8 hs b26 cb => ?_)
  clear cb
  have hfr := hfr.stp hs
  have o0 := o0.stp hs
  obtain ⟨gp26, hs, qp26⟩ := OB.pub b26
  have hfr := hfr.stp hs
  have o0 := o0.stp hs
  refine Zb (Zd (Zf (Za (Zo q5 rfl ?_))))
  refine EL_p (.int .i64 ((x1).length : Int)) (P_len Try.underlying25 rfl o0) rfl ?_
  refine EL_p ((.func (.func 56) #[] #[i3])) (P_makeFunc (capf_0_1 (show ev _ _ = i3 from rfl))) rfl ?_
  obtain ⟨j1, d7, h⟩ := bsome h
  refine Ze .plain rfl (Zp (g := gp26) (vs := [.int .i64 ((x1).length : Int), (.func (.func 56) #[] #[i3])]) en55 (.cons rfl (.cons rfl .nil)) (wk55 ⟨56, #[], #[i3], rfl, en56, fun g' w' hch a0 b0 r hu0 hr => by obtain rfl := Zj.1 hu0; exact Fn.mono (wk56  (qp26.ch hch) hr) fun _ _ _ h => RV_bool.2 h⟩ d7) fun v7 m8 x8 hs hr => ?_)
  have hfr := hfr.ext hs
  obtain ⟨u0, c8, rfl, t5, rfl⟩ := hr
  refine Zn (.tuple #[u0, .bool (j1.2)]) rfl rfl ?_
  refine EL_p u0 (Zi rfl rfl) rfl ?_
  refine EL_p (.bool (j1.2)) (Zi rfl rfl) rfl ?_
  refine Zg u0 rfl rfl ?_
  refine Zg (.bool (j1.2)) rfl rfl ?_
  refine Zb (Zd (Zq h (fun (s : Unit) e w => ∃ (g : Gh) , Fr gI wI g w ∧ e 9 = u0 ∧ RV g.m w (j1.1 : List Int) u0) (fun X30 j6 e7 h => ?_) ?_))
  ·refine Zf (Za (Zn (.bool (j1.2)) rfl rfl ?_))
   refine EL_p (.bool (!j1.2)) (P_not rfl) rfl ?_
   refine Zb (Zd ?_)
   rcases Zt h with ⟨u3, h⟩ | ⟨u3, h⟩
   ·refine E_ct u3 rfl ?_
    refine Zf (Za (Zg (.slice none 0 0) rfl rfl ?_))
    refine Zg (.int .i64 (7)) rfl rfl ?_
    refine Zb (Zd (E_ret (thn_r ?_)))
    obtain rfl := sinj h
    exact end2 rfl rfl (show _ = .slice none 0 0 from rfl) (show _ = .int .i64 (7) from rfl) ⟨_, hfr, _, _, rfl, RV_nil, rfl⟩
   ·refine E_cf u3 rfl ?_
    exact Zu (Zd (e7 () _ _ ⟨v7, hfr, rfl, t5⟩ h))
  ·rintro _ n8 y8 ⟨a9, hfr, x5, i6⟩ h
   refine Zf (Za (Zo x5 rfl ?_))
   refine Zg u0 rfl rfl ?_
   refine Zg (.int .i64 (0)) rfl rfl ?_
   refine Zb (Zd (E_ret ?_))
   obtain rfl := sinj h
   exact end2 rfl rfl (show _ = u0 from rfl) (show _ = .int .i64 (0) from rfl) ⟨_, hfr, _, _, rfl, i6, rfl⟩
def f24 (x0 : LoomMill) (x1 : List LoomOrder) : Option ((List Int) × Int) :=
 (f50 x0 x1).bind fun y4 =>
 jn (σ := Unit) (fun _ =>
  (f52 (y4.1)).bind fun z2 =>
  (f51 (y4.1) z2 ([])).bind fun i3 =>
  (f55 (((x1).length : Int)) ((fun a0 => f57 a0 i3 (y4.1)))).bind fun j3 =>
  some (j3.1, (0 : Int))
  ) fun k8 =>
 bif (y4.2 != (0 : Int)) then
  some ([], y4.2)
 else
  k8 ()
theorem en24 : Enters Try.prog 24 := enters_of Try.func24 (by kernel_rfl) rfl
theorem wk24 {gI : Gh} {wI : World} {x0 : LoomMill} {x1 : List LoomOrder} {up0 : Value} (rp0 : RV gI.m wI x0 up0) {up1 : Value} (rp1 : RV gI.m wI x1 up1) {r : (List Int) × Int} (h : f24 x0 x1 = some r) : Fn Try.prog 24 #[up0, up1] gI wI (fun m w v => ∃ y0 y1, v = .tuple #[y0, y1] ∧ RV m w (r.1) y0 ∧ y1 = .int .i64 (r.2)) := by
 unfold f24 at h
 refine fn_of_E Try.func24 rfl (Nat.le_of_ble_eq_true rfl) fun g0 hm hfr => ?_
 have rp0 : RV g0.m wI x0 up0 := hm ▸ rp0
 have rp1 : RV g0.m wI x1 up1 := hm ▸ rp1
 show E _ 32 none _ _ _ _ _
 refine Zf (Za (Ze .plain rfl (D_box (g := g0) rfl rp0 fun g1 w1 p1 hs q1 => ?_)))
 have hfr := hfr.ext hs
 have rp1 := rp1.ext hs
 refine Zg (.slice none 0 0) rfl rfl ?_
 refine Zg (.int .i64 (0)) rfl rfl ?_
 refine Zb (Zd (Zf (Za (Ze .plain rfl (D_load (g := g1) Try.isAgg24 Try.sizeOf24 rfl q1 fun v2 r2 => ?_)))))
 refine Zn up1 rfl rfl ?_
 obtain ⟨y4, a7, h⟩ := bsome h
 refine Ze .plain rfl (Zp (g := g1) (vs := [v2, up1]) en50 (.cons rfl (.cons rfl .nil)) (wk50 r2 rp1 a7) fun g3 w3_ v3 hs hr => ?_)
 have hfr := hfr.ext hs
 have rp1 := rp1.ext hs
 obtain ⟨u3, m7, rfl, z3, rfl⟩ := hr
 refine Zn (.tuple #[u3, .int .i64 (y4.2)]) rfl rfl ?_
 refine EL_p u3 (Zi rfl rfl) rfl ?_
 refine EL_p (.int .i64 (y4.2)) (Zi rfl rfl) rfl ?_
 refine Ze .plain rfl (D_allocOc (g := g3) 2006 (⟨⟨[], 0⟩, []⟩ : LoomLoomMill) Try.zeroValue96 (fun m w => ⟨_, (rep_two (rep_two rep_nil rep_int) rep_nil), rfl⟩) fun g5 w5 p5 hs b5 cb => ?_)
 have hfr := hfr.stp hs
 have rp1 := rp1.stp hs
 have z3 := z3.stp hs
 have n7 : OSF 2006 60600 0 g5 w5 3 96 ([] : List Int) p5 := cb.osf (by rfl)
 have o7 : OSF 2006 60602 2 g5 w5 82 96 ([] : List LoomOrder) p5 := cb.osf (by rfl)
 clear cb
 refine Ze .plain rfl (D_storeOc (g := g5) (v := u3) Try.sizeOf96 rfl b5 rfl z3 fun g6 w6 hs b6 cb => ?_)
 clear cb
 have hfr := hfr.stp hs
 have rp1 := rp1.stp hs
 obtain ⟨gp6, hs, qp6⟩ := OB.pub b6
 have hfr := hfr.stp hs
 have rp1 := rp1.stp hs
 refine Zg (.int .i64 (y4.2)) rfl rfl ?_
 refine Zb (Zd (Zq h (fun (s : Unit) e w => ∃ (g : Gh) , Fr gI wI g w ∧ e 1 = up1 ∧ RV g.m w (x1 : List LoomOrder) up1 ∧ e 6 = p5 ∧ PT g.m w (y4.1 : LoomLoomMill) p5) (fun X8 k8 b7 h => ?_) ?_))
 ·refine Zf (Za (Zn (.int .i64 (y4.2)) rfl rfl ?_))
  refine EL_in (.bool ((y4.2 != (0 : Int)))) rfl rfl rfl rfl ?_
  refine Zb (Zd ?_)
  rcases Zt h with ⟨z4, h⟩ | ⟨z4, h⟩
  ·refine E_ct z4 rfl ?_
   refine Zf (Za (Zn (.int .i64 (y4.2)) rfl rfl ?_))
   refine Zg (.slice none 0 0) rfl rfl ?_
   refine Zg (.int .i64 (y4.2)) rfl rfl ?_
   refine Zb (Zd (E_ret (thn_r ?_)))
   obtain rfl := sinj h
   exact end2 rfl rfl (show _ = .slice none 0 0 from rfl) (show _ = .int .i64 (y4.2) from rfl) ⟨_, hfr, _, _, rfl, RV_nil, rfl⟩
  ·refine E_cf z4 rfl ?_
   exact Zu (Zd (b7 () _ _ ⟨gp6, hfr, rfl, rp1, rfl, qp6⟩ h))
 ·rintro _ u7 c8 ⟨c7, hfr, l5, u0, d3, o0⟩ h
  refine Zf (Zs (x := .tmp 6) Try.isAgg96 Try.sizeOf96 o0 fun t5 d7 j6 => ?_)
  refine Zs (x := .tmp 6) Try.isAgg96 Try.sizeOf96 o0 fun x5 e7 hl12 => ?_
  obtain ⟨z2, v6, h⟩ := bsome h
  obtain ⟨i3, x6, h⟩ := bsome h
  refine E_drawL (g := c7) (n := 5) [(2, (fun v g w => RV g.m w z2 v)), (3, (fun v g w => RV g.m w i3 v)), (4, (fun v g w => OB 2008 g w 101 ([] : List Bool) v))] [0, 1, 2, 3, 4] rfl mixed (by kernel_rfl) (⟨fun _ => up_rv, fun _ => up_rv, fun _ => up_ob, trivial⟩) ?_
  refine L_ld (c := t5) rfl rfl .plain (fun _ _ h => h.ch) j6 d3 ?_
  refine L_ld (c := x5) rfl rfl .plain (fun _ _ h => h.ch) hl12 d3 ?_
  refine L_do (φ := fun v g w => RV g.m w z2 v) rfl rfl .plain (fun g w hd => Zp (g := g) (vs := [x5]) en52 (.cons rfl .nil) (wk52 (e7.ext hd.1) v6) fun g' w' v hs hr => ⟨g', hs, hr⟩) (fun i5 hv => ?_)
  obtain ⟨_, _, _, rq13⟩ := hv
  refine L_do (φ := fun v g w => RV g.m w i3 v) rfl rfl .plain (fun g w hd => Zp (g := g) (vs := [t5, i5, .map none]) en51 (.cons rfl (.cons rfl (.cons rfl .nil))) (wk51 (d7.ext hd.1) (word (A := fun g w => RV g.m w z2 i5) 2 rfl rfl (deps_of hd)) MR.nil x6) fun g' w' v hs hr => ⟨g', hs, hr⟩) (fun i6 hv => ?_)
  obtain ⟨_, _, _, rq15⟩ := hv
  refine L_do (φ := fun v g w => OB 2008 g w 101 ([] : List Bool) v) rfl rfl .plain (fun g w hd => D_allocX (g := g) 2008 ([] : List Bool) Try.zeroValue101 (fun m w => ⟨_, rep_nil, rfl⟩) fun g' w' v hs b => ⟨g', hs, b⟩) (fun o3 hv => ?_)
  clear hv
  refine L_nil fun g7 e8 hall => ?_
  have hs := hall.1
  have hfr := hfr.ext hs
  have u0 := u0.ext hs
  have o0 := o0.ext hs
  have g8 := (word_all (A := fun g w => RV g.m w z2 i5) 2 rfl hall)
  have i7 := (word_all (A := fun g w => RV g.m w i3 i6) 3 rfl hall)
  have b25 := (word_all (A := fun g w => OB 2008 g w 101 ([] : List Bool) o3) 4 rfl hall)
  clear hs hall
  refine Ze .plain rfl (D_storeOc (g := g7) (v := i6) Try.sizeOf101 rfl b25 rfl i7 fun i8 l8 hs b26 cb => ?_)
  clear cb
  have hfr := hfr.stp hs
  have u0 := u0.stp hs
  have o0 := o0.stp hs
  obtain ⟨gp26, hs, qp26⟩ := OB.pub b26
  have hfr := hfr.stp hs
  have u0 := u0.stp hs
  have o0 := o0.stp hs
  refine Zb (Zd (Zf (Za (Zo l5 rfl ?_))))
  refine EL_p (.int .i64 ((x1).length : Int)) (P_len Try.underlying25 rfl u0) rfl ?_
  refine EL_p ((.func (.func 57) #[] #[o3, p5])) (P_makeFunc (capf_0_2 (show ev _ _ = o3 from rfl) (show ev _ _ = p5 from d3))) rfl ?_
  obtain ⟨j3, y6, h⟩ := bsome h
  refine Ze .plain rfl (Zp (g := gp26) (vs := [.int .i64 ((x1).length : Int), (.func (.func 57) #[] #[o3, p5])]) en55 (.cons rfl (.cons rfl .nil)) (wk55 ⟨57, #[], #[o3, p5], rfl, en57, fun g' w' hch a0 b0 r hu0 hr => by obtain rfl := Zj.1 hu0; exact Fn.mono (wk57  (qp26.ch hch) (o0.ch hch) hr) fun _ _ _ h => RV_bool.2 h⟩ y6) fun m8 v7 n8 hs hr => ?_)
  have hfr := hfr.ext hs
  obtain ⟨j1, j7, rfl, q5, rfl⟩ := hr
  refine Zn (.tuple #[j1, .bool (j3.2)]) rfl rfl ?_
  refine EL_p j1 (Zi rfl rfl) rfl ?_
  refine EL_p (.bool (j3.2)) (Zi rfl rfl) rfl ?_
  refine Zg j1 rfl rfl ?_
  refine Zg (.bool (j3.2)) rfl rfl ?_
  refine Zb (Zd (Zf (Za (Zn j1 rfl rfl ?_))))
  refine Zg j1 rfl rfl ?_
  refine Zg (.int .i64 (0)) rfl rfl ?_
  refine Zb (Zd (E_ret ?_))
  obtain rfl := sinj h
  exact end2 rfl rfl (show _ = j1 from rfl) (show _ = .int .i64 (0) from rfl) ⟨_, hfr, _, _, rfl, q5, rfl⟩
def f25 (x0 : LoomMill) (x1 : List LoomOrder) : Option ((List Int) × Int) :=
 (f50 x0 x1).bind fun y4 =>
 jn (σ := Unit) (fun _ =>
  (f55 ((((x0).Widths).length : Int)) ((fun a0 => f58 a0 (y4.1)))).bind fun u0 =>
  jn (σ := Unit) (fun _ =>
   some (u0.1, (0 : Int))
   ) fun q5 =>
  bif (!u0.2) then
   some ([], (9 : Int))
  else
   q5 ()
  ) fun k8 =>
 bif (y4.2 != (0 : Int)) then
  some ([], y4.2)
 else
  k8 ()
theorem en25 : Enters Try.prog 25 := enters_of Try.func25 (by kernel_rfl) rfl
theorem wk25 {gI : Gh} {wI : World} {x0 : LoomMill} {x1 : List LoomOrder} {up0 : Value} (rp0 : RV gI.m wI x0 up0) {up1 : Value} (rp1 : RV gI.m wI x1 up1) {r : (List Int) × Int} (h : f25 x0 x1 = some r) : Fn Try.prog 25 #[up0, up1] gI wI (fun m w v => ∃ y0 y1, v = .tuple #[y0, y1] ∧ RV m w (r.1) y0 ∧ y1 = .int .i64 (r.2)) := by
 unfold f25 at h
 refine fn_of_E Try.func25 rfl (Nat.le_of_ble_eq_true rfl) fun g0 hm hfr => ?_
 have rp0 : RV g0.m wI x0 up0 := hm ▸ rp0
 have rp1 : RV g0.m wI x1 up1 := hm ▸ rp1
 show E _ 30 none _ _ _ _ _
 refine Zf (Za (Ze .plain rfl (D_box (g := g0) rfl rp0 fun g1 w1 p1 hs q1 => ?_)))
 have hfr := hfr.ext hs
 have rp1 := rp1.ext hs
 refine Zg (.slice none 0 0) rfl rfl ?_
 refine Zg (.int .i64 (0)) rfl rfl ?_
 refine Zb (Zd (Zf (Za (Ze .plain rfl (D_load (g := g1) Try.isAgg24 Try.sizeOf24 rfl q1 fun v2 r2 => ?_)))))
 refine Zn up1 rfl rfl ?_
 obtain ⟨y4, j6, h⟩ := bsome h
 refine Ze .plain rfl (Zp (g := g1) (vs := [v2, up1]) en50 (.cons rfl (.cons rfl .nil)) (wk50 r2 rp1 j6) fun g3 w3_ v3 hs hr => ?_)
 have hfr := hfr.ext hs
 have q1 := q1.ext hs
 obtain ⟨j1, c7, rfl, z2, rfl⟩ := hr
 refine Zn (.tuple #[j1, .int .i64 (y4.2)]) rfl rfl ?_
 refine EL_p j1 (Zi rfl rfl) rfl ?_
 refine EL_p (.int .i64 (y4.2)) (Zi rfl rfl) rfl ?_
 refine Ze .plain rfl (D_allocOc (g := g3) 2006 (⟨⟨[], 0⟩, []⟩ : LoomLoomMill) Try.zeroValue96 (fun m w => ⟨_, (rep_two (rep_two rep_nil rep_int) rep_nil), rfl⟩) fun g5 w5 p5 hs b5 cb => ?_)
 have hfr := hfr.stp hs
 have q1 := q1.stp hs
 have z2 := z2.stp hs
 have d7 : OSF 2006 60600 0 g5 w5 3 96 ([] : List Int) p5 := cb.osf (by rfl)
 have e7 : OSF 2006 60602 2 g5 w5 82 96 ([] : List LoomOrder) p5 := cb.osf (by rfl)
 clear cb
 refine Ze .plain rfl (D_storeOc (g := g5) (v := j1) Try.sizeOf96 rfl b5 rfl z2 fun g6 w6 hs b6 cb => ?_)
 clear cb
 have hfr := hfr.stp hs
 have q1 := q1.stp hs
 obtain ⟨gp6, hs, qp6⟩ := OB.pub b6
 have hfr := hfr.stp hs
 have q1 := q1.stp hs
 refine Zg (.int .i64 (y4.2)) rfl rfl ?_
 refine Zb (Zd (Zq h (fun (s : Unit) e w => ∃ (g : Gh) , Fr gI wI g w ∧ e 2 = p1 ∧ PT g.m w (x0 : LoomMill) p1 ∧ e 6 = p5 ∧ PT g.m w (y4.1 : LoomLoomMill) p5) (fun X8 k8 v6 h => ?_) ?_))
 ·refine Zf (Za (Zn (.int .i64 (y4.2)) rfl rfl ?_))
  refine EL_in (.bool ((y4.2 != (0 : Int)))) rfl rfl rfl rfl ?_
  refine Zb (Zd ?_)
  rcases Zt h with ⟨j3, h⟩ | ⟨j3, h⟩
  ·refine E_ct j3 rfl ?_
   refine Zf (Za (Zn (.int .i64 (y4.2)) rfl rfl ?_))
   refine Zg (.slice none 0 0) rfl rfl ?_
   refine Zg (.int .i64 (y4.2)) rfl rfl ?_
   refine Zb (Zd (E_ret (thn_r ?_)))
   obtain rfl := sinj h
   exact end2 rfl rfl (show _ = .slice none 0 0 from rfl) (show _ = .int .i64 (y4.2) from rfl) ⟨_, hfr, _, _, rfl, RV_nil, rfl⟩
  ·refine E_cf j3 rfl ?_
   exact Zu (Zd (v6 () _ _ ⟨gp6, hfr, rfl, q1, rfl, qp6⟩ h))
 ·rintro _ g7 m7 ⟨t5, hfr, o3, i3, u3, z3⟩ h
  refine Zf (Za (EL_p (fPtr p1 0) (Zc at_24_0 o3 (PT.ptr i3)) rfl ?_))
  have x6 := Zm (part_LoomMill_0).1 i3
  refine Ze .plain rfl (D_load (g := t5) Try.isAgg22 Try.sizeOf22 rfl x6 fun n7 y6 => ?_)
  refine EL_p (.int .i64 (((x0).Widths).length : Int)) (P_len Try.underlying22 rfl y6) rfl ?_
  refine EL_p ((.func (.func 58) #[] #[p5])) (P_makeFunc (capf_0_1 (show ev _ _ = p5 from u3))) rfl ?_
  obtain ⟨u0, x5, h⟩ := bsome h
  refine Ze .plain rfl (Zp (g := t5) (vs := [.int .i64 (((x0).Widths).length : Int), (.func (.func 58) #[] #[p5])]) en55 (.cons rfl (.cons rfl .nil)) (wk55 ⟨58, #[], #[p5], rfl, en58, fun g' w' hch a0 b0 r hu0 hr => by obtain rfl := Zj.1 hu0; exact Fn.mono (wk58  (z3.ch hch) hr) fun _ _ _ h => RV_bool.2 h⟩ x5) fun a7 i7 o7 hs hr => ?_)
  have hfr := hfr.ext hs
  obtain ⟨o0, b7, rfl, z4, rfl⟩ := hr
  refine Zn (.tuple #[o0, .bool (u0.2)]) rfl rfl ?_
  refine EL_p o0 (Zi rfl rfl) rfl ?_
  refine EL_p (.bool (u0.2)) (Zi rfl rfl) rfl ?_
  refine Zg o0 rfl rfl ?_
  refine Zg (.bool (u0.2)) rfl rfl ?_
  refine Zb (Zd (Zq h (fun (s : Unit) e w => ∃ (g : Gh) , Fr gI wI g w ∧ e 8 = o0 ∧ RV g.m w (u0.1 : List Int) o0) (fun X16 q5 i6 h => ?_) ?_))
  ·refine Zf (Za (Zn (.bool (u0.2)) rfl rfl ?_))
   refine EL_p (.bool (!u0.2)) (P_not rfl) rfl ?_
   refine Zb (Zd ?_)
   rcases Zt h with ⟨d3, h⟩ | ⟨d3, h⟩
   ·refine E_ct d3 rfl ?_
    refine Zf (Za (Zg (.slice none 0 0) rfl rfl ?_))
    refine Zg (.int .i64 (9)) rfl rfl ?_
    refine Zb (Zd (E_ret (thn_r ?_)))
    obtain rfl := sinj h
    exact end2 rfl rfl (show _ = .slice none 0 0 from rfl) (show _ = .int .i64 (9) from rfl) ⟨_, hfr, _, _, rfl, RV_nil, rfl⟩
   ·refine E_cf d3 rfl ?_
    exact Zu (Zd (i6 () _ _ ⟨a7, hfr, rfl, z4⟩ h))
  ·rintro _ j7 u7 ⟨v7, hfr, i5, l5⟩ h
   refine Zf (Za (Zo i5 rfl ?_))
   refine Zg o0 rfl rfl ?_
   refine Zg (.int .i64 (0)) rfl rfl ?_
   refine Zb (Zd (E_ret ?_))
   obtain rfl := sinj h
   exact end2 rfl rfl (show _ = o0 from rfl) (show _ = .int .i64 (0) from rfl) ⟨_, hfr, _, _, rfl, l5, rfl⟩
end Go.Proofs.Ytnfjhdagbknlbaa
