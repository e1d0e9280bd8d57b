import Derived.Test.YtnfjhdagbknlbaaCode2
set_option maxRecDepth 8000
set_option maxHeartbeats 4000000
namespace Go.Proofs.Ytnfjhdagbknlbaa
open Go.RowKit
def f20 (x0 : LoomMill) (x1 : List LoomOrder) : Option (Int) :=
 jn (σ := Unit) (fun (_ : Unit) =>
  jn (σ := Unit) (fun (_ : Unit) =>
   jn (σ := Unit) (fun (_ : Unit) =>
    jn (σ := Unit) (fun (_ : Unit) =>
     some ((0 : Int))
     ) fun m8 =>
    lp (σ := Int) (fun n8 u0 =>
     jn (σ := Unit) (fun (_ : Unit) =>
      jn (σ := Unit) (fun (_ : Unit) =>
       n8 ((w64 (u0 + (1 : Int))))
       ) fun o8 =>
      (idx x1 u0).bind fun u3 =>
      Option.bind (α := Bool) (
       (f36 ((u3).Width) ((1 : Int)) ((100 : Int))).bind fun q5 =>
       bif (!q5) then
        some (true)
       else
        (f36 ((u3).Chain) ((0 : Int)) ((100 : Int))).bind fun i5 =>
        bif (!i5) then
         some (true)
        else
         (f36 ((u3).Woven) ((1 : Int)) ((100 : Int))).bind fun l5 =>
         bif (!l5) then
          some (true)
         else
          (f36 ((u3).Early) ((0 : Int)) ((300 : Int))).bind fun o5 =>
          bif (!o5) then
           some (true)
          else
           (f36 ((u3).Late) ((0 : Int)) ((300 : Int))).bind fun j6 =>
           some ((!j6))
       ) fun z3 =>
      bif z3 then
       some ((2 : Int))
      else
       o8 ()
      ) fun p8 =>
     bif (decide (u0 < ((x1).length : Int))) then
      p8 ()
     else
      m8 ()
     ) big ((0 : Int))
    ) fun k94 =>
   Option.bind (α := Bool) (
    bif ((((x0).Widths).length : Int) == (0 : Int)) then
     some (true)
    else
     (f36 ((x0).Change) ((0 : Int)) ((20 : Int))).bind fun l6 =>
     some ((!l6))
    ) fun d4 =>
   bif d4 then
    some ((2 : Int))
   else
    k94 ()
   ) fun k48 =>
  lp (σ := Int) (fun tA j1 =>
   jn (σ := Unit) (fun (_ : Unit) =>
    jn (σ := Unit) (fun (_ : Unit) =>
     tA ((w64 (j1 + (1 : Int))))
     ) fun uA =>
    (idx ((x0).Widths) j1).bind fun y70 =>
    (f36 y70 ((1 : Int)) ((100 : Int))).bind fun y74 =>
    bif (!y74) then
     some ((2 : Int))
    else
     uA ()
    ) fun k54 =>
   bif (decide (j1 < (((x0).Widths).length : Int))) then
    k54 ()
   else
    k48 ()
   ) big ((0 : Int))
  ) fun vA =>
 Option.bind (α := Bool) (
  bif (decide ((((x0).Widths).length : Int) > (3 : Int))) then
   some (true)
  else
   some ((decide (((x1).length : Int) > (7 : Int))))
  ) fun d5 =>
 bif d5 then
  some ((5 : Int))
 else
  vA ()
def f39 (x0 : Hall) : Option (LoomMill × (List LoomOrder) × (List LoomRun)) :=
 (rem64 (((x0).Change).toNat : Int) (6 : Int)).bind fun y5 =>
 Option.bind (α := LoomMill) (
  lp (σ := LoomMill × Int) (fun vL (l9, m7) =>
   jn (σ := Unit) (fun (_ : Unit) =>
    Option.bind (α := LoomMill) (
     (idx ((x0).Widths).toList m7).bind fun mD =>
     (rem64 ((mD).toNat : Int) (20 : Int)).bind fun n7 =>
     (apnd 8 ((l9).Widths) (([(w64 ((10 : Int) + n7))] : List Int))).bind fun eE =>
     some ({ l9 with Widths := eE })
     ) fun j9 =>
    vL (j9, (w64 (m7 + (1 : Int))))
    ) fun k82 =>
   (rem64 (((x0).Looms).toNat : Int) (3 : Int)).bind fun sE =>
   bif (decide (m7 ≤ sE)) then
    k82 ()
   else
    some (l9)
   ) big ((⟨[], y5⟩ : LoomMill), (0 : Int))
  ) fun j3 =>
 Option.bind (α := (List LoomOrder) × (List LoomRun)) (
  lp (σ := (List LoomOrder) × (List LoomRun) × (Vector Int 3) × (Vector Int 3) × Int) (fun tE (x6, y6, u5, d7, u0) =>
   jn (σ := Unit) (fun (_ : Unit) =>
    Option.bind (α := (List LoomOrder) × (List LoomRun) × (Vector Int 3) × (Vector Int 3)) (
     (idx ((x0).Orders) u0).bind fun d3 =>
     (rem64 (((d3)[0]).toNat : Int) (((j3).Widths).length : Int)).bind fun z2 =>
     (idx ((j3).Widths) z2).bind fun nD =>
     (rem64 (((d3)[1]).toNat : Int) nD).bind fun l6 =>
     (rem64 (((d3)[2]).toNat : Int) (3 : Int)).bind fun t5 =>
     (rem64 (((d3)[3]).toNat : Int) (15 : Int)).bind fun u3 =>
     (idx (u5).toList z2).bind fun l8 =>
     (quo64 (((d3)[0]).toNat : Int) (3 : Int)).bind fun oD =>
     (rem64 oD (3 : Int)).bind fun m8 =>
     Option.bind (α := Int) (
      Option.bind (α := Bool) (
       (idx (d7).toList z2).bind fun e8 =>
       bif (decide (e8 ≥ (0 : Int))) then
        (idx (d7).toList z2).bind fun bA =>
        some ((bA != t5))
       else
        some (false)
       ) fun k8 =>
      bif k8 then
       some ((w64 ((w64 (l8 + m8)) + (j3).Change)))
      else
       some ((w64 (l8 + m8)))
      ) fun o0 =>
     (rem64 (((d3)[4]).toNat : Int) (9 : Int)).bind fun i8 =>
     (rem64 (((d3)[5]).toNat : Int) (9 : Int)).bind fun cA =>
     (apnd 40 x6 (([(⟨(w64 ((1 : Int) + l6)), t5, (w64 ((1 : Int) + u3)), (max64 (0 : Int) (w64 (o0 - i8))), (w64 ((w64 (o0 + (w64 ((1 : Int) + u3)))) + cA))⟩ : LoomOrder)] : List LoomOrder))).bind fun uE =>
     (f46 u0 z2 o0).bind fun pD =>
     (apnd 24 y6 (([pD] : List LoomRun))).bind fun vE =>
     (idx (u5).toList z2).bind fun gJ =>
     (idx (d7).toList z2).bind fun iJ =>
     some (uE, vE, (vset u5 z2 ((w64 (o0 + (w64 ((1 : Int) + u3)))))), (vset d7 z2 t5))
     ) fun (x8, y8, n9, z8) =>
    tE (x8, y8, n9, z8, (w64 (u0 + (1 : Int))))
    ) fun xE =>
   Option.bind (α := Bool) (
    bif (decide (u0 < (((x0).Orders).length : Int))) then
     some ((decide (u0 < (7 : Int))))
    else
     some (false)
    ) fun o8 =>
   bif o8 then
    xE ()
   else
    some (x6, y6)
   ) big (([] : List LoomOrder), ([] : List LoomRun), (⟨List.toArray [0, 0, 0], rfl⟩ : Vector Int 3), (⟨List.toArray [(-1 : Int), (-1 : Int), (-1 : Int)], rfl⟩ : Vector Int 3), (0 : Int))
  ) fun (o9, p9) =>
 some (j3, o9, p9)
theorem en39 : Enters Try.prog 39 := enters_of Try.func39 (by kernel_rfl) rfl
theorem wk39 {gI : Gh} {wI : World} {x0 : Hall} {up0 : Value} (rp0 : RV gI.m wI x0 up0) {r : LoomMill × (List LoomOrder) × (List LoomRun)} (h : f39 x0 = some r) : Fn Try.prog 39 #[up0] gI wI (fun m w v => ∃ y0 y1 y2, v = .tuple #[y0, y1, y2] ∧ RV m w (r.1) y0 ∧ RV m w (r.2.1) y1 ∧ RV m w (r.2.2) y2) := by
 unfold f39 at h
 refine fn_of_E Try.func39 rfl (Nat.le_of_ble_eq_true rfl) fun g0 hm hfr => ?_
 have rp0 : RV g0.m wI x0 up0 := hm ▸ rp0
 show E _ 155 none _ _ _ _ _
 refine E_seq (E_region (EL_do .plain rfl (D_box (g := g0) rfl rp0 fun g1 w1 p1 hs q1 => ?_)))
 have hfr := hfr.ext hs
 refine EL_do .plain rfl (D_allocOc (g := g1) 2002 (⟨[], 0⟩ : LoomMill) Try.zeroValue24 (fun m w => ⟨_, (rep_two rep_nil rep_int), rfl⟩) fun g2 w2 p2 hs b2 cb => ?_)
 have hfr := hfr.stp hs
 have q1 := q1.stp hs
 have sA : OSF 2002 60200 0 g2 w2 3 24 ([] : List Int) p2 := cb.osf (by rfl)
 clear cb
 refine EL_at (.slice none 0 0) rfl rfl ?_
 refine EL_at (.slice none 0 0) rfl rfl ?_
 refine EL_nil (thn_n (E_seq (E_region (EL_pur (v := fPtr p1 4) (P_fieldAddr at_71_2 rfl (PT.ptr q1)) .plain rfl ?_))))
 have q3 := PT_field (part_Hall_2).1 q1
 refine EL_do .plain rfl (D_load (g := g2) Try.isAgg5 Try.sizeOf5 rfl q3 fun v4 r4 => ?_)
 obtain rfl := RV_u8.1 r4
 refine EL_pur (v := .int .i64 ((((x0).Change).toNat : Int))) (P_u8int Try.underlying5 Try.underlying3 rfl) .plain rfl ?_
 obtain ⟨y5, hy5, h⟩ := bsome h
 refine EL_pur (v := .int .i64 (y5)) (P_int rfl rfl (congrArg (Option.map (Value.int .i64)) hy5)) .plain rfl ?_
 have r6 : RV g2.m w2 (⟨[], y5⟩ : LoomMill) (.agg (setCh [[.slice none 0 0], [.int .i64 0]] [(1, .int .i64 (y5))]).flatten.toArray) := RV_build rfl (rep_pair (rep_nil) (rep_last (rfl)))
 generalize xL : (Value.agg (setCh [[.slice none 0 0], [.int .i64 0]] [(1, .int .i64 (y5))]).flatten.toArray) = v6 at r6
 refine EL_pur (v := v6) (xL ▸ P_build (vs := [(1, .int .i64 (y5))]) [[.slice none 0 0], [.int .i64 0]] lay_24 rfl rfl (.cons rfl .nil) ⟨⟨_, rfl, rfl⟩, trivial⟩) .plain rfl ?_
 refine EL_do .plain rfl (D_allocOc (g := g2) 2005 (⟨[], 0⟩ : LoomMill) Try.zeroValue24 (fun m w => ⟨_, (rep_two rep_nil rep_int), rfl⟩) fun g7 w7 p7 hs b7 cb => ?_)
 have hfr := hfr.stp hs
 have q1 := q1.stp hs
 have sA := sA.stp hs rfl
 have b2 := b2.stp hs rfl
 have r6 := r6.stp hs
 have kP : OSF 2005 60500 0 g7 w7 3 24 ([] : List Int) p7 := cb.osf (by rfl)
 clear cb
 refine EL_do .plain rfl (D_storeOc (g := g7) (v := v6) Try.sizeOf24 rfl b7 rfl r6 fun g8 w8 hs b8 cb => ?_)
 have yL : OSF 2005 60500 0 g8 w8 3 24 ([] : List Int) p7 := cb.osf (by rw [← xL]; rfl)
 clear cb
 have hfr := hfr.stp hs
 have q1 := q1.stp hs
 have sA := sA.stp hs rfl
 have b2 := b2.stp hs rfl
 refine EL_nil (thn_n ?_)
 obtain ⟨j3, hx, h⟩ := bsome h
 refine E_join (fun e w => ∃ (g : Gh) , Fr gI wI g w ∧ e 1 = p1 ∧ PT g.m w (x0 : Hall) p1 ∧ e 2 = p2 ∧ OB 2002 g w 24 ((⟨[], 0⟩ : LoomMill) : LoomMill) p2 ∧ OSF 2002 60200 0 g w 3 24 (((⟨[], 0⟩ : LoomMill)).Widths) p2 ∧ e 5 = p7 ∧ OB 2005 g w 24 (j3 : LoomMill) p7 ∧ OSF 2005 60500 0 g w 3 24 ((j3).Widths) p7) (fun Q' hQ => ?_) (fun jN lP hR => ?_)
 ·replace h := hx
  clear hx
  refine E_seq (E_region (EL_at (.int .i64 (0)) rfl rfl ?_))
  refine EL_nil (thn_n (E_block ?_))
  refine E_lp h (fun (s : LoomMill × Int) e w => ∃ (g : Gh) , Fr gI wI g w ∧ e 1 = p1 ∧ PT g.m w (x0 : Hall) p1 ∧ e 2 = p2 ∧ OB 2002 g w 24 ((⟨[], 0⟩ : LoomMill) : LoomMill) p2 ∧ OSF 2002 60200 0 g w 3 24 (((⟨[], 0⟩ : LoomMill)).Widths) p2 ∧ e 5 = p7 ∧ OB 2005 g w 24 (s.1 : LoomMill) p7 ∧ OSF 2005 60500 0 g w 3 24 ((s.1).Widths) p7 ∧ e 6 = .int .i64 (s.2)) ⟨g8, hfr, rfl, q1, rfl, b2, sA, rfl, b8, yL, rfl⟩ (fun X76 vL zL => ?_)
  rintro ⟨l9, m7⟩ mP bQ ⟨bH, hfr, qD, pA, yE, zE, u2_0_77, cF, dF, u5_0_77, eF⟩ h
  refine E_joinC h (fun (s : Unit) e w => ∃ (g : Gh) , Fr gI wI g w ∧ e 1 = p1 ∧ PT g.m w (x0 : Hall) p1 ∧ e 2 = p2 ∧ OB 2002 g w 24 ((⟨[], 0⟩ : LoomMill) : LoomMill) p2 ∧ OSF 2002 60200 0 g w 3 24 (((⟨[], 0⟩ : LoomMill)).Widths) p2 ∧ e 5 = p7 ∧ OB 2005 g w 24 (l9 : LoomMill) p7 ∧ OSF 2005 60500 0 g w 3 24 ((l9).Widths) p7 ∧ e 6 = .int .i64 (m7)) (fun X82 k82 aM h => ?_) ?_
  ·refine E_seq (E_region (EL_mv eF rfl ?_))
   refine EL_pur (v := fPtr p1 3) (P_fieldAddr at_71_1 qD (PT.ptr pA)) .plain rfl ?_
   have vM := PT_field (part_Hall_1).1 pA
   refine EL_do .plain rfl (D_load (g := bH) Try.isAgg5 Try.sizeOf5 rfl vM fun cQ xM => ?_)
   obtain rfl := RV_u8.1 xM
   refine EL_pur (v := .int .i64 ((((x0).Looms).toNat : Int))) (P_u8int Try.underlying5 Try.underlying3 rfl) .plain rfl ?_
   obtain ⟨sE, bM, h⟩ := bsome h
   refine EL_pur (v := .int .i64 (sE)) (P_int rfl rfl (congrArg (Option.map (Value.int .i64)) bM)) .plain rfl ?_
   refine EL_in (.bool ((decide (m7 ≤ sE)))) rfl rfl rfl rfl ?_
   refine EL_nil (thn_n ?_)
   rcases csome h with ⟨gE, h⟩ | ⟨gE, h⟩
   ·refine E_ct gE rfl ?_
    exact E_skip (thn_n (aM () _ _ ⟨bH, hfr, qD, pA, yE, zE, u2_0_77, cF, dF, u5_0_77, eF⟩ h))
   ·refine E_cf gE rfl ?_
    refine E_exit ?_
    refine thn_e ?_
    refine thn_e ?_
    refine blk_hit ?_
    obtain rfl := sinj h
    exact hQ _ _ ⟨bH, hfr, qD, pA, yE, zE, u2_0_77, cF, dF, u5_0_77⟩
  ·rintro _ nP dQ ⟨yM, hfr, gF, n8, jJ, a9, u2_0_87, rD, t8, u5_0_87, iF⟩ h
   obtain ⟨j9, hx, h⟩ := bsome h
   refine E_join (fun e w => ∃ (g : Gh) , Fr gI wI g w ∧ e 1 = p1 ∧ PT g.m w (x0 : Hall) p1 ∧ e 2 = p2 ∧ OB 2002 g w 24 ((⟨[], 0⟩ : LoomMill) : LoomMill) p2 ∧ OSF 2002 60200 0 g w 3 24 (((⟨[], 0⟩ : LoomMill)).Widths) p2 ∧ e 5 = p7 ∧ OB 2005 g w 24 (j9 : LoomMill) p7 ∧ OSF 2005 60500 0 g w 3 24 ((j9).Widths) p7 ∧ e 6 = .int .i64 (m7)) (fun Q' hQ => ?_) (fun kN oP hR => ?_)
   ·replace h := hx
    clear hx
    refine E_block ?_
    refine L_loadFS (x := .tmp 29) part_LoomMill_0.1 Try.isAgg22 Try.sizeOf22 t8 u5_0_87 fun cM iE o116 kJ => ?_
    have cH := PT_field (part_Hall_0).1 n8
    obtain ⟨mD, jF, h⟩ := bsome h
    have dM := PT_idxA cH jF
    refine L_load (x := .tmp 33) Try.isAgg5 Try.sizeOf5 dM fun pP eM lJ => ?_
    obtain rfl := RV_u8.1 eM
    obtain ⟨n7, mJ, h⟩ := bsome h
    refine E_drawL (g := yM) (n := 10) [(9, (fun v g w => RV g.m w ([(w64 ((10 : Int) + n7))] : List Int) v ∧ OS 3038 g w 3 ([(w64 ((10 : Int) + n7))] : List Int) v ∧ FullV v))] [0, 1, 2, 3, 4, 5, 6, 7, 8, 9] rfl mixed (by kernel_rfl) (⟨fun _ => up_and up_rv (up_and up_os (up_eq _)), trivial⟩) ?_
    refine L_pur (c := fPtr p7 0) rfl rfl .plain (fun _ _ hd => P_fieldAddr at_24_0 rD (OB.ptr t8)) ?_
    refine L_ld (c := cM) rfl rfl .plain (fun _ _ h => ⟨h.ch, fun b hb _ => h.below.block b hb⟩) kJ rfl ?_
    refine L_pur (c := .int .i64 (m7)) rfl rfl .plain (fun _ _ hd => P_move iF) ?_
    refine L_pur (c := fPtr p1 0) rfl rfl .plain (fun _ _ hd => P_fieldAddr at_71_0 gF (PT.ptr n8)) ?_
    refine L_pur (c := fPtr (fPtr p1 0) ((m7 : Int).toNat * 1)) rfl rfl .plain (fun _ _ hd => P_indexAddrA (α := UInt8) Try.underlying68 Try.sizeOf5 rfl (PT.ptr cH) rfl jF) ?_
    refine L_ld (c := .int .u8 (UInt8.toNat (mD))) rfl rfl .plain (fun _ _ h => h.ch) lJ rfl ?_
    refine L_pur (c := .int .i64 (((mD).toNat : Int))) rfl rfl .plain (fun _ _ hd => P_u8int Try.underlying5 Try.underlying3 rfl) ?_
    refine L_pur (c := .int .i64 (n7)) rfl rfl .plain (fun _ _ hd => P_int rfl rfl (congrArg (Option.map (Value.int .i64)) mJ)) ?_
    refine L_pur (c := .int .i64 ((w64 ((10 : Int) + n7)))) rfl rfl .plain (fun _ _ hd => P_int rfl rfl rfl) ?_
    refine L_do (φ := fun v g w => RV g.m w ([(w64 ((10 : Int) + n7))] : List Int) v ∧ OS 3038 g w 3 ([(w64 ((10 : Int) + n7))] : List Int) v ∧ FullV v) rfl rfl .plain (fun g w hd => D_buildSlice (g := g) 3038 (xs := ([(w64 ((10 : Int) + n7))] : List Int)) (vs := [.int .i64 ((w64 ((10 : Int) + n7)))]) Try.underlying22 Try.sizeOf3 Try.zeroValue3 rfl rfl (.cons rfl .nil) (RVs.cons (RV_int.2 rfl) RVs.nil) rfl rfl fun g' w' v hs o r hxt hfl => ⟨g', hxt, r, o, hfl⟩) (fun eA hv => ?_)
    clear hv
    refine L_nil fun gM qP hall => ?_
    have hs := hall.1
    have hfr := hfr.ext hs
    have n8 := n8.ext hs
    have u2_0_87 := u2_0_87.ext hs
    have a9 := a9.ext hs
    have t8 := t8.ext hs
    have iE := iE.ext hs
    have o116 := o116.ext hs
    have iM := (word_all (A := fun g w => RV g.m w ([(w64 ((10 : Int) + n7))] : List Int) eA ∧ OS 3038 g w 3 ([(w64 ((10 : Int) + n7))] : List Int) eA ∧ FullV eA) 9 rfl hall).1
    have o137 := (word_all (A := fun g w => RV g.m w ([(w64 ((10 : Int) + n7))] : List Int) eA ∧ OS 3038 g w 3 ([(w64 ((10 : Int) + n7))] : List Int) eA ∧ FullV eA) 9 rfl hall).2.1
    clear hs hall
    obtain ⟨eE, nJ, h⟩ := bsome h
    refine EL_do .plain rfl (D_append (g := gM) (i := 60500) Try.underlying22 info_3 rfl rfl o116 iE rfl iM nJ fun jM sP tP hs o138 dH _ => ?_)
    have hfr := hfr.stp hs
    have n8 := n8.stp hs
    have u2_0_87 := u2_0_87.stp hs rfl
    have a9 := a9.stp hs rfl
    have t8 := t8.stp hs rfl
    refine EL_pur (v := fPtr p7 0) (P_fieldAddr at_24_0 rD (OB.ptr t8)) .plain rfl ?_
    refine EL_do .plain rfl (D_storeFc (g := jM) part_LoomMill_0 Try.sizeOf22 rfl t8 rfl dH fun kM uP hs b141 rst hos => ?_)
    have gH := hos _ _ 60500 3 (eE : List Int) (rv_cells1 dH) rfl o138
    clear rst hos
    have hfr := hfr.stp hs
    have n8 := n8.stp hs
    have u2_0_87 := u2_0_87.stp hs rfl
    have a9 := a9.stp hs rfl
    refine EL_nil (blk_n ?_)
    obtain rfl := sinj h
    exact hQ _ _ ⟨kM, hfr, gF, n8, jJ, a9, u2_0_87, rD, b141, gH, iF⟩
   ·clear hx
    obtain ⟨mM, hfr, iH, jH, kH, lH, u2_0_142, mH, nH, u5_0_142, oH⟩ := hR
    refine E_region (EL_mv oH rfl ?_)
    refine EL_in (.int .i64 ((w64 (m7 + (1 : Int))))) rfl rfl rfl rfl ?_
    refine EL_at (.int .i64 ((w64 (m7 + (1 : Int))))) rfl rfl ?_
    exact EL_nil (thn_n (zL (j9, (w64 (m7 + (1 : Int)))) _ _ ⟨mM, hfr, iH, jH, kH, lH, u2_0_142, mH, nH, u5_0_142, rfl⟩ h))
 ·clear hx
  obtain ⟨nM, hfr, pH, z6, qH, a7, u2_0_143, sH, c7, u5_0_143⟩ := hR
  refine E_seq (E_region (EL_do .plain rfl (D_buildSlice (g := nM) 3041 (xs := ([] : List LoomOrder)) (vs := []) Try.underlying25 Try.sizeOf82 Try.zeroValue82 rfl rfl .nil RVs.nil rfl rfl fun oM vP tH hs o144 p8 hxt hfl => ?_)))
  have hfr := hfr.stp hs
  have z6 := z6.stp hs
  have u2_0_143 := u2_0_143.stp hs rfl
  have a7 := a7.stp hs rfl
  have u5_0_143 := u5_0_143.stp hs rfl
  have c7 := c7.stp hs rfl
  refine EL_do .plain rfl (D_buildSlice (g := oM) 3042 (xs := ([] : List LoomRun)) (vs := []) Try.underlying31 Try.sizeOf76 Try.zeroValue76 rfl rfl .nil RVs.nil rfl rfl fun jE uH vH hs o145 d9 hxt hfl => ?_)
  have hfr := hfr.stp hs
  have z6 := z6.stp hs
  have u2_0_143 := u2_0_143.stp hs rfl
  have a7 := a7.stp hs rfl
  have u5_0_143 := u5_0_143.stp hs rfl
  have c7 := c7.stp hs rfl
  have p8 := p8.stp hs
  have o144 := o144.stp hs rfl
  refine EL_at tH rfl rfl ?_
  refine EL_at vH rfl rfl ?_
  refine EL_nil (thn_n (E_seq (E_region ?_)))
  have gA : RV jE.m uH (⟨List.toArray [0, 0, 0], rfl⟩ : Vector Int 3) (.agg (setCh [[.int .i64 0], [.int .i64 0], [.int .i64 0]] []).flatten.toArray) := RV_build rfl (rep_vec (flat_chunk rep_int (flat_chunk rep_int (flat_chunk rep_int flat_nil))) rfl)
  generalize oJ : (Value.agg (setCh [[.int .i64 0], [.int .i64 0], [.int .i64 0]] []).flatten.toArray) = xH at gA
  refine EL_pur (v := xH) (oJ ▸ P_buildA (vs := []) [[.int .i64 0], [.int .i64 0], [.int .i64 0]] Try.underlying126 layA_126 szA_3 rfl (by simp) .nil trivial) .plain rfl ?_
  have k9 : RV jE.m uH (⟨List.toArray [(-1 : Int), (-1 : Int), (-1 : Int)], rfl⟩ : Vector Int 3) (.agg (setCh [[.int .i64 0], [.int .i64 0], [.int .i64 0]] [(0, .int .i64 (-1)), (1, .int .i64 (-1)), (2, .int .i64 (-1))]).flatten.toArray) := RV_build rfl (rep_vec (flat_chunk rfl (flat_chunk rfl (flat_chunk rfl flat_nil))) rfl)
  generalize pJ : (Value.agg (setCh [[.int .i64 0], [.int .i64 0], [.int .i64 0]] [(0, .int .i64 (-1)), (1, .int .i64 (-1)), (2, .int .i64 (-1))]).flatten.toArray) = yH at k9
  refine EL_pur (v := yH) (pJ ▸ P_buildA (vs := [(0, .int .i64 (-1)), (1, .int .i64 (-1)), (2, .int .i64 (-1))]) [[.int .i64 0], [.int .i64 0], [.int .i64 0]] Try.underlying126 layA_126 szA_3 rfl (by simp) (.cons rfl (.cons rfl (.cons rfl .nil))) ⟨⟨_, rfl, rfl⟩, ⟨⟨_, rfl, rfl⟩, ⟨⟨_, rfl, rfl⟩, trivial⟩⟩⟩) .plain rfl ?_
  refine EL_do .plain rfl (D_allocOc (g := jE) 2009 ((⟨List.toArray [0, 0, 0], rfl⟩ : Vector Int 3) : Vector Int 3) Try.zeroValue126 (fun m w => ⟨_, (rep_vec (flat_chunk rep_int (flat_chunk rep_int (flat_chunk rep_int flat_nil))) rfl), rfl⟩) fun pM xP i7 hs b148 cb => ?_)
  have hfr := hfr.stp hs
  have z6 := z6.stp hs
  have u2_0_143 := u2_0_143.stp hs rfl
  have a7 := a7.stp hs rfl
  have u5_0_143 := u5_0_143.stp hs rfl
  have c7 := c7.stp hs rfl
  have p8 := p8.stp hs
  have o144 := o144.stp hs rfl
  have d9 := d9.stp hs
  have o145 := o145.stp hs rfl
  have gA := gA.stp hs
  have k9 := k9.stp hs
  clear cb
  refine EL_do .plain rfl (D_allocOc (g := pM) 2010 ((⟨List.toArray [0, 0, 0], rfl⟩ : Vector Int 3) : Vector Int 3) Try.zeroValue126 (fun m w => ⟨_, (rep_vec (flat_chunk rep_int (flat_chunk rep_int (flat_chunk rep_int flat_nil))) rfl), rfl⟩) fun qM yP j7 hs b149 cb => ?_)
  have hfr := hfr.stp hs
  have z6 := z6.stp hs
  have u2_0_143 := u2_0_143.stp hs rfl
  have a7 := a7.stp hs rfl
  have u5_0_143 := u5_0_143.stp hs rfl
  have c7 := c7.stp hs rfl
  have p8 := p8.stp hs
  have o144 := o144.stp hs rfl
  have d9 := d9.stp hs
  have o145 := o145.stp hs rfl
  have gA := gA.stp hs
  have k9 := k9.stp hs
  have b148 := b148.stp hs rfl
  clear cb
  refine EL_do .plain rfl (D_storeOc (g := qM) (v := xH) Try.sizeOf126 rfl b148 rfl gA fun rM zP hs b150 cb => ?_)
  clear cb
  have hfr := hfr.stp hs
  have z6 := z6.stp hs
  have u2_0_143 := u2_0_143.stp hs rfl
  have a7 := a7.stp hs rfl
  have u5_0_143 := u5_0_143.stp hs rfl
  have c7 := c7.stp hs rfl
  have p8 := p8.stp hs
  have o144 := o144.stp hs rfl
  have d9 := d9.stp hs
  have o145 := o145.stp hs rfl
  have k9 := k9.stp hs
  have b149 := b149.stp hs rfl
  refine EL_do .plain rfl (D_storeOc (g := rM) (v := yH) Try.sizeOf126 rfl b149 rfl k9 fun sM aQ hs b151 cb => ?_)
  clear cb
  have hfr := hfr.stp hs
  have z6 := z6.stp hs
  have u2_0_143 := u2_0_143.stp hs rfl
  have a7 := a7.stp hs rfl
  have u5_0_143 := u5_0_143.stp hs rfl
  have c7 := c7.stp hs rfl
  have p8 := p8.stp hs
  have o144 := o144.stp hs rfl
  have d9 := d9.stp hs
  have o145 := o145.stp hs rfl
  have b150 := b150.stp hs rfl
  refine EL_nil (thn_n ?_)
  obtain ⟨⟨o9, p9⟩, hx, h⟩ := bsome h
  refine E_join (fun e w => ∃ (g : Gh) (v7 v8 : Value), Fr gI wI g w ∧ e 2 = p2 ∧ OB 2002 g w 24 ((⟨[], 0⟩ : LoomMill) : LoomMill) p2 ∧ OSF 2002 60200 0 g w 3 24 (((⟨[], 0⟩ : LoomMill)).Widths) p2 ∧ e 5 = p7 ∧ OB 2005 g w 24 (j3 : LoomMill) p7 ∧ OSF 2005 60500 0 g w 3 24 ((j3).Widths) p7 ∧ e 7 = v7 ∧ RV g.m w (o9 : List LoomOrder) v7 ∧ OS 3041 g w 82 (o9 : List LoomOrder) v7 ∧ e 8 = v8 ∧ RV g.m w (p9 : List LoomRun) v8 ∧ OS 3042 g w 76 (p9 : List LoomRun) v8) (fun Q' hQ => ?_) (fun zM lN hR => ?_)
  ·replace h := hx
   clear hx
   refine E_seq (E_region (EL_at (.int .i64 (0)) rfl rfl ?_))
   refine EL_nil (thn_n (E_block ?_))
   refine E_lp h (fun (s : (List LoomOrder) × (List LoomRun) × (Vector Int 3) × (Vector Int 3) × Int) e w => ∃ (g : Gh) (v7 v8 : Value), Fr gI wI g w ∧ e 1 = p1 ∧ PT g.m w (x0 : Hall) p1 ∧ e 2 = p2 ∧ OB 2002 g w 24 ((⟨[], 0⟩ : LoomMill) : LoomMill) p2 ∧ OSF 2002 60200 0 g w 3 24 (((⟨[], 0⟩ : LoomMill)).Widths) p2 ∧ e 5 = p7 ∧ OB 2005 g w 24 (j3 : LoomMill) p7 ∧ OSF 2005 60500 0 g w 3 24 ((j3).Widths) p7 ∧ e 7 = v7 ∧ RV g.m w (s.1 : List LoomOrder) v7 ∧ OS 3041 g w 82 (s.1 : List LoomOrder) v7 ∧ e 8 = v8 ∧ RV g.m w (s.2.1 : List LoomRun) v8 ∧ OS 3042 g w 76 (s.2.1 : List LoomRun) v8 ∧ e 9 = i7 ∧ OB 2009 g w 126 (s.2.2.1 : Vector Int 3) i7 ∧ e 10 = j7 ∧ OB 2010 g w 126 (s.2.2.2.1 : Vector Int 3) j7 ∧ e 11 = .int .i64 (s.2.2.2.2)) ⟨sM, (tH), (vH), hfr, pH, z6, qH, a7, u2_0_143, sH, c7, u5_0_143, rfl, p8, o144, rfl, d9, o145, rfl, b150, rfl, b151, rfl⟩ (fun X1819 tE zH => ?_)
   rintro ⟨x6, y6, u5, d7, u0⟩ aN mN ⟨sD, x5, c6, hfr, iA, q9, pB, qB, u2_0_1820, rB, sB, u5_0_1820, tB, uB, vB, xB, yB, zB, aC, bC, tA, uA, e9⟩ h
   refine E_joinC h (fun (s : Unit) e w => ∃ (g : Gh) , Fr gI wI g w ∧ e 1 = p1 ∧ PT g.m w (x0 : Hall) p1 ∧ e 2 = p2 ∧ OB 2002 g w 24 ((⟨[], 0⟩ : LoomMill) : LoomMill) p2 ∧ OSF 2002 60200 0 g w 3 24 (((⟨[], 0⟩ : LoomMill)).Widths) p2 ∧ e 5 = p7 ∧ OB 2005 g w 24 (j3 : LoomMill) p7 ∧ OSF 2005 60500 0 g w 3 24 ((j3).Widths) p7 ∧ e 7 = x5 ∧ RV g.m w (x6 : List LoomOrder) x5 ∧ OS 3041 g w 82 (x6 : List LoomOrder) x5 ∧ e 8 = c6 ∧ RV g.m w (y6 : List LoomRun) c6 ∧ OS 3042 g w 76 (y6 : List LoomRun) c6 ∧ e 9 = i7 ∧ OB 2009 g w 126 (u5 : Vector Int 3) i7 ∧ e 10 = j7 ∧ OB 2010 g w 126 (d7 : Vector Int 3) j7 ∧ e 11 = .int .i64 (u0)) (fun X1829 xE aI h => ?_) ?_
   ·obtain ⟨o8, hx, h⟩ := bsome h
    refine E_join (fun e w => ∃ (g : Gh) , Fr gI wI g w ∧ e 1 = p1 ∧ PT g.m w (x0 : Hall) p1 ∧ e 2 = p2 ∧ OB 2002 g w 24 ((⟨[], 0⟩ : LoomMill) : LoomMill) p2 ∧ OSF 2002 60200 0 g w 3 24 (((⟨[], 0⟩ : LoomMill)).Widths) p2 ∧ e 5 = p7 ∧ OB 2005 g w 24 (j3 : LoomMill) p7 ∧ OSF 2005 60500 0 g w 3 24 ((j3).Widths) p7 ∧ e 7 = x5 ∧ RV g.m w (x6 : List LoomOrder) x5 ∧ OS 3041 g w 82 (x6 : List LoomOrder) x5 ∧ e 8 = c6 ∧ RV g.m w (y6 : List LoomRun) c6 ∧ OS 3042 g w 76 (y6 : List LoomRun) c6 ∧ e 9 = i7 ∧ OB 2009 g w 126 (u5 : Vector Int 3) i7 ∧ e 10 = j7 ∧ OB 2010 g w 126 (d7 : Vector Int 3) j7 ∧ e 11 = .int .i64 (u0) ∧ e 53 = .bool (o8)) (fun Q' hQ => ?_) (fun bN nN hR => ?_)
    ·replace h := hx
     clear hx
     refine E_region (EL_mv e9 rfl ?_)
     refine EL_pur (v := fPtr p1 5) (P_fieldAddr at_71_3 iA (PT.ptr q9)) .plain rfl ?_
     have qJ := PT_field (part_Hall_3).1 q9
     refine EL_do .plain rfl (D_load (g := sD) Try.isAgg69 Try.sizeOf69 rfl qJ fun oN rJ => ?_)
     refine EL_pur (v := .int .i64 (((x0).Orders).length : Int)) (P_len Try.underlying69 rfl rJ) .plain rfl ?_
     refine EL_pur (v := .bool ((decide (u0 < (((x0).Orders).length : Int))))) (P_int rfl rfl rfl) .plain rfl ?_
     refine EL_pur (v := .bool ((decide (u0 < (((x0).Orders).length : Int))))) (P_move rfl) .plain rfl ?_
     rcases csome h with ⟨q8, h⟩ | ⟨q8, h⟩
     ·refine EL_pur (v := .int .i64 (u0)) (P_move e9) (.yes2 rfl rfl q8) rfl ?_
      refine EL_pur (v := .bool ((decide (u0 < (7 : Int))))) (P_int rfl rfl rfl) (.yes2 rfl rfl q8) rfl ?_
      refine EL_pur (v := .bool ((decide (u0 < (7 : Int))))) (P_pick (b := (decide (u0 < (((x0).Orders).length : Int)))) rfl (pick_t q8 rfl)) .plain rfl ?_
      refine EL_nil ?_
      obtain rfl := sinj h
      exact hQ _ _ ⟨sD, hfr, iA, q9, pB, qB, u2_0_1820, rB, sB, u5_0_1820, tB, uB, vB, xB, yB, zB, aC, bC, tA, uA, e9, rfl⟩
     ·refine EL_skip (.no2 rfl rfl q8 rfl) rfl ?_
      refine EL_skip (.no2 rfl rfl q8 rfl) rfl ?_
      refine EL_pur (v := .bool false) (P_pick (b := (decide (u0 < (((x0).Orders).length : Int)))) rfl (pick_f q8 rfl)) .plain rfl ?_
      refine EL_nil ?_
      obtain rfl := sinj h
      exact hQ _ _ ⟨sD, hfr, iA, q9, pB, qB, u2_0_1820, rB, sB, u5_0_1820, tB, uB, vB, xB, yB, zB, aC, bC, tA, uA, e9, rfl⟩
    ·clear hx
     obtain ⟨kF, hfr, uF, vF, cC, dC, u2_0_1836, eC, iC, u5_0_1836, jC, kC, lC, mC, nC, oC, xF, yF, kE, lE, mE, vA⟩ := hR
     rcases csome h with ⟨xA, h⟩ | ⟨xA, h⟩
     ·refine E_cond_true (Eq.trans (show ev _ _ = .bool (o8) from vA) (congrArg Value.bool xA)) ?_
      exact E_skip (thn_n (aI () _ _ ⟨kF, hfr, uF, vF, cC, dC, u2_0_1836, eC, iC, u5_0_1836, jC, kC, lC, mC, nC, oC, xF, yF, kE, lE, mE⟩ h))
     ·refine E_cond_false (Eq.trans (show ev _ _ = .bool (o8) from vA) (congrArg Value.bool xA)) ?_
      refine E_exit ?_
      refine thn_e ?_
      refine thn_e ?_
      refine blk_hit ?_
      obtain ⟨rfl, rfl⟩ := pairs2 h
      exact hQ _ _ ⟨kF, (x5), (c6), hfr, cC, dC, u2_0_1836, eC, iC, u5_0_1836, jC, kC, lC, mC, nC, oC⟩
   ·rintro _ cN pN ⟨tD, hfr, jA, p4, qC, d5, u2_0_1838, r9, o3, u5_0_1838, rC, i5, l5, sC, o5, p5, kA, z4, r8, j1, u9⟩ h
    obtain ⟨⟨x8, y8, n9, z8⟩, hx, h⟩ := bsome h
    refine E_join (fun e w => ∃ (g : Gh) (v7 v8 : Value), Fr gI wI g w ∧ e 1 = p1 ∧ PT g.m w (x0 : Hall) p1 ∧ e 2 = p2 ∧ OB 2002 g w 24 ((⟨[], 0⟩ : LoomMill) : LoomMill) p2 ∧ OSF 2002 60200 0 g w 3 24 (((⟨[], 0⟩ : LoomMill)).Widths) p2 ∧ e 5 = p7 ∧ OB 2005 g w 24 (j3 : LoomMill) p7 ∧ OSF 2005 60500 0 g w 3 24 ((j3).Widths) p7 ∧ e 7 = v7 ∧ RV g.m w (x8 : List LoomOrder) v7 ∧ OS 3041 g w 82 (x8 : List LoomOrder) v7 ∧ e 8 = v8 ∧ RV g.m w (y8 : List LoomRun) v8 ∧ OS 3042 g w 76 (y8 : List LoomRun) v8 ∧ e 9 = i7 ∧ OB 2009 g w 126 (n9 : Vector Int 3) i7 ∧ e 10 = j7 ∧ OB 2010 g w 126 (z8 : Vector Int 3) j7 ∧ e 11 = .int .i64 (u0)) (fun Q' hQ => ?_) (fun dN qN hR => ?_)
    ·replace h := hx
     clear hx
     refine E_block ?_
     refine E_seq (E_region (EL_pur (v := fPtr p1 5) (P_fieldAddr at_71_3 jA (PT.ptr p4)) .plain rfl ?_))
     have sJ := PT_field (part_Hall_3).1 p4
     refine EL_do .plain rfl (D_load (g := tD) Try.isAgg69 Try.sizeOf69 rfl sJ fun tJ lF => ?_)
     refine EL_mv u9 rfl ?_
     obtain ⟨d3, xD, h⟩ := bsome h
     refine EL_pur (v := ePtr tJ u0 6) (P_indexAddr (α := Vector UInt8 6) Try.underlying69 Try.sizeOf127 rfl lF rfl xD) .plain rfl ?_
     have uJ := PT_idx lF xD
     refine EL_do .plain rfl (D_load (g := tD) Try.isAgg127 Try.sizeOf127 rfl uJ fun vJ uD => ?_)
     refine EL_do .plain rfl (D_allocOc (g := tD) 2012 ((⟨List.toArray [0, 0, 0, 0, 0, 0], rfl⟩ : Vector UInt8 6) : Vector UInt8 6) Try.zeroValue127 (fun m w => ⟨_, (rep_vec (flat_chunk rep_u8 (flat_chunk rep_u8 (flat_chunk rep_u8 (flat_chunk rep_u8 (flat_chunk rep_u8 (flat_chunk rep_u8 flat_nil)))))) rfl), rfl⟩) fun xJ rN o7 hs b2667 cb => ?_)
     have hfr := hfr.stp hs
     have p4 := p4.stp hs
     have u2_0_1838 := u2_0_1838.stp hs rfl
     have d5 := d5.stp hs rfl
     have u5_0_1838 := u5_0_1838.stp hs rfl
     have o3 := o3.stp hs rfl
     have i5 := i5.stp hs
     have l5 := l5.stp hs rfl
     have o5 := o5.stp hs
     have p5 := p5.stp hs rfl
     have z4 := z4.stp hs rfl
     have j1 := j1.stp hs rfl
     have uD := uD.stp hs
     clear cb
     refine EL_do .plain rfl (D_storeOc (g := xJ) (v := vJ) Try.sizeOf127 rfl b2667 rfl uD fun qA yJ hs b2668 cb => ?_)
     clear cb
     have hfr := hfr.stp hs
     have p4 := p4.stp hs
     have u2_0_1838 := u2_0_1838.stp hs rfl
     have d5 := d5.stp hs rfl
     have u5_0_1838 := u5_0_1838.stp hs rfl
     have o3 := o3.stp hs rfl
     have i5 := i5.stp hs
     have l5 := l5.stp hs rfl
     have o5 := o5.stp hs
     have p5 := p5.stp hs rfl
     have z4 := z4.stp hs rfl
     have j1 := j1.stp hs rfl
     refine EL_nil (thn_n (E_seq (E_region (EL_pur (v := fPtr o7 0) (P_indexAddrA (α := UInt8) (i := (0 : Int)) Try.underlying127 Try.sizeOf5 rfl (OB.ptr b2668) rfl (idx_vec (v := d3) (i := 0) (by decide))) .plain rfl ?_))))
     refine EL_do .plain rfl (D_loadF (g := qA) (SubS.vec (β := UInt8) (n := 6) (i := 0) (by decide)).1 Try.isAgg5 Try.sizeOf5 rfl b2668 fun sN zJ => ?_)
     obtain rfl := RV_u8.1 zJ
     refine EL_pur (v := .int .i64 ((((d3)[0]).toNat : Int))) (P_u8int Try.underlying5 Try.underlying3 rfl) .plain rfl ?_
     refine EL_pur (v := fPtr p7 0) (P_fieldAddr at_24_0 r9 (OB.ptr o3)) .plain rfl ?_
     refine EL_do .plain rfl (D_loadFS (g := qA) part_LoomMill_0.1 Try.isAgg22 Try.sizeOf22 rfl o3 u5_0_1838 fun tN aK o2671 => ?_)
     refine EL_pur (v := .int .i64 (((j3).Widths).length : Int)) (P_len Try.underlying22 rfl aK) .plain rfl ?_
     obtain ⟨z2, bI, h⟩ := bsome h
     refine EL_pur (v := .int .i64 (z2)) (P_int rfl rfl (congrArg (Option.map (Value.int .i64)) bI)) .plain rfl ?_
     refine EL_at (.int .i64 (z2)) rfl rfl ?_
     refine EL_nil (thn_n (E_seq (L_loadO (x := .tmp 68) (SubS.vec (β := UInt8) (n := 6) (i := 1) (by decide)).1 Try.isAgg5 Try.sizeOf5 b2668 fun uN bK cI => ?_)))
     obtain rfl := RV_u8.1 bK
     refine L_loadFS (x := .tmp 71) part_LoomMill_0.1 Try.isAgg22 Try.sizeOf22 o3 u5_0_1838 fun mF nF o2675 dI => ?_
     obtain ⟨nD, yD, h⟩ := bsome h
     have cK := PT_idx nF yD
     refine L_load (x := .tmp 74) Try.isAgg3 Try.sizeOf3 cK fun vN dK eI => ?_
     obtain rfl := RV_int.1 dK
     obtain ⟨l6, iI, h⟩ := bsome h
     refine L_loadO (x := .tmp 78) (SubS.vec (β := UInt8) (n := 6) (i := 2) (by decide)).1 Try.isAgg5 Try.sizeOf5 b2668 fun xN eK jI => ?_
     obtain rfl := RV_u8.1 eK
     obtain ⟨t5, kI, h⟩ := bsome h
     refine L_loadO (x := .tmp 82) (SubS.vec (β := UInt8) (n := 6) (i := 3) (by decide)).1 Try.isAgg5 Try.sizeOf5 b2668 fun yN lK lI => ?_
     obtain rfl := RV_u8.1 lK
     obtain ⟨u3, mI, h⟩ := bsome h
     have rA : RV qA.m yJ (⟨(w64 ((1 : Int) + l6)), t5, (w64 ((1 : Int) + u3)), 0, 0⟩ : LoomOrder) (.agg (setCh [[.int .i64 0], [.int .i64 0], [.int .i64 0], [.int .i64 0], [.int .i64 0]] [(0, .int .i64 ((w64 ((1 : Int) + l6)))), (1, .int .i64 (t5)), (2, .int .i64 ((w64 ((1 : Int) + u3))))]).flatten.toArray) := RV_build rfl (rep_pair (rfl) (rep_pair (rfl) (rep_pair (rfl) (rep_pair (rep_int) (rep_last (rep_int))))))
     generalize nI : (Value.agg (setCh [[.int .i64 0], [.int .i64 0], [.int .i64 0], [.int .i64 0], [.int .i64 0]] [(0, .int .i64 ((w64 ((1 : Int) + l6)))), (1, .int .i64 (t5)), (2, .int .i64 ((w64 ((1 : Int) + u3))))]).flatten.toArray) = oF at rA
     refine E_drawL (g := qA) (n := 21) [(20, (fun v g w => OB 2014 g w 82 (⟨0, 0, 0, 0, 0⟩ : LoomOrder) v))] [0, 1, 2, 3, 4, 5, 6, 7, 8, 9, 10, 11, 12, 13, 14, 15, 16, 17, 18, 19, 20] rfl mixed (by kernel_rfl) (⟨fun _ => up_ob, trivial⟩) ?_
     refine L_pur (c := fPtr o7 1) rfl rfl .plain (fun _ _ hd => P_indexAddrA (α := UInt8) (i := (1 : Int)) Try.underlying127 Try.sizeOf5 rfl (OB.ptr b2668) rfl (idx_vec (v := d3) (i := 1) (by decide))) ?_
     refine L_ld (c := .int .u8 (UInt8.toNat ((d3)[1]))) rfl rfl .plain (fun _ _ h => ⟨h.ch, fun b hb _ => h.below.block b hb⟩) cI rfl ?_
     refine L_pur (c := .int .i64 ((((d3)[1]).toNat : Int))) rfl rfl .plain (fun _ _ hd => P_u8int Try.underlying5 Try.underlying3 rfl) ?_
     refine L_pur (c := fPtr p7 0) rfl rfl .plain (fun _ _ hd => P_fieldAddr at_24_0 r9 (OB.ptr o3)) ?_
     refine L_ld (c := mF) rfl rfl .plain (fun _ _ h => ⟨h.ch, fun b hb _ => h.below.block b hb⟩) dI rfl ?_
     refine L_pur (c := .int .i64 (z2)) rfl rfl .plain (fun _ _ hd => P_move rfl) ?_
     refine L_pur (c := ePtr mF z2 1) rfl rfl .plain (fun _ _ hd => P_indexAddr (α := Int) Try.underlying22 Try.sizeOf3 rfl nF rfl yD) ?_
     refine L_ld (c := .int .i64 (nD)) rfl rfl .plain (fun _ _ h => h.ch) eI rfl ?_
     refine L_pur (c := .int .i64 (l6)) rfl rfl .plain (fun _ _ hd => P_int rfl rfl (congrArg (Option.map (Value.int .i64)) iI)) ?_
     refine L_pur (c := .int .i64 ((w64 ((1 : Int) + l6)))) rfl rfl .plain (fun _ _ hd => P_int rfl rfl rfl) ?_
     refine L_pur (c := fPtr o7 2) rfl rfl .plain (fun _ _ hd => P_indexAddrA (α := UInt8) (i := (2 : Int)) Try.underlying127 Try.sizeOf5 rfl (OB.ptr b2668) rfl (idx_vec (v := d3) (i := 2) (by decide))) ?_
     refine L_ld (c := .int .u8 (UInt8.toNat ((d3)[2]))) rfl rfl .plain (fun _ _ h => ⟨h.ch, fun b hb _ => h.below.block b hb⟩) jI rfl ?_
     refine L_pur (c := .int .i64 ((((d3)[2]).toNat : Int))) rfl rfl .plain (fun _ _ hd => P_u8int Try.underlying5 Try.underlying3 rfl) ?_
     refine L_pur (c := .int .i64 (t5)) rfl rfl .plain (fun _ _ hd => P_int rfl rfl (congrArg (Option.map (Value.int .i64)) kI)) ?_
     refine L_pur (c := fPtr o7 3) rfl rfl .plain (fun _ _ hd => P_indexAddrA (α := UInt8) (i := (3 : Int)) Try.underlying127 Try.sizeOf5 rfl (OB.ptr b2668) rfl (idx_vec (v := d3) (i := 3) (by decide))) ?_
     refine L_ld (c := .int .u8 (UInt8.toNat ((d3)[3]))) rfl rfl .plain (fun _ _ h => ⟨h.ch, fun b hb _ => h.below.block b hb⟩) lI rfl ?_
     refine L_pur (c := .int .i64 ((((d3)[3]).toNat : Int))) rfl rfl .plain (fun _ _ hd => P_u8int Try.underlying5 Try.underlying3 rfl) ?_
     refine L_pur (c := .int .i64 (u3)) rfl rfl .plain (fun _ _ hd => P_int rfl rfl (congrArg (Option.map (Value.int .i64)) mI)) ?_
     refine L_pur (c := .int .i64 ((w64 ((1 : Int) + u3)))) rfl rfl .plain (fun _ _ hd => P_int rfl rfl rfl) ?_
     refine L_pur (c := oF) rfl rfl .plain (fun _ _ hd => nI ▸ P_build (vs := [(0, .int .i64 ((w64 ((1 : Int) + l6)))), (1, .int .i64 (t5)), (2, .int .i64 ((w64 ((1 : Int) + u3))))]) [[.int .i64 0], [.int .i64 0], [.int .i64 0], [.int .i64 0], [.int .i64 0]] lay_82 rfl rfl (.cons rfl (.cons rfl (.cons rfl .nil))) ⟨⟨_, rfl, rfl⟩, ⟨⟨_, rfl, rfl⟩, ⟨⟨_, rfl, rfl⟩, trivial⟩⟩⟩) ?_
     refine L_do (φ := fun v g w => OB 2014 g w 82 (⟨0, 0, 0, 0, 0⟩ : LoomOrder) v) rfl rfl .plain (fun g w hd => D_allocX (g := g) 2014 (⟨0, 0, 0, 0, 0⟩ : LoomOrder) Try.zeroValue82 (fun m w => ⟨_, (rep_two rep_int (rep_two rep_int (rep_two rep_int (rep_two rep_int rep_int)))), rfl⟩) fun g' w' v hs b => ⟨g', hs, b⟩) (fun e7 hv => ?_)
     clear hv
     refine L_nil fun mK zN hall => ?_
     have hs := hall.1
     have hfr := hfr.ext hs
     have p4 := p4.ext hs
     have u2_0_1838 := u2_0_1838.ext hs
     have d5 := d5.ext hs
     have u5_0_1838 := u5_0_1838.ext hs
     have o3 := o3.ext hs
     have i5 := i5.ext hs
     have l5 := l5.ext hs
     have o5 := o5.ext hs
     have p5 := p5.ext hs
     have z4 := z4.ext hs
     have j1 := j1.ext hs
     have b2668 := b2668.ext hs
     have rA := rA.ext hs
     have b2729 := (word_all (A := fun g w => OB 2014 g w 82 (⟨0, 0, 0, 0, 0⟩ : LoomOrder) e7) 20 rfl hall)
     clear hs hall
     refine EL_do .plain rfl (D_storeOc (g := mK) (v := oF) Try.sizeOf82 rfl b2729 rfl rA fun nK aO hs b2730 cb => ?_)
     clear cb
     have hfr := hfr.stp hs
     have p4 := p4.stp hs
     have u2_0_1838 := u2_0_1838.stp hs rfl
     have d5 := d5.stp hs rfl
     have u5_0_1838 := u5_0_1838.stp hs rfl
     have o3 := o3.stp hs rfl
     have i5 := i5.stp hs
     have l5 := l5.stp hs rfl
     have o5 := o5.stp hs
     have p5 := p5.stp hs rfl
     have z4 := z4.stp hs rfl
     have j1 := j1.stp hs rfl
     have b2668 := b2668.stp hs rfl
     refine EL_nil (thn_n (E_seq ?_))
     obtain ⟨l8, zD, h⟩ := bsome h
     obtain ⟨hi2732, he2732⟩ := vat_idx zD
     refine L_loadOD (x := .tmp 89) (SubS.dyn hi2732).1 he2732 Try.isAgg3 Try.sizeOf3 z4 fun bO oK oI => ?_
     obtain rfl := RV_int.1 oK
     refine L_loadO (x := .tmp 91) (SubS.vec (β := UInt8) (n := 6) (i := 0) (by decide)).1 Try.isAgg5 Try.sizeOf5 b2668 fun cO pK pI => ?_
     obtain rfl := RV_u8.1 pK
     obtain ⟨oD, qI, h⟩ := bsome h
     obtain ⟨m8, rI, h⟩ := bsome h
     refine E_drawL (g := nK) (n := 10) [] [0, 1, 2, 3, 4, 5, 6, 7, 8, 9] rfl mixed (by kernel_rfl) trivial ?_
     refine L_pur (c := .int .i64 (z2)) rfl rfl .plain (fun _ _ hd => P_move rfl) ?_
     refine L_pur (c := fPtr i7 ((z2 : Int).toNat * 1)) rfl rfl .plain (fun _ _ hd => P_indexAddrA (α := Int) Try.underlying126 Try.sizeOf3 kA (OB.ptr z4) rfl zD) ?_
     refine L_ld (c := .int .i64 (l8)) rfl rfl .plain (fun _ _ h => ⟨h.ch, fun b hb _ => h.below.block b hb⟩) oI rfl ?_
     refine L_pur (c := fPtr o7 0) rfl rfl .plain (fun _ _ hd => P_indexAddrA (α := UInt8) (i := (0 : Int)) Try.underlying127 Try.sizeOf5 rfl (OB.ptr b2668) rfl (idx_vec (v := d3) (i := 0) (by decide))) ?_
     refine L_ld (c := .int .u8 (UInt8.toNat ((d3)[0]))) rfl rfl .plain (fun _ _ h => ⟨h.ch, fun b hb _ => h.below.block b hb⟩) pI rfl ?_
     refine L_pur (c := .int .i64 ((((d3)[0]).toNat : Int))) rfl rfl .plain (fun _ _ hd => P_u8int Try.underlying5 Try.underlying3 rfl) ?_
     refine L_pur (c := .int .i64 (oD)) rfl rfl .plain (fun _ _ hd => P_int rfl rfl (congrArg (Option.map (Value.int .i64)) qI)) ?_
     refine L_pur (c := .int .i64 (m8)) rfl rfl .plain (fun _ _ hd => P_int rfl rfl (congrArg (Option.map (Value.int .i64)) rI)) ?_
     refine L_pur (c := .int .i64 ((w64 (l8 + m8)))) rfl rfl .plain (fun _ _ hd => P_int rfl rfl rfl) ?_
     refine L_pur (c := .int .i64 ((w64 (l8 + m8)))) rfl rfl .plain (fun _ _ hd => P_assign rfl) ?_
     refine L_nil fun pF dO hall => ?_
     have hs := hall.1
     have hfr := hfr.ext hs
     have p4 := p4.ext hs
     have u2_0_1838 := u2_0_1838.ext hs
     have d5 := d5.ext hs
     have u5_0_1838 := u5_0_1838.ext hs
     have o3 := o3.ext hs
     have i5 := i5.ext hs
     have l5 := l5.ext hs
     have o5 := o5.ext hs
     have p5 := p5.ext hs
     have z4 := z4.ext hs
     have j1 := j1.ext hs
     have b2668 := b2668.ext hs
     have b2730 := b2730.ext hs
     clear hs hall
     refine EL_nil (thn_n ?_)
     obtain ⟨o0, hx, h⟩ := bsome h
     refine E_join (fun e w => ∃ (g : Gh) , Fr gI wI g w ∧ e 1 = p1 ∧ PT g.m w (x0 : Hall) p1 ∧ e 2 = p2 ∧ OB 2002 g w 24 ((⟨[], 0⟩ : LoomMill) : LoomMill) p2 ∧ OSF 2002 60200 0 g w 3 24 (((⟨[], 0⟩ : LoomMill)).Widths) p2 ∧ e 5 = p7 ∧ OB 2005 g w 24 (j3 : LoomMill) p7 ∧ OSF 2005 60500 0 g w 3 24 ((j3).Widths) p7 ∧ e 7 = x5 ∧ RV g.m w (x6 : List LoomOrder) x5 ∧ OS 3041 g w 82 (x6 : List LoomOrder) x5 ∧ e 8 = c6 ∧ RV g.m w (y6 : List LoomRun) c6 ∧ OS 3042 g w 76 (y6 : List LoomRun) c6 ∧ e 9 = i7 ∧ OB 2009 g w 126 (u5 : Vector Int 3) i7 ∧ e 10 = j7 ∧ OB 2010 g w 126 (d7 : Vector Int 3) j7 ∧ e 11 = .int .i64 (u0) ∧ e 12 = o7 ∧ OB 2012 g w 127 (d3 : Vector UInt8 6) o7 ∧ e 13 = .int .i64 (z2) ∧ e 14 = e7 ∧ OB 2014 g w 82 ((⟨(w64 ((1 : Int) + l6)), t5, (w64 ((1 : Int) + u3)), 0, 0⟩ : LoomOrder) : LoomOrder) e7 ∧ e 15 = .int .i64 (o0)) (fun Q' hQ => ?_) (fun eN eO hR => ?_)
     ·replace h := hx
      clear hx
      obtain ⟨k8, hx, h⟩ := bsome h
      refine E_join (fun e w => ∃ (g : Gh) , Fr gI wI g w ∧ e 1 = p1 ∧ PT g.m w (x0 : Hall) p1 ∧ e 2 = p2 ∧ OB 2002 g w 24 ((⟨[], 0⟩ : LoomMill) : LoomMill) p2 ∧ OSF 2002 60200 0 g w 3 24 (((⟨[], 0⟩ : LoomMill)).Widths) p2 ∧ e 5 = p7 ∧ OB 2005 g w 24 (j3 : LoomMill) p7 ∧ OSF 2005 60500 0 g w 3 24 ((j3).Widths) p7 ∧ e 7 = x5 ∧ RV g.m w (x6 : List LoomOrder) x5 ∧ OS 3041 g w 82 (x6 : List LoomOrder) x5 ∧ e 8 = c6 ∧ RV g.m w (y6 : List LoomRun) c6 ∧ OS 3042 g w 76 (y6 : List LoomRun) c6 ∧ e 9 = i7 ∧ OB 2009 g w 126 (u5 : Vector Int 3) i7 ∧ e 10 = j7 ∧ OB 2010 g w 126 (d7 : Vector Int 3) j7 ∧ e 11 = .int .i64 (u0) ∧ e 12 = o7 ∧ OB 2012 g w 127 (d3 : Vector UInt8 6) o7 ∧ e 13 = .int .i64 (z2) ∧ e 14 = e7 ∧ OB 2014 g w 82 ((⟨(w64 ((1 : Int) + l6)), t5, (w64 ((1 : Int) + u3)), 0, 0⟩ : LoomOrder) : LoomOrder) e7 ∧ e 15 = .int .i64 ((w64 (l8 + m8))) ∧ e 108 = .bool (k8)) (fun Q' hQ => ?_) (fun gN gO hR => ?_)
      ·replace h := hx
       clear hx
       obtain ⟨e8, yA, h⟩ := bsome h
       obtain ⟨hi3219, he3219⟩ := vat_idx yA
       refine L_loadOD (x := .tmp 98) (SubS.dyn hi3219).1 he3219 Try.isAgg3 Try.sizeOf3 j1 fun hO qK aE => ?_
       obtain rfl := RV_int.1 qK
       rcases csome h with ⟨j6, h⟩ | ⟨j6, h⟩
       ·obtain ⟨bA, bE, h⟩ := bsome h
        obtain ⟨hi3223, he3223⟩ := vat_idx bE
        refine L_loadOD (x := .tmp 103) (SubS.dyn hi3223).1 he3223 Try.isAgg3 Try.sizeOf3 j1 fun iO sK sI => ?_
        obtain rfl := RV_int.1 sK
        refine L_loadO (x := .tmp 105) part_LoomOrder_1.1 Try.isAgg3 Try.sizeOf3 b2730 fun jO tK tI => ?_
        obtain rfl := RV_int.1 tK
        refine E_drawL (g := pF) (n := 12) [] [0, 1, 2, 3, 4, 5, 6, 7, 8, 9, 10, 11] rfl mixed (by kernel_rfl) trivial ?_
        refine L_pur (c := .int .i64 (z2)) rfl rfl .plain (fun _ _ hd => P_move rfl) ?_
        refine L_pur (c := fPtr j7 ((z2 : Int).toNat * 1)) rfl rfl .plain (fun _ _ hd => P_indexAddrA (α := Int) Try.underlying126 Try.sizeOf3 r8 (OB.ptr j1) rfl yA) ?_
        refine L_ld (c := .int .i64 (e8)) rfl rfl .plain (fun _ _ h => ⟨h.ch, fun b hb _ => h.below.block b hb⟩) aE rfl ?_
        refine L_pur (c := .bool ((decide (e8 ≥ (0 : Int))))) rfl rfl .plain (fun _ _ hd => P_int rfl rfl rfl) ?_
        refine L_pur (c := .bool ((decide (e8 ≥ (0 : Int))))) rfl rfl .plain (fun _ _ hd => P_move rfl) ?_
        refine L_pur (c := .int .i64 (z2)) rfl rfl (.yes2 rfl rfl j6) (fun _ _ hd => P_move rfl) ?_
        refine L_pur (c := fPtr j7 ((z2 : Int).toNat * 1)) rfl rfl (.yes2 rfl rfl j6) (fun _ _ hd => P_indexAddrA (α := Int) Try.underlying126 Try.sizeOf3 r8 (OB.ptr j1) rfl bE) ?_
        refine L_ld (c := .int .i64 (bA)) rfl rfl (.yes2 rfl rfl j6) (fun _ _ h => ⟨h.ch, fun b hb _ => h.below.block b hb⟩) sI rfl ?_
        refine L_pur (c := fPtr e7 1) rfl rfl (.yes2 rfl rfl j6) (fun _ _ hd => P_fieldAddr at_82_1 rfl (OB.ptr b2730)) ?_
        refine L_ld (c := .int .i64 (t5)) rfl rfl (.yes2 rfl rfl j6) (fun _ _ h => ⟨h.ch, fun b hb _ => h.below.block b hb⟩) tI rfl ?_
        refine L_pur (c := .bool ((bA != t5))) rfl rfl (.yes2 rfl rfl j6) (fun _ _ hd => P_int rfl rfl rfl) ?_
        refine L_pur (c := .bool ((bA != t5))) rfl rfl .plain (fun _ _ hd => P_pick (b := (decide (e8 ≥ (0 : Int)))) rfl (pick_t j6 rfl)) ?_
        refine L_nil fun uK kO hall => ?_
        have hs := hall.1
        have hfr := hfr.ext hs
        have p4 := p4.ext hs
        have u2_0_1838 := u2_0_1838.ext hs
        have d5 := d5.ext hs
        have u5_0_1838 := u5_0_1838.ext hs
        have o3 := o3.ext hs
        have i5 := i5.ext hs
        have l5 := l5.ext hs
        have o5 := o5.ext hs
        have p5 := p5.ext hs
        have z4 := z4.ext hs
        have j1 := j1.ext hs
        have b2668 := b2668.ext hs
        have b2730 := b2730.ext hs
        clear hs hall
        refine EL_nil ?_
        obtain rfl := sinj h
        exact hQ _ _ ⟨uK, hfr, jA, p4, qC, d5, u2_0_1838, r9, o3, u5_0_1838, rC, i5, l5, sC, o5, p5, kA, z4, r8, j1, u9, rfl, b2668, rfl, rfl, b2730, rfl, rfl⟩
       ·refine E_drawL (g := pF) (n := 12) [] [0, 1, 2, 3, 4, 5, 6, 7, 8, 9, 10, 11] rfl mixed (by kernel_rfl) trivial ?_
        refine L_pur (c := .int .i64 (z2)) rfl rfl .plain (fun _ _ hd => P_move rfl) ?_
        refine L_pur (c := fPtr j7 ((z2 : Int).toNat * 1)) rfl rfl .plain (fun _ _ hd => P_indexAddrA (α := Int) Try.underlying126 Try.sizeOf3 r8 (OB.ptr j1) rfl yA) ?_
        refine L_ld (c := .int .i64 (e8)) rfl rfl .plain (fun _ _ h => ⟨h.ch, fun b hb _ => h.below.block b hb⟩) aE rfl ?_
        refine L_pur (c := .bool ((decide (e8 ≥ (0 : Int))))) rfl rfl .plain (fun _ _ hd => P_int rfl rfl rfl) ?_
        refine L_pur (c := .bool ((decide (e8 ≥ (0 : Int))))) rfl rfl .plain (fun _ _ hd => P_move rfl) ?_
        refine L_skip rfl (.no2 rfl rfl j6 rfl) ?_
        refine L_skip rfl (.no2 rfl rfl j6 rfl) ?_
        refine L_skip rfl (.no2 rfl rfl j6 rfl) ?_
        refine L_skip rfl (.no2 rfl rfl j6 rfl) ?_
        refine L_skip rfl (.no2 rfl rfl j6 rfl) ?_
        refine L_skip rfl (.no2 rfl rfl j6 rfl) ?_
        refine L_pur (c := .bool false) rfl rfl .plain (fun _ _ hd => P_pick (b := (decide (e8 ≥ (0 : Int)))) rfl (pick_f j6 rfl)) ?_
        refine L_nil fun vK lO hall => ?_
        have hs := hall.1
        have hfr := hfr.ext hs
        have p4 := p4.ext hs
        have u2_0_1838 := u2_0_1838.ext hs
        have d5 := d5.ext hs
        have u5_0_1838 := u5_0_1838.ext hs
        have o3 := o3.ext hs
        have i5 := i5.ext hs
        have l5 := l5.ext hs
        have o5 := o5.ext hs
        have p5 := p5.ext hs
        have z4 := z4.ext hs
        have j1 := j1.ext hs
        have b2668 := b2668.ext hs
        have b2730 := b2730.ext hs
        clear hs hall
        refine EL_nil ?_
        obtain rfl := sinj h
        exact hQ _ _ ⟨vK, hfr, jA, p4, qC, d5, u2_0_1838, r9, o3, u5_0_1838, rC, i5, l5, sC, o5, p5, kA, z4, r8, j1, u9, rfl, b2668, rfl, rfl, b2730, rfl, rfl⟩
      ·clear hx
       obtain ⟨vD, hfr, tC, uC, vC, xC, u2_0_3359, lA, t9, u5_0_3359, yC, zC, aD, bD, cD, dD, eD, gD, zA, aB, bB, cB, dB, eB, iB, jB, kB, oA⟩ := hR
       rcases csome h with ⟨lB, h⟩ | ⟨lB, h⟩
       ·refine E_cond_true (Eq.trans (show ev _ _ = .bool (k8) from oA) (congrArg Value.bool lB)) ?_
        refine E_region (EL_mv kB rfl ?_)
        refine EL_pur (v := fPtr p7 1) (P_fieldAddr at_24_1 lA (OB.ptr t9)) .plain rfl ?_
        refine EL_do .plain rfl (D_loadF (g := vD) part_LoomMill_1.1 Try.isAgg3 Try.sizeOf3 rfl t9 fun mO xK => ?_)
        obtain rfl := RV_int.1 xK
        refine EL_in (.int .i64 ((w64 ((w64 (l8 + m8)) + (j3).Change)))) rfl rfl rfl rfl ?_
        refine EL_at (.int .i64 ((w64 ((w64 (l8 + m8)) + (j3).Change)))) rfl rfl ?_
        refine EL_nil ?_
        obtain rfl := sinj h
        exact hQ _ _ ⟨vD, hfr, tC, uC, vC, xC, u2_0_3359, lA, t9, u5_0_3359, yC, zC, aD, bD, cD, dD, eD, gD, zA, aB, bB, cB, dB, eB, iB, jB, rfl⟩
       ·refine E_cond_false (Eq.trans (show ev _ _ = .bool (k8) from oA) (congrArg Value.bool lB)) ?_
        refine E_skip ?_
        obtain rfl := sinj h
        exact hQ _ _ ⟨vD, hfr, tC, uC, vC, xC, u2_0_3359, lA, t9, u5_0_3359, yC, zC, aD, bD, cD, dD, eD, gD, zA, aB, bB, cB, dB, eB, iB, jB, kB⟩
     ·clear hx
      obtain ⟨nO, hfr, zF, z3, aG, d4, u2_0_3363, bG, m4, u5_0_3363, cG, t7, u7, dG, d6, i6, iD, q5, mB, i3, nB, oB, g9, y9, c8, z9, i9⟩ := hR
      refine E_seq (L_loadO (x := .tmp 114) (SubS.vec (β := UInt8) (n := 6) (i := 4) (by decide)).1 Try.isAgg5 Try.sizeOf5 g9 fun oO yK uI => ?_)
      obtain rfl := RV_u8.1 yK
      obtain ⟨i8, vI, h⟩ := bsome h
      refine L_loadO (x := .tmp 124) (SubS.vec (β := UInt8) (n := 6) (i := 5) (by decide)).1 Try.isAgg5 Try.sizeOf5 g9 fun pO zK xI => ?_
      obtain rfl := RV_u8.1 zK
      obtain ⟨cA, yI, h⟩ := bsome h
      refine E_drawB (a0 := ((⟨(w64 ((1 : Int) + l6)), t5, (w64 ((1 : Int) + u3)), 0, 0⟩ : LoomOrder) : LoomOrder)) (a1 := ((⟨(w64 ((1 : Int) + l6)), t5, (w64 ((1 : Int) + u3)), (max64 (0 : Int) (w64 (o0 - i8))), 0⟩ : LoomOrder) : LoomOrder)) z9 (n := 18) [(17, (fun _ g w => OB 2014 g w 82 ((⟨(w64 ((1 : Int) + l6)), t5, (w64 ((1 : Int) + u3)), (max64 (0 : Int) (w64 (o0 - i8))), 0⟩ : LoomOrder) : LoomOrder) e7))] [0, 1, 2, 3, 4, 5, 6, 7, 8, 9, 10, 11, 12, 13, 14, 15, 16, 17] rfl mixed (by kernel_rfl) (⟨fun _ => up_box, trivial⟩) ?_
      refine L_pur (c := .int .i64 (o0)) rfl rfl .plain (fun _ _ hd => P_move i9) ?_
      refine L_pur (c := fPtr o7 4) rfl rfl .plain (fun _ _ hd => P_indexAddrA (α := UInt8) (i := (4 : Int)) Try.underlying127 Try.sizeOf5 oB (OB.ptr g9) rfl (idx_vec (v := d3) (i := 4) (by decide))) ?_
      refine L_ld (c := .int .u8 (UInt8.toNat ((d3)[4]))) rfl rfl .plain (fun _ _ h => ⟨h.1.ch, fun b hb ho => h.1.block b hb (by rw [ho]; decide)⟩) uI rfl ?_
      refine L_pur (c := .int .i64 ((((d3)[4]).toNat : Int))) rfl rfl .plain (fun _ _ hd => P_u8int Try.underlying5 Try.underlying3 rfl) ?_
      refine L_pur (c := .int .i64 (i8)) rfl rfl .plain (fun _ _ hd => P_int rfl rfl (congrArg (Option.map (Value.int .i64)) vI)) ?_
      refine L_pur (c := .int .i64 ((w64 (o0 - i8)))) rfl rfl .plain (fun _ _ hd => P_int rfl rfl rfl) ?_
      refine L_pur (c := .int .i64 (max64 (0 : Int) (w64 (o0 - i8)))) rfl rfl .plain (fun _ _ hd => P_max rfl rfl) ?_
      refine L_pur (c := .int .i64 (o0)) rfl rfl .plain (fun _ _ hd => P_move i9) ?_
      refine L_pur (c := fPtr e7 2) rfl rfl .plain (fun _ _ hd => P_fieldAddr at_82_2 c8 (OB.ptr z9)) ?_
      refine L_val (c := .int .i64 ((w64 ((1 : Int) + u3)))) rfl rfl .plain (fun g w hd => loadAB part_LoomOrder_2.1 (by rfl) (by rfl) RV_int.1 Try.isAgg3 Try.sizeOf3 rfl hd.1.2) ?_
      refine L_pur (c := .int .i64 ((w64 (o0 + (w64 ((1 : Int) + u3)))))) rfl rfl .plain (fun _ _ hd => P_int rfl rfl rfl) ?_
      refine L_pur (c := fPtr o7 5) rfl rfl .plain (fun _ _ hd => P_indexAddrA (α := UInt8) (i := (5 : Int)) Try.underlying127 Try.sizeOf5 oB (OB.ptr g9) rfl (idx_vec (v := d3) (i := 5) (by decide))) ?_
      refine L_ld (c := .int .u8 (UInt8.toNat ((d3)[5]))) rfl rfl .plain (fun _ _ h => ⟨h.1.ch, fun b hb ho => h.1.block b hb (by rw [ho]; decide)⟩) xI rfl ?_
      refine L_pur (c := .int .i64 ((((d3)[5]).toNat : Int))) rfl rfl .plain (fun _ _ hd => P_u8int Try.underlying5 Try.underlying3 rfl) ?_
      refine L_pur (c := .int .i64 (cA)) rfl rfl .plain (fun _ _ hd => P_int rfl rfl (congrArg (Option.map (Value.int .i64)) yI)) ?_
      refine L_pur (c := .int .i64 ((w64 ((w64 (o0 + (w64 ((1 : Int) + u3)))) + cA)))) rfl rfl .plain (fun _ _ hd => P_int rfl rfl rfl) ?_
      refine L_pur (c := fPtr e7 3) rfl rfl .plain (fun _ _ hd => P_fieldAddr at_82_3 c8 (OB.ptr z9)) ?_
      refine L_do (φ := fun _ g w => OB 2014 g w 82 ((⟨(w64 ((1 : Int) + l6)), t5, (w64 ((1 : Int) + u3)), (max64 (0 : Int) (w64 (o0 - i8))), 0⟩ : LoomOrder) : LoomOrder) e7) rfl rfl .plain (fun g w hd => D_storeR (g := g) (by rfl) (by exact rfl) part_LoomOrder_3 Try.sizeOf3 rfl hd.1.2 rfl (RV_int.2 rfl)) (fun qO hv => ?_)
      clear hv
      refine L_nil fun aL rO hall => ?_
      have hs := hall.1.1
      have hfr := hfr.stp hs
      have z3 := z3.stp hs
      have u2_0_3363 := u2_0_3363.stp hs rfl
      have d4 := d4.stp hs rfl
      have u5_0_3363 := u5_0_3363.stp hs rfl
      have m4 := m4.stp hs rfl
      have t7 := t7.stp hs
      have u7 := u7.stp hs rfl
      have d6 := d6.stp hs
      have i6 := i6.stp hs rfl
      have q5 := q5.stp hs rfl
      have i3 := i3.stp hs rfl
      have b3389 := (word_all (A := fun g w => OB 2014 g w 82 ((⟨(w64 ((1 : Int) + l6)), t5, (w64 ((1 : Int) + u3)), (max64 (0 : Int) (w64 (o0 - i8))), 0⟩ : LoomOrder) : LoomOrder) e7) 17 rfl hall)
      clear hs hall
      refine EL_pur (v := fPtr e7 4) (P_fieldAddr at_82_4 c8 (OB.ptr b3389)) .plain rfl ?_
      refine EL_do .plain rfl (D_storeFc (g := aL) part_LoomOrder_4 Try.sizeOf3 rfl b3389 rfl (RV_int.2 rfl) fun qF sO hs b3409 rst hos => ?_)
      clear rst hos
      have hfr := hfr.stp hs
      have z3 := z3.stp hs
      have u2_0_3363 := u2_0_3363.stp hs rfl
      have d4 := d4.stp hs rfl
      have u5_0_3363 := u5_0_3363.stp hs rfl
      have m4 := m4.stp hs rfl
      have t7 := t7.stp hs
      have u7 := u7.stp hs rfl
      have d6 := d6.stp hs
      have i6 := i6.stp hs rfl
      have q5 := q5.stp hs rfl
      have i3 := i3.stp hs rfl
      refine EL_nil (thn_n (E_seq (E_region (EL_mv cG rfl ?_))))
      refine EL_do .plain rfl (D_loadO (g := qF) Try.isAgg82 Try.sizeOf82 c8 b3409 fun bL cL => ?_)
      refine EL_do .plain rfl (D_buildSlice (g := qF) 3133 (xs := ([(⟨(w64 ((1 : Int) + l6)), t5, (w64 ((1 : Int) + u3)), (max64 (0 : Int) (w64 (o0 - i8))), (w64 ((w64 (o0 + (w64 ((1 : Int) + u3)))) + cA))⟩ : LoomOrder)] : List LoomOrder)) (vs := [bL]) Try.underlying25 Try.sizeOf82 Try.zeroValue82 rfl rfl (.cons rfl .nil) (RVs.cons cL RVs.nil) rfl rfl fun dL tO uO hs o3411 eL hxt hfl => ?_)
      have hfr := hfr.stp hs
      have z3 := z3.stp hs
      have u2_0_3363 := u2_0_3363.stp hs rfl
      have d4 := d4.stp hs rfl
      have u5_0_3363 := u5_0_3363.stp hs rfl
      have m4 := m4.stp hs rfl
      have t7 := t7.stp hs
      have u7 := u7.stp hs rfl
      have d6 := d6.stp hs
      have i6 := i6.stp hs rfl
      have q5 := q5.stp hs rfl
      have i3 := i3.stp hs rfl
      have b3409 := b3409.stp hs rfl
      obtain ⟨uE, zI, h⟩ := bsome h
      refine EL_do .plain rfl (D_append (g := dL) (i := 3041) Try.underlying25 info_82 rfl rfl u7 t7 rfl eL zI fun gL vO rF hs o3412 q7 _ => ?_)
      have hfr := hfr.stp hs
      have z3 := z3.stp hs
      have u2_0_3363 := u2_0_3363.stp hs rfl
      have d4 := d4.stp hs rfl
      have u5_0_3363 := u5_0_3363.stp hs rfl
      have m4 := m4.stp hs rfl
      have d6 := d6.stp hs
      have i6 := i6.stp hs rfl
      have q5 := q5.stp hs rfl
      have i3 := i3.stp hs rfl
      have b3409 := b3409.stp hs rfl
      refine EL_mv dG rfl ?_
      refine EL_mv nB rfl ?_
      refine EL_mv y9 rfl ?_
      refine EL_mv i9 rfl ?_
      obtain ⟨pD, aJ, h⟩ := bsome h
      refine EL_do .plain rfl (D_call (g := gL) (vs := [.int .i64 (u0), .int .i64 (z2), .int .i64 (o0)]) en46 (.cons rfl (.cons rfl (.cons rfl .nil))) (wk46  aJ) fun iL iN jL hs hr => ?_)
      have hfr := hfr.ext hs
      have z3 := z3.ext hs
      have u2_0_3363 := u2_0_3363.ext hs
      have d4 := d4.ext hs
      have u5_0_3363 := u5_0_3363.ext hs
      have m4 := m4.ext hs
      have d6 := d6.ext hs
      have i6 := i6.ext hs
      have q5 := q5.ext hs
      have i3 := i3.ext hs
      have b3409 := b3409.ext hs
      have q7 := q7.ext hs
      have o3412 := o3412.ext hs
      have kL := hr
      refine EL_do .plain rfl (D_buildSlice (g := iL) 3140 (xs := ([pD] : List LoomRun)) (vs := [jL]) Try.underlying31 Try.sizeOf76 Try.zeroValue76 rfl rfl (.cons rfl .nil) (RVs.cons kL RVs.nil) rfl rfl fun lL xO yO hs o3416 mL hxt hfl => ?_)
      have hfr := hfr.stp hs
      have z3 := z3.stp hs
      have u2_0_3363 := u2_0_3363.stp hs rfl
      have d4 := d4.stp hs rfl
      have u5_0_3363 := u5_0_3363.stp hs rfl
      have m4 := m4.stp hs rfl
      have d6 := d6.stp hs
      have i6 := i6.stp hs rfl
      have q5 := q5.stp hs rfl
      have i3 := i3.stp hs rfl
      have b3409 := b3409.stp hs rfl
      have q7 := q7.stp hs
      have o3412 := o3412.stp hs rfl
      obtain ⟨vE, bJ, h⟩ := bsome h
      refine EL_do .plain rfl (D_append (g := lL) (i := 3042) Try.underlying31 info_76 rfl rfl i6 d6 rfl mL bJ fun zO aP sF hs o3417 dA _ => ?_)
      have hfr := hfr.stp hs
      have z3 := z3.stp hs
      have u2_0_3363 := u2_0_3363.stp hs rfl
      have d4 := d4.stp hs rfl
      have u5_0_3363 := u5_0_3363.stp hs rfl
      have m4 := m4.stp hs rfl
      have q5 := q5.stp hs rfl
      have i3 := i3.stp hs rfl
      have b3409 := b3409.stp hs rfl
      have q7 := q7.stp hs
      have o3412 := o3412.stp hs rfl
      refine EL_at rF rfl rfl ?_
      refine EL_at sF rfl rfl ?_
      refine EL_nil (thn_n (L_loadO (x := .tmp 145) part_LoomOrder_2.1 Try.isAgg3 Try.sizeOf3 b3409 fun bP nL cJ => ?_))
      obtain rfl := RV_int.1 nL
      refine L_loadO (x := .tmp 148) part_LoomOrder_1.1 Try.isAgg3 Try.sizeOf3 b3409 fun cP oL dJ => ?_
      obtain rfl := RV_int.1 oL
      obtain ⟨gJ, cE, h⟩ := bsome h
      obtain ⟨hi3428, he3428⟩ := vat_idx cE
      refine E_drawB (a0 := (u5 : Vector Int 3)) (a1 := ((vset u5 z2 ((w64 (o0 + (w64 ((1 : Int) + u3)))))) : Vector Int 3)) q5 (n := 10) [(9, (fun _ g w => OB 2009 g w 126 ((vset u5 z2 ((w64 (o0 + (w64 ((1 : Int) + u3)))))) : Vector Int 3) i7))] [0, 1, 2, 3, 4, 5, 6, 7, 8, 9] rfl mixed (by kernel_rfl) (⟨fun _ => up_box, trivial⟩) ?_
      refine L_pur (c := .int .i64 (z2)) rfl rfl .plain (fun _ _ hd => P_move y9) ?_
      refine L_pur (c := .int .i64 (z2)) rfl rfl .plain (fun _ _ hd => P_move y9) ?_
      refine L_pur (c := .int .i64 (o0)) rfl rfl .plain (fun _ _ hd => P_move i9) ?_
      refine L_pur (c := fPtr e7 2) rfl rfl .plain (fun _ _ hd => P_fieldAddr at_82_2 c8 (OB.ptr b3409)) ?_
      refine L_ld (c := .int .i64 ((w64 ((1 : Int) + u3)))) rfl rfl .plain (fun _ _ h => ⟨h.1.ch, fun b hb ho => h.1.block b hb (by rw [ho]; decide)⟩) cJ rfl ?_
      refine L_pur (c := .int .i64 ((w64 (o0 + (w64 ((1 : Int) + u3)))))) rfl rfl .plain (fun _ _ hd => P_int rfl rfl rfl) ?_
      refine L_pur (c := fPtr e7 1) rfl rfl .plain (fun _ _ hd => P_fieldAddr at_82_1 c8 (OB.ptr b3409)) ?_
      refine L_ld (c := .int .i64 (t5)) rfl rfl .plain (fun _ _ h => ⟨h.1.ch, fun b hb ho => h.1.block b hb (by rw [ho]; decide)⟩) dJ rfl ?_
      refine L_pur (c := fPtr i7 ((z2 : Int).toNat * 1)) rfl rfl .plain (fun _ _ hd => P_indexAddrA (α := Int) Try.underlying126 Try.sizeOf3 iD (OB.ptr q5) rfl cE) ?_
      refine L_do (φ := fun _ g w => OB 2009 g w 126 ((vset u5 z2 ((w64 (o0 + (w64 ((1 : Int) + u3)))))) : Vector Int 3) i7) rfl rfl .plain (fun g w hd => D_storeRD (g := g) hi3428 Try.sizeOf3 rfl hd.1.2 rfl (RV_int.2 rfl)) (fun dP hv => ?_)
      clear hv
      refine L_nil fun pL eP hall => ?_
      have hs := hall.1.1
      have hfr := hfr.stp hs
      have z3 := z3.stp hs
      have u2_0_3363 := u2_0_3363.stp hs rfl
      have d4 := d4.stp hs rfl
      have u5_0_3363 := u5_0_3363.stp hs rfl
      have m4 := m4.stp hs rfl
      have q7 := q7.stp hs
      have o3412 := o3412.stp hs rfl
      have dA := dA.stp hs
      have o3417 := o3417.stp hs rfl
      have i3 := i3.stp hs rfl
      have b3437 := (word_all (A := fun g w => OB 2009 g w 126 ((vset u5 z2 ((w64 (o0 + (w64 ((1 : Int) + u3)))))) : Vector Int 3) i7) 9 rfl hall)
      clear hs hall
      obtain ⟨iJ, dE, h⟩ := bsome h
      obtain ⟨hi3483, he3483⟩ := vat_idx dE
      refine EL_pur (v := fPtr j7 ((z2 : Int).toNat * 1)) (P_indexAddrA (α := Int) Try.underlying126 Try.sizeOf3 mB (OB.ptr i3) rfl dE) .plain rfl ?_
      refine EL_do .plain rfl (D_storeFc (g := pL) (SubS.dyn hi3483) Try.sizeOf3 rfl i3 rfl (RV_int.2 rfl) fun qL gP hs b3484 rst hos => ?_)
      clear rst hos
      have hfr := hfr.stp hs
      have z3 := z3.stp hs
      have u2_0_3363 := u2_0_3363.stp hs rfl
      have d4 := d4.stp hs rfl
      have u5_0_3363 := u5_0_3363.stp hs rfl
      have m4 := m4.stp hs rfl
      have q7 := q7.stp hs
      have o3412 := o3412.stp hs rfl
      have dA := dA.stp hs
      have o3417 := o3417.stp hs rfl
      have b3437 := b3437.stp hs rfl
      refine EL_nil (blk_n ?_)
      obtain ⟨rfl, rfl, rfl, rfl⟩ := pairs4 h
      exact hQ _ _ ⟨qL, (rF), (sF), hfr, zF, z3, aG, d4, u2_0_3363, bG, m4, u5_0_3363, rfl, q7, o3412, rfl, dA, o3417, iD, b3437, mB, b3484, nB⟩
    ·clear hx
     obtain ⟨rL, eG, gG, hfr, hG, iG, jG, kG, u2_0_3485, lG, mG, u5_0_3485, nG, oG, pG, qG, rG, sG, tG, uG, nE, oE, rE⟩ := hR
     refine E_region (EL_mv rE rfl ?_)
     refine EL_in (.int .i64 ((w64 (u0 + (1 : Int))))) rfl rfl rfl rfl ?_
     refine EL_at (.int .i64 ((w64 (u0 + (1 : Int))))) rfl rfl ?_
     exact EL_nil (thn_n (zH (x8, y8, n9, z8, (w64 (u0 + (1 : Int)))) _ _ ⟨rL, (eG), (gG), hfr, hG, iG, jG, kG, u2_0_3485, lG, mG, u5_0_3485, nG, oG, pG, qG, rG, sG, tG, uG, nE, oE, rfl⟩ h))
  ·clear hx
   obtain ⟨tF, jD, kD, hfr, lD, vG, u2_0_3486, xG, yG, u5_0_3486, zG, mA, tM, aH, nA, uM⟩ := hR
   refine E_seq (E_region (EL_do .plain rfl (D_loadO (g := tF) Try.isAgg24 Try.sizeOf24 xG yG fun tL uL => ?_)))
   refine EL_mv zG rfl ?_
   refine EL_mv aH rfl ?_
   refine EL_do .plain rfl (D_storeOc (g := tF) (v := tL) Try.sizeOf24 lD vG rfl uL fun iP jP hs b3488 cb => ?_)
   clear cb
   have hfr := hfr.stp hs
   have mA := mA.stp hs
   have nA := nA.stp hs
   refine EL_at jD rfl rfl ?_
   refine EL_at kD rfl rfl ?_
   refine EL_nil (thn_n (E_ret ?_))
   obtain rfl := sinj h
   obtain ⟨ad3489, cv3489, hp3489, eJ, cr3489⟩ := ob_read Try.isAgg24 Try.sizeOf24 b3488
   exact endm_ctt rfl rfl ((show _ = p2 from lD).trans hp3489) eJ (show _ = jD from rfl) (show _ = kD from rfl) ⟨_, hfr, _, _, _, rfl, cr3489, mA, nA⟩
def f41 (x0 : LoomMill) (x1 : List LoomOrder) (x2 : List LoomRun) : Option (Bool) :=
 jn (σ := Unit) (fun (_ : Unit) =>
  (f44 x0 x1 x2).bind fun p7 =>
  some (p7)
  ) fun n9 =>
 lp (σ := Int) (fun o9 j1 =>
  jn (σ := Unit) (fun (_ : Unit) =>
   jn (σ := Unit) (fun (_ : Unit) =>
    o9 ((w64 (j1 + (1 : Int))))
    ) fun p9 =>
   (idx x2 j1).bind fun o0 =>
   jn (σ := Unit) (fun (_ : Unit) =>
    (idx x1 (o0).Order).bind fun z3 =>
    Option.bind (α := Bool) (
     (idx ((x0).Widths) (o0).Loom).bind fun x5 =>
     bif (decide ((z3).Width > x5)) then
      some (true)
     else
      bif (decide ((o0).From < (z3).Early)) then
       some (true)
      else
       some ((decide ((w64 ((o0).From + (z3).Woven)) > (z3).Late)))
     ) fun l6 =>
    bif l6 then
     some (false)
    else
     p9 ()
    ) fun q9 =>
   Option.bind (α := Bool) (
    bif (decide ((o0).Order < (0 : Int))) then
     some (true)
    else
     bif (decide ((o0).Order ≥ ((x1).length : Int))) then
      some (true)
     else
      bif (decide ((o0).Loom < (0 : Int))) then
       some (true)
      else
       bif (decide ((o0).Loom ≥ (((x0).Widths).length : Int))) then
        some (true)
       else
        bif (decide (j1 > (0 : Int))) then
         (idx x2 (w64 (j1 - (1 : Int)))).bind fun c6 =>
         bif (decide ((o0).Order ≤ (c6).Order)) then
          some (true)
         else
          some ((decide ((o0).From > (1000 : Int))))
        else
         some ((decide ((o0).From > (1000 : Int))))
    ) fun v6 =>
   bif v6 then
    some (false)
   else
    q9 ()
   ) fun r9 =>
  bif (decide (j1 < ((x2).length : Int))) then
   r9 ()
  else
   n9 ()
  ) big ((0 : Int))
theorem en41 : Enters Try.prog 41 := enters_of Try.func41 (by kernel_rfl) rfl
theorem wk41 {gI : Gh} {wI : World} {x0 : LoomMill} {x1 : List LoomOrder} {x2 : List LoomRun} {up0 : Value} (rp0 : RV gI.m wI x0 up0) {up1 : Value} (rp1 : RV gI.m wI x1 up1) {up2 : Value} (rp2 : RV gI.m wI x2 up2) {r : Bool} (h : f41 x0 x1 x2 = some r) : Fn Try.prog 41 #[up0, up1, up2] gI wI (fun _ _ v => v = .bool (r)) := by
 unfold f41 at h
 refine fn_of_E Try.func41 rfl (Nat.le_of_ble_eq_true rfl) fun g0 hm hfr => ?_
 have rp0 : RV g0.m wI x0 up0 := hm ▸ rp0
 have rp1 : RV g0.m wI x1 up1 := hm ▸ rp1
 have rp2 : RV g0.m wI x2 up2 := hm ▸ rp2
 show E _ 98 none _ _ _ _ _
 refine E_seq (E_region (EL_do .plain rfl (D_box (g := g0) rfl rp0 fun g1 w1 p1 hs q1 => ?_)))
 have hfr := hfr.ext hs
 have rp1 := rp1.ext hs
 have rp2 := rp2.ext hs
 refine EL_at (.bool false) rfl rfl ?_
 refine EL_nil (thn_n (E_joinC h (fun (s : Unit) e w => ∃ (g : Gh) , Fr gI wI g w ∧ e 1 = up1 ∧ RV g.m w (x1 : List LoomOrder) up1 ∧ e 2 = up2 ∧ RV g.m w (x2 : List LoomRun) up2 ∧ e 3 = p1 ∧ PT g.m w (x0 : LoomMill) p1) (fun X3766 n9 jB h => ?_) ?_))
 ·refine E_seq (E_region (EL_at (.int .i64 (0)) rfl rfl ?_))
  refine EL_nil (thn_n (E_block ?_))
  refine E_lp h (fun (s : Int) e w => ∃ (g : Gh) , Fr gI wI g w ∧ e 1 = up1 ∧ RV g.m w (x1 : List LoomOrder) up1 ∧ e 2 = up2 ∧ RV g.m w (x2 : List LoomRun) up2 ∧ e 3 = p1 ∧ PT g.m w (x0 : LoomMill) p1 ∧ e 7 = .int .i64 (s)) ⟨g1, hfr, rfl, rp1, rfl, rp2, rfl, q1, rfl⟩ (fun X3767 o9 kB => ?_)
  rintro j1 sD bE ⟨t9, hfr, p8, q8, j7, m7, r8, t8, v8⟩ h
  refine E_joinC h (fun (s : Unit) e w => ∃ (g : Gh) , Fr gI wI g w ∧ e 1 = up1 ∧ RV g.m w (x1 : List LoomOrder) up1 ∧ e 2 = up2 ∧ RV g.m w (x2 : List LoomRun) up2 ∧ e 3 = p1 ∧ PT g.m w (x0 : LoomMill) p1 ∧ e 7 = .int .i64 (j1)) (fun X3770 r9 lB h => ?_) ?_
  ·refine E_seq (E_region (EL_mv v8 rfl ?_))
   refine EL_mv j7 rfl ?_
   refine EL_pur (v := .int .i64 ((x2).length : Int)) (P_len Try.underlying31 rfl m7) .plain rfl ?_
   refine EL_in (.bool ((decide (j1 < ((x2).length : Int))))) rfl rfl rfl rfl ?_
   refine EL_nil (thn_n ?_)
   rcases csome h with ⟨v7, h⟩ | ⟨v7, h⟩
   ·refine E_ct v7 rfl ?_
    exact E_skip (thn_n (lB () _ _ ⟨t9, hfr, p8, q8, j7, m7, r8, t8, v8⟩ h))
   ·refine E_cf v7 rfl ?_
    refine E_exit ?_
    refine thn_e ?_
    refine thn_e ?_
    refine blk_hit ?_
    exact thn_n (jB () _ _ ⟨t9, hfr, p8, q8, j7, m7, r8, t8⟩ h)
  ·rintro _ tD cE ⟨u9, hfr, o5, z2, u5, i3, t5, j3, p5⟩ h
   refine E_joinC h (fun (s : Unit) e w => ∃ (g : Gh) , Fr gI wI g w ∧ e 1 = up1 ∧ RV g.m w (x1 : List LoomOrder) up1 ∧ e 2 = up2 ∧ RV g.m w (x2 : List LoomRun) up2 ∧ e 3 = p1 ∧ PT g.m w (x0 : LoomMill) p1 ∧ e 7 = .int .i64 (j1)) (fun X5651 p9 mB h => ?_) ?_
   ·refine E_block ?_
    refine E_seq (E_region (EL_mv u5 rfl ?_))
    refine EL_mv p5 rfl ?_
    obtain ⟨o0, e9, h⟩ := bsome h
    refine EL_pur (v := ePtr up2 j1 3) (P_indexAddr (α := LoomRun) Try.underlying31 Try.sizeOf76 rfl i3 rfl e9) .plain rfl ?_
    have uB := PT_idx i3 e9
    refine EL_do .plain rfl (D_load (g := u9) Try.isAgg76 Try.sizeOf76 rfl uB fun vB x8 => ?_)
    refine EL_do .plain rfl (D_allocOc (g := u9) 2008 (⟨0, 0, 0⟩ : LoomRun) Try.zeroValue76 (fun m w => ⟨_, (rep_two rep_int (rep_two rep_int rep_int)), rfl⟩) fun xB dE u3 hs b5655 cb => ?_)
    have hfr := hfr.stp hs
    have z2 := z2.stp hs
    have i3 := i3.stp hs
    have j3 := j3.stp hs
    have x8 := x8.stp hs
    clear cb
    refine EL_do .plain rfl (D_storeOc (g := xB) (v := vB) Try.sizeOf76 rfl b5655 rfl x8 fun z6 eE hs b5656 cb => ?_)
    clear cb
    have hfr := hfr.stp hs
    have z2 := z2.stp hs
    have i3 := i3.stp hs
    have j3 := j3.stp hs
    refine EL_nil (thn_n (E_joinC h (fun (s : Unit) e w => ∃ (g : Gh) , Fr gI wI g w ∧ e 1 = up1 ∧ RV g.m w (x1 : List LoomOrder) up1 ∧ e 2 = up2 ∧ RV g.m w (x2 : List LoomRun) up2 ∧ e 3 = p1 ∧ PT g.m w (x0 : LoomMill) p1 ∧ e 7 = .int .i64 (j1) ∧ e 8 = u3 ∧ OB 2008 g w 76 (o0 : LoomRun) u3) (fun X6453 q9 nB h => ?_) ?_))
    ·obtain ⟨v6, hx, h⟩ := bsome h
     refine E_join (fun e w => ∃ (g : Gh) , Fr gI wI g w ∧ e 1 = up1 ∧ RV g.m w (x1 : List LoomOrder) up1 ∧ e 2 = up2 ∧ RV g.m w (x2 : List LoomRun) up2 ∧ e 3 = p1 ∧ PT g.m w (x0 : LoomMill) p1 ∧ e 7 = .int .i64 (j1) ∧ e 8 = u3 ∧ OB 2008 g w 76 (o0 : LoomRun) u3 ∧ e 62 = .bool (v6)) (fun Q' hQ => ?_) (fun uD gE hR => ?_)
     ·replace h := hx
      clear hx
      refine L_loadO (x := .tmp 20) part_LoomRun_0.1 Try.isAgg3 Try.sizeOf3 b5656 fun iE yB x6 => ?_
      obtain rfl := RV_int.1 yB
      rcases csome h with ⟨u0, h⟩ | ⟨u0, h⟩
      ·refine E_drawL (g := z6) (n := 43) [] [0, 1, 2, 3, 4, 5, 6, 7, 8, 9, 10, 11, 12, 13, 14, 15, 16, 17, 18, 19, 20, 21, 22, 23, 24, 25, 26, 27, 28, 29, 30, 31, 32, 33, 34, 35, 36, 37, 38, 39, 40, 41, 42] rfl mixed (by kernel_rfl) trivial ?_
       refine L_pur (c := fPtr u3 0) rfl rfl .plain (fun _ _ hd => P_fieldAddr at_76_0 rfl (OB.ptr b5656)) ?_
       refine L_ld (c := .int .i64 ((o0).Order)) rfl rfl .plain (fun _ _ h => ⟨h.ch, fun b hb _ => h.below.block b hb⟩) x6 rfl ?_
       refine L_pur (c := .bool ((decide ((o0).Order < (0 : Int))))) rfl rfl .plain (fun _ _ hd => P_int rfl rfl rfl) ?_
       refine L_pur (c := .bool ((decide ((o0).Order < (0 : Int))))) rfl rfl .plain (fun _ _ hd => P_move rfl) ?_
       refine L_skip rfl (.no2 rfl rfl u0 rfl) ?_
       refine L_skip rfl (.no2 rfl rfl u0 rfl) ?_
       refine L_skip rfl (.no2 rfl rfl u0 rfl) ?_
       refine L_skip rfl (.no2 rfl rfl u0 rfl) ?_
       refine L_skip rfl (.no2 rfl rfl u0 rfl) ?_
       refine L_pur (c := .bool true) rfl rfl .plain (fun _ _ hd => P_pick (b := (decide ((o0).Order < (0 : Int)))) rfl (pick_t u0 rfl)) ?_
       refine L_dead (fun _ => rfl) 33 rfl ?_
       refine L_nil fun zB jE hall => ?_
       have hs := hall.1
       have hfr := hfr.ext hs
       have z2 := z2.ext hs
       have i3 := i3.ext hs
       have j3 := j3.ext hs
       have b5656 := b5656.ext hs
       clear hs hall
       refine EL_nil ?_
       obtain rfl := sinj h
       exact hQ _ _ ⟨zB, hfr, o5, z2, u5, i3, t5, j3, p5, rfl, b5656, rfl⟩
      ·refine L_loadO (x := .tmp 24) part_LoomRun_0.1 Try.isAgg3 Try.sizeOf3 b5656 fun kE aC y6 => ?_
       obtain rfl := RV_int.1 aC
       rcases csome h with ⟨d4, h⟩ | ⟨d4, h⟩
       ·refine E_drawL (g := z6) (n := 43) [] [0, 1, 2, 3, 4, 5, 6, 7, 8, 9, 10, 11, 12, 13, 14, 15, 16, 17, 18, 19, 20, 21, 22, 23, 24, 25, 26, 27, 28, 29, 30, 31, 32, 33, 34, 35, 36, 37, 38, 39, 40, 41, 42] rfl mixed (by kernel_rfl) trivial ?_
        refine L_pur (c := fPtr u3 0) rfl rfl .plain (fun _ _ hd => P_fieldAddr at_76_0 rfl (OB.ptr b5656)) ?_
        refine L_ld (c := .int .i64 ((o0).Order)) rfl rfl .plain (fun _ _ h => ⟨h.ch, fun b hb _ => h.below.block b hb⟩) x6 rfl ?_
        refine L_pur (c := .bool ((decide ((o0).Order < (0 : Int))))) rfl rfl .plain (fun _ _ hd => P_int rfl rfl rfl) ?_
        refine L_pur (c := .bool ((decide ((o0).Order < (0 : Int))))) rfl rfl .plain (fun _ _ hd => P_move rfl) ?_
        refine L_pur (c := fPtr u3 0) rfl rfl (.yes2 rfl rfl u0) (fun _ _ hd => P_fieldAddr at_76_0 rfl (OB.ptr b5656)) ?_
        refine L_ld (c := .int .i64 ((o0).Order)) rfl rfl (.yes2 rfl rfl u0) (fun _ _ h => ⟨h.ch, fun b hb _ => h.below.block b hb⟩) y6 rfl ?_
        refine L_pur (c := up1) rfl rfl (.yes2 rfl rfl u0) (fun _ _ hd => P_move o5) ?_
        refine L_pur (c := .int .i64 ((x1).length : Int)) rfl rfl (.yes2 rfl rfl u0) (fun _ _ hd => P_len Try.underlying25 rfl z2) ?_
        refine L_pur (c := .bool ((decide ((o0).Order ≥ ((x1).length : Int))))) rfl rfl (.yes2 rfl rfl u0) (fun _ _ hd => P_int rfl rfl rfl) ?_
        refine L_pur (c := .bool ((decide ((o0).Order ≥ ((x1).length : Int))))) rfl rfl .plain (fun _ _ hd => P_pick (b := (decide ((o0).Order < (0 : Int)))) rfl (pick_f u0 rfl)) ?_
        refine L_pur (c := .bool ((decide ((o0).Order ≥ ((x1).length : Int))))) rfl rfl .plain (fun _ _ hd => P_move rfl) ?_
        refine L_skip rfl (.no2 rfl rfl d4 rfl) ?_
        refine L_skip rfl (.no2 rfl rfl d4 rfl) ?_
        refine L_skip rfl (.no2 rfl rfl d4 rfl) ?_
        refine L_pur (c := .bool true) rfl rfl .plain (fun _ _ hd => P_pick (b := (decide ((o0).Order ≥ ((x1).length : Int)))) rfl (pick_t d4 rfl)) ?_
        refine L_dead (fun _ => rfl) 28 rfl ?_
        refine L_nil fun bC lE hall => ?_
        have hs := hall.1
        have hfr := hfr.ext hs
        have z2 := z2.ext hs
        have i3 := i3.ext hs
        have j3 := j3.ext hs
        have b5656 := b5656.ext hs
        clear hs hall
        refine EL_nil ?_
        obtain rfl := sinj h
        exact hQ _ _ ⟨bC, hfr, o5, z2, u5, i3, t5, j3, p5, rfl, b5656, rfl⟩
       ·refine L_loadO (x := .tmp 31) part_LoomRun_1.1 Try.isAgg3 Try.sizeOf3 b5656 fun mE cC b7 => ?_
        obtain rfl := RV_int.1 cC
        rcases csome h with ⟨d3, h⟩ | ⟨d3, h⟩
        ·refine E_drawL (g := z6) (n := 43) [] [0, 1, 2, 3, 4, 5, 6, 7, 8, 9, 10, 11, 12, 13, 14, 15, 16, 17, 18, 19, 20, 21, 22, 23, 24, 25, 26, 27, 28, 29, 30, 31, 32, 33, 34, 35, 36, 37, 38, 39, 40, 41, 42] rfl mixed (by kernel_rfl) trivial ?_
         refine L_pur (c := fPtr u3 0) rfl rfl .plain (fun _ _ hd => P_fieldAddr at_76_0 rfl (OB.ptr b5656)) ?_
         refine L_ld (c := .int .i64 ((o0).Order)) rfl rfl .plain (fun _ _ h => ⟨h.ch, fun b hb _ => h.below.block b hb⟩) x6 rfl ?_
         refine L_pur (c := .bool ((decide ((o0).Order < (0 : Int))))) rfl rfl .plain (fun _ _ hd => P_int rfl rfl rfl) ?_
         refine L_pur (c := .bool ((decide ((o0).Order < (0 : Int))))) rfl rfl .plain (fun _ _ hd => P_move rfl) ?_
         refine L_pur (c := fPtr u3 0) rfl rfl (.yes2 rfl rfl u0) (fun _ _ hd => P_fieldAddr at_76_0 rfl (OB.ptr b5656)) ?_
         refine L_ld (c := .int .i64 ((o0).Order)) rfl rfl (.yes2 rfl rfl u0) (fun _ _ h => ⟨h.ch, fun b hb _ => h.below.block b hb⟩) y6 rfl ?_
         refine L_pur (c := up1) rfl rfl (.yes2 rfl rfl u0) (fun _ _ hd => P_move o5) ?_
         refine L_pur (c := .int .i64 ((x1).length : Int)) rfl rfl (.yes2 rfl rfl u0) (fun _ _ hd => P_len Try.underlying25 rfl z2) ?_
         refine L_pur (c := .bool ((decide ((o0).Order ≥ ((x1).length : Int))))) rfl rfl (.yes2 rfl rfl u0) (fun _ _ hd => P_int rfl rfl rfl) ?_
         refine L_pur (c := .bool ((decide ((o0).Order ≥ ((x1).length : Int))))) rfl rfl .plain (fun _ _ hd => P_pick (b := (decide ((o0).Order < (0 : Int)))) rfl (pick_f u0 rfl)) ?_
         refine L_pur (c := .bool ((decide ((o0).Order ≥ ((x1).length : Int))))) rfl rfl .plain (fun _ _ hd => P_move rfl) ?_
         refine L_pur (c := fPtr u3 1) rfl rfl (.yes2 rfl rfl d4) (fun _ _ hd => P_fieldAddr at_76_1 rfl (OB.ptr b5656)) ?_
         refine L_ld (c := .int .i64 ((o0).Loom)) rfl rfl (.yes2 rfl rfl d4) (fun _ _ h => ⟨h.ch, fun b hb _ => h.below.block b hb⟩) b7 rfl ?_
         refine L_pur (c := .bool ((decide ((o0).Loom < (0 : Int))))) rfl rfl (.yes2 rfl rfl d4) (fun _ _ hd => P_int rfl rfl rfl) ?_
         refine L_pur (c := .bool ((decide ((o0).Loom < (0 : Int))))) rfl rfl .plain (fun _ _ hd => P_pick (b := (decide ((o0).Order ≥ ((x1).length : Int)))) rfl (pick_f d4 rfl)) ?_
         refine L_pur (c := .bool ((decide ((o0).Loom < (0 : Int))))) rfl rfl .plain (fun _ _ hd => P_move rfl) ?_
         refine L_skip rfl (.no2 rfl rfl d3 rfl) ?_
         refine L_skip rfl (.no2 rfl rfl d3 rfl) ?_
         refine L_skip rfl (.no2 rfl rfl d3 rfl) ?_
         refine L_skip rfl (.no2 rfl rfl d3 rfl) ?_
         refine L_skip rfl (.no2 rfl rfl d3 rfl) ?_
         refine L_skip rfl (.no2 rfl rfl d3 rfl) ?_
         refine L_pur (c := .bool true) rfl rfl .plain (fun _ _ hd => P_pick (b := (decide ((o0).Loom < (0 : Int)))) rfl (pick_t d3 rfl)) ?_
         refine L_dead (fun _ => rfl) 20 rfl ?_
         refine L_nil fun dC nE hall => ?_
         have hs := hall.1
         have hfr := hfr.ext hs
         have z2 := z2.ext hs
         have i3 := i3.ext hs
         have j3 := j3.ext hs
         have b5656 := b5656.ext hs
         clear hs hall
         refine EL_nil ?_
         obtain rfl := sinj h
         exact hQ _ _ ⟨dC, hfr, o5, z2, u5, i3, t5, j3, p5, rfl, b5656, rfl⟩
        ·refine L_loadO (x := .tmp 36) part_LoomRun_1.1 Try.isAgg3 Try.sizeOf3 b5656 fun oE eC e7 => ?_
         obtain rfl := RV_int.1 eC
         have iC := PT_field (part_LoomMill_0).1 j3
         refine L_load (x := .tmp 38) Try.isAgg22 Try.sizeOf22 iC fun q7 t7 g7 => ?_
         rcases csome h with ⟨m4, h⟩ | ⟨m4, h⟩
         ·refine E_drawL (g := z6) (n := 43) [] [0, 1, 2, 3, 4, 5, 6, 7, 8, 9, 10, 11, 12, 13, 14, 15, 16, 17, 18, 19, 20, 21, 22, 23, 24, 25, 26, 27, 28, 29, 30, 31, 32, 33, 34, 35, 36, 37, 38, 39, 40, 41, 42] rfl mixed (by kernel_rfl) trivial ?_
          refine L_pur (c := fPtr u3 0) rfl rfl .plain (fun _ _ hd => P_fieldAddr at_76_0 rfl (OB.ptr b5656)) ?_
          refine L_ld (c := .int .i64 ((o0).Order)) rfl rfl .plain (fun _ _ h => ⟨h.ch, fun b hb _ => h.below.block b hb⟩) x6 rfl ?_
          refine L_pur (c := .bool ((decide ((o0).Order < (0 : Int))))) rfl rfl .plain (fun _ _ hd => P_int rfl rfl rfl) ?_
          refine L_pur (c := .bool ((decide ((o0).Order < (0 : Int))))) rfl rfl .plain (fun _ _ hd => P_move rfl) ?_
          refine L_pur (c := fPtr u3 0) rfl rfl (.yes2 rfl rfl u0) (fun _ _ hd => P_fieldAddr at_76_0 rfl (OB.ptr b5656)) ?_
          refine L_ld (c := .int .i64 ((o0).Order)) rfl rfl (.yes2 rfl rfl u0) (fun _ _ h => ⟨h.ch, fun b hb _ => h.below.block b hb⟩) y6 rfl ?_
          refine L_pur (c := up1) rfl rfl (.yes2 rfl rfl u0) (fun _ _ hd => P_move o5) ?_
          refine L_pur (c := .int .i64 ((x1).length : Int)) rfl rfl (.yes2 rfl rfl u0) (fun _ _ hd => P_len Try.underlying25 rfl z2) ?_
          refine L_pur (c := .bool ((decide ((o0).Order ≥ ((x1).length : Int))))) rfl rfl (.yes2 rfl rfl u0) (fun _ _ hd => P_int rfl rfl rfl) ?_
          refine L_pur (c := .bool ((decide ((o0).Order ≥ ((x1).length : Int))))) rfl rfl .plain (fun _ _ hd => P_pick (b := (decide ((o0).Order < (0 : Int)))) rfl (pick_f u0 rfl)) ?_
          refine L_pur (c := .bool ((decide ((o0).Order ≥ ((x1).length : Int))))) rfl rfl .plain (fun _ _ hd => P_move rfl) ?_
          refine L_pur (c := fPtr u3 1) rfl rfl (.yes2 rfl rfl d4) (fun _ _ hd => P_fieldAddr at_76_1 rfl (OB.ptr b5656)) ?_
          refine L_ld (c := .int .i64 ((o0).Loom)) rfl rfl (.yes2 rfl rfl d4) (fun _ _ h => ⟨h.ch, fun b hb _ => h.below.block b hb⟩) b7 rfl ?_
          refine L_pur (c := .bool ((decide ((o0).Loom < (0 : Int))))) rfl rfl (.yes2 rfl rfl d4) (fun _ _ hd => P_int rfl rfl rfl) ?_
          refine L_pur (c := .bool ((decide ((o0).Loom < (0 : Int))))) rfl rfl .plain (fun _ _ hd => P_pick (b := (decide ((o0).Order ≥ ((x1).length : Int)))) rfl (pick_f d4 rfl)) ?_
          refine L_pur (c := .bool ((decide ((o0).Loom < (0 : Int))))) rfl rfl .plain (fun _ _ hd => P_move rfl) ?_
          refine L_pur (c := fPtr u3 1) rfl rfl (.yes2 rfl rfl d3) (fun _ _ hd => P_fieldAddr at_76_1 rfl (OB.ptr b5656)) ?_
          refine L_ld (c := .int .i64 ((o0).Loom)) rfl rfl (.yes2 rfl rfl d3) (fun _ _ h => ⟨h.ch, fun b hb _ => h.below.block b hb⟩) e7 rfl ?_
          refine L_pur (c := fPtr p1 0) rfl rfl (.yes2 rfl rfl d3) (fun _ _ hd => P_fieldAddr at_24_0 t5 (PT.ptr j3)) ?_
          refine L_ld (c := q7) rfl rfl (.yes2 rfl rfl d3) (fun _ _ h => h.ch) g7 rfl ?_
          refine L_pur (c := .int .i64 (((x0).Widths).length : Int)) rfl rfl (.yes2 rfl rfl d3) (fun _ _ hd => P_len Try.underlying22 rfl t7) ?_
          refine L_pur (c := .bool ((decide ((o0).Loom ≥ (((x0).Widths).length : Int))))) rfl rfl (.yes2 rfl rfl d3) (fun _ _ hd => P_int rfl rfl rfl) ?_
          refine L_pur (c := .bool ((decide ((o0).Loom ≥ (((x0).Widths).length : Int))))) rfl rfl .plain (fun _ _ hd => P_pick (b := (decide ((o0).Loom < (0 : Int)))) rfl (pick_f d3 rfl)) ?_
          refine L_pur (c := .bool ((decide ((o0).Loom ≥ (((x0).Widths).length : Int))))) rfl rfl .plain (fun _ _ hd => P_move rfl) ?_
          refine L_skip rfl (.no2 rfl rfl m4 rfl) ?_
          refine L_skip rfl (.no2 rfl rfl m4 rfl) ?_
          refine L_skip rfl (.no2 rfl rfl m4 rfl) ?_
          refine L_dead (fun _ => rfl) 9 rfl ?_
          refine L_skip rfl (.no2 rfl rfl m4 rfl) ?_
          refine L_pur (c := .bool true) rfl rfl .plain (fun _ _ hd => P_pick (b := (decide ((o0).Loom ≥ (((x0).Widths).length : Int)))) rfl (pick_t m4 rfl)) ?_
          refine L_dead (fun _ => rfl) 5 rfl ?_
          refine L_nil fun jC rE hall => ?_
          have hs := hall.1
          have hfr := hfr.ext hs
          have z2 := z2.ext hs
          have i3 := i3.ext hs
          have j3 := j3.ext hs
          have b5656 := b5656.ext hs
          clear hs hall
          refine EL_nil ?_
          obtain rfl := sinj h
          exact hQ _ _ ⟨jC, hfr, o5, z2, u5, i3, t5, j3, p5, rfl, b5656, rfl⟩
         ·rcases csome h with ⟨o3, h⟩ | ⟨o3, h⟩
          ·refine L_loadO (x := .tmp 47) part_LoomRun_0.1 Try.isAgg3 Try.sizeOf3 b5656 fun sE kC g9 => ?_
           obtain rfl := RV_int.1 kC
           obtain ⟨c6, c8, h⟩ := bsome h
           have y8 := PT_idx i3 c8
           have lC := PT_field (part_LoomRun_0).1 y8
           refine L_load (x := .tmp 53) Try.isAgg3 Try.sizeOf3 lC fun tE mC i9 => ?_
           obtain rfl := RV_int.1 mC
           rcases csome h with ⟨d6, h⟩ | ⟨d6, h⟩
           ·refine E_drawL (g := z6) (n := 43) [] [0, 1, 2, 3, 4, 5, 6, 7, 8, 9, 10, 11, 12, 13, 14, 15, 16, 17, 18, 19, 20, 21, 22, 23, 24, 25, 26, 27, 28, 29, 30, 31, 32, 33, 34, 35, 36, 37, 38, 39, 40, 41, 42] rfl mixed (by kernel_rfl) trivial ?_
            refine L_pur (c := fPtr u3 0) rfl rfl .plain (fun _ _ hd => P_fieldAddr at_76_0 rfl (OB.ptr b5656)) ?_
            refine L_ld (c := .int .i64 ((o0).Order)) rfl rfl .plain (fun _ _ h => ⟨h.ch, fun b hb _ => h.below.block b hb⟩) x6 rfl ?_
            refine L_pur (c := .bool ((decide ((o0).Order < (0 : Int))))) rfl rfl .plain (fun _ _ hd => P_int rfl rfl rfl) ?_
            refine L_pur (c := .bool ((decide ((o0).Order < (0 : Int))))) rfl rfl .plain (fun _ _ hd => P_move rfl) ?_
            refine L_pur (c := fPtr u3 0) rfl rfl (.yes2 rfl rfl u0) (fun _ _ hd => P_fieldAddr at_76_0 rfl (OB.ptr b5656)) ?_
            refine L_ld (c := .int .i64 ((o0).Order)) rfl rfl (.yes2 rfl rfl u0) (fun _ _ h => ⟨h.ch, fun b hb _ => h.below.block b hb⟩) y6 rfl ?_
            refine L_pur (c := up1) rfl rfl (.yes2 rfl rfl u0) (fun _ _ hd => P_move o5) ?_
            refine L_pur (c := .int .i64 ((x1).length : Int)) rfl rfl (.yes2 rfl rfl u0) (fun _ _ hd => P_len Try.underlying25 rfl z2) ?_
            refine L_pur (c := .bool ((decide ((o0).Order ≥ ((x1).length : Int))))) rfl rfl (.yes2 rfl rfl u0) (fun _ _ hd => P_int rfl rfl rfl) ?_
            refine L_pur (c := .bool ((decide ((o0).Order ≥ ((x1).length : Int))))) rfl rfl .plain (fun _ _ hd => P_pick (b := (decide ((o0).Order < (0 : Int)))) rfl (pick_f u0 rfl)) ?_
            refine L_pur (c := .bool ((decide ((o0).Order ≥ ((x1).length : Int))))) rfl rfl .plain (fun _ _ hd => P_move rfl) ?_
            refine L_pur (c := fPtr u3 1) rfl rfl (.yes2 rfl rfl d4) (fun _ _ hd => P_fieldAddr at_76_1 rfl (OB.ptr b5656)) ?_
            refine L_ld (c := .int .i64 ((o0).Loom)) rfl rfl (.yes2 rfl rfl d4) (fun _ _ h => ⟨h.ch, fun b hb _ => h.below.block b hb⟩) b7 rfl ?_
            refine L_pur (c := .bool ((decide ((o0).Loom < (0 : Int))))) rfl rfl (.yes2 rfl rfl d4) (fun _ _ hd => P_int rfl rfl rfl) ?_
            refine L_pur (c := .bool ((decide ((o0).Loom < (0 : Int))))) rfl rfl .plain (fun _ _ hd => P_pick (b := (decide ((o0).Order ≥ ((x1).length : Int)))) rfl (pick_f d4 rfl)) ?_
            refine L_pur (c := .bool ((decide ((o0).Loom < (0 : Int))))) rfl rfl .plain (fun _ _ hd => P_move rfl) ?_
            refine L_pur (c := fPtr u3 1) rfl rfl (.yes2 rfl rfl d3) (fun _ _ hd => P_fieldAddr at_76_1 rfl (OB.ptr b5656)) ?_
            refine L_ld (c := .int .i64 ((o0).Loom)) rfl rfl (.yes2 rfl rfl d3) (fun _ _ h => ⟨h.ch, fun b hb _ => h.below.block b hb⟩) e7 rfl ?_
            refine L_pur (c := fPtr p1 0) rfl rfl (.yes2 rfl rfl d3) (fun _ _ hd => P_fieldAddr at_24_0 t5 (PT.ptr j3)) ?_
            refine L_ld (c := q7) rfl rfl (.yes2 rfl rfl d3) (fun _ _ h => h.ch) g7 rfl ?_
            refine L_pur (c := .int .i64 (((x0).Widths).length : Int)) rfl rfl (.yes2 rfl rfl d3) (fun _ _ hd => P_len Try.underlying22 rfl t7) ?_
            refine L_pur (c := .bool ((decide ((o0).Loom ≥ (((x0).Widths).length : Int))))) rfl rfl (.yes2 rfl rfl d3) (fun _ _ hd => P_int rfl rfl rfl) ?_
            refine L_pur (c := .bool ((decide ((o0).Loom ≥ (((x0).Widths).length : Int))))) rfl rfl .plain (fun _ _ hd => P_pick (b := (decide ((o0).Loom < (0 : Int)))) rfl (pick_f d3 rfl)) ?_
            refine L_pur (c := .bool ((decide ((o0).Loom ≥ (((x0).Widths).length : Int))))) rfl rfl .plain (fun _ _ hd => P_move rfl) ?_
            refine L_pur (c := .int .i64 (j1)) rfl rfl (.yes2 rfl rfl m4) (fun _ _ hd => P_move p5) ?_
            refine L_pur (c := .bool ((decide (j1 > (0 : Int))))) rfl rfl (.yes2 rfl rfl m4) (fun _ _ hd => P_int rfl rfl rfl) ?_
            refine L_pur (c := .bool ((decide (j1 > (0 : Int))))) rfl rfl (.yes2 rfl rfl m4) (fun _ _ hd => P_move rfl) ?_
            refine L_pur (c := fPtr u3 0) rfl rfl (.yes2 rfl rfl o3) (fun _ _ hd => P_fieldAddr at_76_0 rfl (OB.ptr b5656)) ?_
            refine L_ld (c := .int .i64 ((o0).Order)) rfl rfl (.yes2 rfl rfl o3) (fun _ _ h => ⟨h.ch, fun b hb _ => h.below.block b hb⟩) g9 rfl ?_
            refine L_pur (c := up2) rfl rfl (.yes2 rfl rfl o3) (fun _ _ hd => P_move u5) ?_
            refine L_pur (c := .int .i64 (j1)) rfl rfl (.yes2 rfl rfl o3) (fun _ _ hd => P_move p5) ?_
            refine L_pur (c := .int .i64 ((w64 (j1 - (1 : Int))))) rfl rfl (.yes2 rfl rfl o3) (fun _ _ hd => P_int rfl rfl rfl) ?_
            refine L_pur (c := ePtr up2 (w64 (j1 - (1 : Int))) 3) rfl rfl (.yes2 rfl rfl o3) (fun _ _ hd => P_indexAddr (α := LoomRun) Try.underlying31 Try.sizeOf76 rfl i3 rfl c8) ?_
            refine L_pur (c := fPtr (ePtr up2 (w64 (j1 - (1 : Int))) 3) 0) rfl rfl (.yes2 rfl rfl o3) (fun _ _ hd => P_fieldAddr at_76_0 rfl (PT.ptr y8)) ?_
            refine L_ld (c := .int .i64 ((c6).Order)) rfl rfl (.yes2 rfl rfl o3) (fun _ _ h => h.ch) i9 rfl ?_
            refine L_pur (c := .bool ((decide ((o0).Order ≤ (c6).Order)))) rfl rfl (.yes2 rfl rfl o3) (fun _ _ hd => P_int rfl rfl rfl) ?_
            refine L_pur (c := .bool ((decide ((o0).Order ≤ (c6).Order)))) rfl rfl (.yes2 rfl rfl m4) (fun _ _ hd => P_pick (b := (decide (j1 > (0 : Int)))) rfl (pick_t o3 rfl)) ?_
            refine L_pur (c := .bool ((decide ((o0).Order ≤ (c6).Order)))) rfl rfl .plain (fun _ _ hd => P_pick (b := (decide ((o0).Loom ≥ (((x0).Widths).length : Int)))) rfl (pick_f m4 rfl)) ?_
            refine L_pur (c := .bool ((decide ((o0).Order ≤ (c6).Order)))) rfl rfl .plain (fun _ _ hd => P_move rfl) ?_
            refine L_skip rfl (.no2 rfl rfl d6 rfl) ?_
            refine L_skip rfl (.no2 rfl rfl d6 rfl) ?_
            refine L_skip rfl (.no2 rfl rfl d6 rfl) ?_
            refine L_pur (c := .bool true) rfl rfl .plain (fun _ _ hd => P_pick (b := (decide ((o0).Order ≤ (c6).Order))) rfl (pick_t d6 rfl)) ?_
            refine L_nil fun nC uE hall => ?_
            have hs := hall.1
            have hfr := hfr.ext hs
            have z2 := z2.ext hs
            have i3 := i3.ext hs
            have j3 := j3.ext hs
            have b5656 := b5656.ext hs
            clear hs hall
            refine EL_nil ?_
            obtain rfl := sinj h
            exact hQ _ _ ⟨nC, hfr, o5, z2, u5, i3, t5, j3, p5, rfl, b5656, rfl⟩
           ·refine L_loadO (x := .tmp 59) part_LoomRun_2.1 Try.isAgg3 Try.sizeOf3 b5656 fun vE oC oB => ?_
            obtain rfl := RV_int.1 oC
            refine E_drawL (g := z6) (n := 43) [] [0, 1, 2, 3, 4, 5, 6, 7, 8, 9, 10, 11, 12, 13, 14, 15, 16, 17, 18, 19, 20, 21, 22, 23, 24, 25, 26, 27, 28, 29, 30, 31, 32, 33, 34, 35, 36, 37, 38, 39, 40, 41, 42] rfl mixed (by kernel_rfl) trivial ?_
            refine L_pur (c := fPtr u3 0) rfl rfl .plain (fun _ _ hd => P_fieldAddr at_76_0 rfl (OB.ptr b5656)) ?_
            refine L_ld (c := .int .i64 ((o0).Order)) rfl rfl .plain (fun _ _ h => ⟨h.ch, fun b hb _ => h.below.block b hb⟩) x6 rfl ?_
            refine L_pur (c := .bool ((decide ((o0).Order < (0 : Int))))) rfl rfl .plain (fun _ _ hd => P_int rfl rfl rfl) ?_
            refine L_pur (c := .bool ((decide ((o0).Order < (0 : Int))))) rfl rfl .plain (fun _ _ hd => P_move rfl) ?_
            refine L_pur (c := fPtr u3 0) rfl rfl (.yes2 rfl rfl u0) (fun _ _ hd => P_fieldAddr at_76_0 rfl (OB.ptr b5656)) ?_
            refine L_ld (c := .int .i64 ((o0).Order)) rfl rfl (.yes2 rfl rfl u0) (fun _ _ h => ⟨h.ch, fun b hb _ => h.below.block b hb⟩) y6 rfl ?_
            refine L_pur (c := up1) rfl rfl (.yes2 rfl rfl u0) (fun _ _ hd => P_move o5) ?_
            refine L_pur (c := .int .i64 ((x1).length : Int)) rfl rfl (.yes2 rfl rfl u0) (fun _ _ hd => P_len Try.underlying25 rfl z2) ?_
            refine L_pur (c := .bool ((decide ((o0).Order ≥ ((x1).length : Int))))) rfl rfl (.yes2 rfl rfl u0) (fun _ _ hd => P_int rfl rfl rfl) ?_
            refine L_pur (c := .bool ((decide ((o0).Order ≥ ((x1).length : Int))))) rfl rfl .plain (fun _ _ hd => P_pick (b := (decide ((o0).Order < (0 : Int)))) rfl (pick_f u0 rfl)) ?_
            refine L_pur (c := .bool ((decide ((o0).Order ≥ ((x1).length : Int))))) rfl rfl .plain (fun _ _ hd => P_move rfl) ?_
            refine L_pur (c := fPtr u3 1) rfl rfl (.yes2 rfl rfl d4) (fun _ _ hd => P_fieldAddr at_76_1 rfl (OB.ptr b5656)) ?_
            refine L_ld (c := .int .i64 ((o0).Loom)) rfl rfl (.yes2 rfl rfl d4) (fun _ _ h => ⟨h.ch, fun b hb _ => h.below.block b hb⟩) b7 rfl ?_
            refine L_pur (c := .bool ((decide ((o0).Loom < (0 : Int))))) rfl rfl (.yes2 rfl rfl d4) (fun _ _ hd => P_int rfl rfl rfl) ?_
            refine L_pur (c := .bool ((decide ((o0).Loom < (0 : Int))))) rfl rfl .plain (fun _ _ hd => P_pick (b := (decide ((o0).Order ≥ ((x1).length : Int)))) rfl (pick_f d4 rfl)) ?_
            refine L_pur (c := .bool ((decide ((o0).Loom < (0 : Int))))) rfl rfl .plain (fun _ _ hd => P_move rfl) ?_
            refine L_pur (c := fPtr u3 1) rfl rfl (.yes2 rfl rfl d3) (fun _ _ hd => P_fieldAddr at_76_1 rfl (OB.ptr b5656)) ?_
            refine L_ld (c := .int .i64 ((o0).Loom)) rfl rfl (.yes2 rfl rfl d3) (fun _ _ h => ⟨h.ch, fun b hb _ => h.below.block b hb⟩) e7 rfl ?_
            refine L_pur (c := fPtr p1 0) rfl rfl (.yes2 rfl rfl d3) (fun _ _ hd => P_fieldAddr at_24_0 t5 (PT.ptr j3)) ?_
            refine L_ld (c := q7) rfl rfl (.yes2 rfl rfl d3) (fun _ _ h => h.ch) g7 rfl ?_
            refine L_pur (c := .int .i64 (((x0).Widths).length : Int)) rfl rfl (.yes2 rfl rfl d3) (fun _ _ hd => P_len Try.underlying22 rfl t7) ?_
            refine L_pur (c := .bool ((decide ((o0).Loom ≥ (((x0).Widths).length : Int))))) rfl rfl (.yes2 rfl rfl d3) (fun _ _ hd => P_int rfl rfl rfl) ?_
            refine L_pur (c := .bool ((decide ((o0).Loom ≥ (((x0).Widths).length : Int))))) rfl rfl .plain (fun _ _ hd => P_pick (b := (decide ((o0).Loom < (0 : Int)))) rfl (pick_f d3 rfl)) ?_
            refine L_pur (c := .bool ((decide ((o0).Loom ≥ (((x0).Widths).length : Int))))) rfl rfl .plain (fun _ _ hd => P_move rfl) ?_
            refine L_pur (c := .int .i64 (j1)) rfl rfl (.yes2 rfl rfl m4) (fun _ _ hd => P_move p5) ?_
            refine L_pur (c := .bool ((decide (j1 > (0 : Int))))) rfl rfl (.yes2 rfl rfl m4) (fun _ _ hd => P_int rfl rfl rfl) ?_
            refine L_pur (c := .bool ((decide (j1 > (0 : Int))))) rfl rfl (.yes2 rfl rfl m4) (fun _ _ hd => P_move rfl) ?_
            refine L_pur (c := fPtr u3 0) rfl rfl (.yes2 rfl rfl o3) (fun _ _ hd => P_fieldAddr at_76_0 rfl (OB.ptr b5656)) ?_
            refine L_ld (c := .int .i64 ((o0).Order)) rfl rfl (.yes2 rfl rfl o3) (fun _ _ h => ⟨h.ch, fun b hb _ => h.below.block b hb⟩) g9 rfl ?_
            refine L_pur (c := up2) rfl rfl (.yes2 rfl rfl o3) (fun _ _ hd => P_move u5) ?_
            refine L_pur (c := .int .i64 (j1)) rfl rfl (.yes2 rfl rfl o3) (fun _ _ hd => P_move p5) ?_
            refine L_pur (c := .int .i64 ((w64 (j1 - (1 : Int))))) rfl rfl (.yes2 rfl rfl o3) (fun _ _ hd => P_int rfl rfl rfl) ?_
            refine L_pur (c := ePtr up2 (w64 (j1 - (1 : Int))) 3) rfl rfl (.yes2 rfl rfl o3) (fun _ _ hd => P_indexAddr (α := LoomRun) Try.underlying31 Try.sizeOf76 rfl i3 rfl c8) ?_
            refine L_pur (c := fPtr (ePtr up2 (w64 (j1 - (1 : Int))) 3) 0) rfl rfl (.yes2 rfl rfl o3) (fun _ _ hd => P_fieldAddr at_76_0 rfl (PT.ptr y8)) ?_
            refine L_ld (c := .int .i64 ((c6).Order)) rfl rfl (.yes2 rfl rfl o3) (fun _ _ h => h.ch) i9 rfl ?_
            refine L_pur (c := .bool ((decide ((o0).Order ≤ (c6).Order)))) rfl rfl (.yes2 rfl rfl o3) (fun _ _ hd => P_int rfl rfl rfl) ?_
            refine L_pur (c := .bool ((decide ((o0).Order ≤ (c6).Order)))) rfl rfl (.yes2 rfl rfl m4) (fun _ _ hd => P_pick (b := (decide (j1 > (0 : Int)))) rfl (pick_t o3 rfl)) ?_
            refine L_pur (c := .bool ((decide ((o0).Order ≤ (c6).Order)))) rfl rfl .plain (fun _ _ hd => P_pick (b := (decide ((o0).Loom ≥ (((x0).Widths).length : Int)))) rfl (pick_f m4 rfl)) ?_
            refine L_pur (c := .bool ((decide ((o0).Order ≤ (c6).Order)))) rfl rfl .plain (fun _ _ hd => P_move rfl) ?_
            refine L_pur (c := fPtr u3 2) rfl rfl (.yes2 rfl rfl d6) (fun _ _ hd => P_fieldAddr at_76_2 rfl (OB.ptr b5656)) ?_
            refine L_ld (c := .int .i64 ((o0).From)) rfl rfl (.yes2 rfl rfl d6) (fun _ _ h => ⟨h.ch, fun b hb _ => h.below.block b hb⟩) oB rfl ?_
            refine L_pur (c := .bool ((decide ((o0).From > (1000 : Int))))) rfl rfl (.yes2 rfl rfl d6) (fun _ _ hd => P_int rfl rfl rfl) ?_
            refine L_pur (c := .bool ((decide ((o0).From > (1000 : Int))))) rfl rfl .plain (fun _ _ hd => P_pick (b := (decide ((o0).Order ≤ (c6).Order))) rfl (pick_f d6 rfl)) ?_
            refine L_nil fun qC xE hall => ?_
            have hs := hall.1
            have hfr := hfr.ext hs
            have z2 := z2.ext hs
            have i3 := i3.ext hs
            have j3 := j3.ext hs
            have b5656 := b5656.ext hs
            clear hs hall
            refine EL_nil ?_
            obtain rfl := sinj h
            exact hQ _ _ ⟨qC, hfr, o5, z2, u5, i3, t5, j3, p5, rfl, b5656, rfl⟩
          ·refine L_loadO (x := .tmp 59) part_LoomRun_2.1 Try.isAgg3 Try.sizeOf3 b5656 fun yE rC pB => ?_
           obtain rfl := RV_int.1 rC
           refine E_drawL (g := z6) (n := 43) [] [0, 1, 2, 3, 4, 5, 6, 7, 8, 9, 10, 11, 12, 13, 14, 15, 16, 17, 18, 19, 20, 21, 22, 23, 24, 25, 26, 27, 28, 29, 30, 31, 32, 33, 34, 35, 36, 37, 38, 39, 40, 41, 42] rfl mixed (by kernel_rfl) trivial ?_
           refine L_pur (c := fPtr u3 0) rfl rfl .plain (fun _ _ hd => P_fieldAddr at_76_0 rfl (OB.ptr b5656)) ?_
           refine L_ld (c := .int .i64 ((o0).Order)) rfl rfl .plain (fun _ _ h => ⟨h.ch, fun b hb _ => h.below.block b hb⟩) x6 rfl ?_
           refine L_pur (c := .bool ((decide ((o0).Order < (0 : Int))))) rfl rfl .plain (fun _ _ hd => P_int rfl rfl rfl) ?_
           refine L_pur (c := .bool ((decide ((o0).Order < (0 : Int))))) rfl rfl .plain (fun _ _ hd => P_move rfl) ?_
           refine L_pur (c := fPtr u3 0) rfl rfl (.yes2 rfl rfl u0) (fun _ _ hd => P_fieldAddr at_76_0 rfl (OB.ptr b5656)) ?_
           refine L_ld (c := .int .i64 ((o0).Order)) rfl rfl (.yes2 rfl rfl u0) (fun _ _ h => ⟨h.ch, fun b hb _ => h.below.block b hb⟩) y6 rfl ?_
           refine L_pur (c := up1) rfl rfl (.yes2 rfl rfl u0) (fun _ _ hd => P_move o5) ?_
           refine L_pur (c := .int .i64 ((x1).length : Int)) rfl rfl (.yes2 rfl rfl u0) (fun _ _ hd => P_len Try.underlying25 rfl z2) ?_
           refine L_pur (c := .bool ((decide ((o0).Order ≥ ((x1).length : Int))))) rfl rfl (.yes2 rfl rfl u0) (fun _ _ hd => P_int rfl rfl rfl) ?_
           refine L_pur (c := .bool ((decide ((o0).Order ≥ ((x1).length : Int))))) rfl rfl .plain (fun _ _ hd => P_pick (b := (decide ((o0).Order < (0 : Int)))) rfl (pick_f u0 rfl)) ?_
           refine L_pur (c := .bool ((decide ((o0).Order ≥ ((x1).length : Int))))) rfl rfl .plain (fun _ _ hd => P_move rfl) ?_
           refine L_pur (c := fPtr u3 1) rfl rfl (.yes2 rfl rfl d4) (fun _ _ hd => P_fieldAddr at_76_1 rfl (OB.ptr b5656)) ?_
           refine L_ld (c := .int .i64 ((o0).Loom)) rfl rfl (.yes2 rfl rfl d4) (fun _ _ h => ⟨h.ch, fun b hb _ => h.below.block b hb⟩) b7 rfl ?_
           refine L_pur (c := .bool ((decide ((o0).Loom < (0 : Int))))) rfl rfl (.yes2 rfl rfl d4) (fun _ _ hd => P_int rfl rfl rfl) ?_
           refine L_pur (c := .bool ((decide ((o0).Loom < (0 : Int))))) rfl rfl .plain (fun _ _ hd => P_pick (b := (decide ((o0).Order ≥ ((x1).length : Int)))) rfl (pick_f d4 rfl)) ?_
           refine L_pur (c := .bool ((decide ((o0).Loom < (0 : Int))))) rfl rfl .plain (fun _ _ hd => P_move rfl) ?_
           refine L_pur (c := fPtr u3 1) rfl rfl (.yes2 rfl rfl d3) (fun _ _ hd => P_fieldAddr at_76_1 rfl (OB.ptr b5656)) ?_
           refine L_ld (c := .int .i64 ((o0).Loom)) rfl rfl (.yes2 rfl rfl d3) (fun _ _ h => ⟨h.ch, fun b hb _ => h.below.block b hb⟩) e7 rfl ?_
           refine L_pur (c := fPtr p1 0) rfl rfl (.yes2 rfl rfl d3) (fun _ _ hd => P_fieldAddr at_24_0 t5 (PT.ptr j3)) ?_
           refine L_ld (c := q7) rfl rfl (.yes2 rfl rfl d3) (fun _ _ h => h.ch) g7 rfl ?_
           refine L_pur (c := .int .i64 (((x0).Widths).length : Int)) rfl rfl (.yes2 rfl rfl d3) (fun _ _ hd => P_len Try.underlying22 rfl t7) ?_
           refine L_pur (c := .bool ((decide ((o0).Loom ≥ (((x0).Widths).length : Int))))) rfl rfl (.yes2 rfl rfl d3) (fun _ _ hd => P_int rfl rfl rfl) ?_
           refine L_pur (c := .bool ((decide ((o0).Loom ≥ (((x0).Widths).length : Int))))) rfl rfl .plain (fun _ _ hd => P_pick (b := (decide ((o0).Loom < (0 : Int)))) rfl (pick_f d3 rfl)) ?_
           refine L_pur (c := .bool ((decide ((o0).Loom ≥ (((x0).Widths).length : Int))))) rfl rfl .plain (fun _ _ hd => P_move rfl) ?_
           refine L_pur (c := .int .i64 (j1)) rfl rfl (.yes2 rfl rfl m4) (fun _ _ hd => P_move p5) ?_
           refine L_pur (c := .bool ((decide (j1 > (0 : Int))))) rfl rfl (.yes2 rfl rfl m4) (fun _ _ hd => P_int rfl rfl rfl) ?_
           refine L_pur (c := .bool ((decide (j1 > (0 : Int))))) rfl rfl (.yes2 rfl rfl m4) (fun _ _ hd => P_move rfl) ?_
           refine L_skip rfl (.no2 rfl rfl o3 rfl) ?_
           refine L_skip rfl (.no2 rfl rfl o3 rfl) ?_
           refine L_skip rfl (.no2 rfl rfl o3 rfl) ?_
           refine L_skip rfl (.no2 rfl rfl o3 rfl) ?_
           refine L_skip rfl (.no2 rfl rfl o3 rfl) ?_
           refine L_skip rfl (.no2 rfl rfl o3 rfl) ?_
           refine L_skip rfl (.no2 rfl rfl o3 rfl) ?_
           refine L_skip rfl (.no2 rfl rfl o3 rfl) ?_
           refine L_skip rfl (.no2 rfl rfl o3 rfl) ?_
           refine L_pur (c := .bool false) rfl rfl (.yes2 rfl rfl m4) (fun _ _ hd => P_pick (b := (decide (j1 > (0 : Int)))) rfl (pick_f o3 rfl)) ?_
           refine L_pur (c := .bool false) rfl rfl .plain (fun _ _ hd => P_pick (b := (decide ((o0).Loom ≥ (((x0).Widths).length : Int)))) rfl (pick_f m4 rfl)) ?_
           refine L_pur (c := .bool false) rfl rfl .plain (fun _ _ hd => P_move rfl) ?_
           refine L_pur (c := fPtr u3 2) rfl rfl (.yes2 rfl rfl rfl) (fun _ _ hd => P_fieldAddr at_76_2 rfl (OB.ptr b5656)) ?_
           refine L_ld (c := .int .i64 ((o0).From)) rfl rfl (.yes2 rfl rfl rfl) (fun _ _ h => ⟨h.ch, fun b hb _ => h.below.block b hb⟩) pB rfl ?_
           refine L_pur (c := .bool ((decide ((o0).From > (1000 : Int))))) rfl rfl (.yes2 rfl rfl rfl) (fun _ _ hd => P_int rfl rfl rfl) ?_
           refine L_pur (c := .bool ((decide ((o0).From > (1000 : Int))))) rfl rfl .plain (fun _ _ hd => P_pick (b := false) rfl (pick_f rfl rfl)) ?_
           refine L_nil fun sC zE hall => ?_
           have hs := hall.1
           have hfr := hfr.ext hs
           have z2 := z2.ext hs
           have i3 := i3.ext hs
           have j3 := j3.ext hs
           have b5656 := b5656.ext hs
           clear hs hall
           refine EL_nil ?_
           obtain rfl := sinj h
           exact hQ _ _ ⟨sC, hfr, o5, z2, u5, i3, t5, j3, p5, rfl, b5656, rfl⟩
     ·clear hx
      obtain ⟨tC, hfr, z9, bA, cA, dA, eA, gA, iA, jA, kA, e8⟩ := hR
      rcases csome h with ⟨g8, h⟩ | ⟨g8, h⟩
      ·refine E_cond_true (Eq.trans (show ev _ _ = .bool (v6) from e8) (congrArg Value.bool g8)) ?_
       refine E_seq (E_region (EL_at (.bool false) rfl rfl ?_))
       refine EL_nil (thn_n (E_ret (thn_r ?_)))
       refine blk_r ?_
       refine thn_r ?_
       refine thn_r ?_
       refine blk_r ?_
       refine thn_r ?_
       obtain rfl := sinj h
       exact end1 rfl rfl (show _ = .bool false from rfl) ⟨_, hfr, rfl⟩
      ·refine E_cond_false (Eq.trans (show ev _ _ = .bool (v6) from e8) (congrArg Value.bool g8)) ?_
       exact E_skip (thn_n (nB () _ _ ⟨tC, hfr, z9, bA, cA, dA, eA, gA, iA, jA, kA⟩ h))
    ·rintro _ vD cF ⟨z8, hfr, c7, i5, n7, q5, j6, p4, o7, i6, l5⟩ h
     refine E_seq (E_region (EL_mv c7 rfl ?_))
     refine EL_pur (v := fPtr u3 0) (P_fieldAddr at_76_0 i6 (OB.ptr l5)) .plain rfl ?_
     refine EL_do .plain rfl (D_loadF (g := z8) part_LoomRun_0.1 Try.isAgg3 Try.sizeOf3 rfl l5 fun dF uC => ?_)
     obtain rfl := RV_int.1 uC
     obtain ⟨z3, j9, h⟩ := bsome h
     refine EL_pur (v := ePtr up1 (o0).Order 5) (P_indexAddr (α := LoomOrder) Try.underlying25 Try.sizeOf82 rfl i5 rfl j9) .plain rfl ?_
     have vC := PT_idx i5 j9
     refine EL_do .plain rfl (D_load (g := z8) Try.isAgg82 Try.sizeOf82 rfl vC fun xC a9 => ?_)
     refine EL_do .plain rfl (D_allocOc (g := z8) 2009 (⟨0, 0, 0, 0, 0⟩ : LoomOrder) Try.zeroValue82 (fun m w => ⟨_, (rep_two rep_int (rep_two rep_int (rep_two rep_int (rep_two rep_int rep_int)))), rfl⟩) fun yC eF a7 hs b7256 cb => ?_)
     have hfr := hfr.stp hs
     have i5 := i5.stp hs
     have q5 := q5.stp hs
     have p4 := p4.stp hs
     have l5 := l5.stp hs rfl
     have a9 := a9.stp hs
     clear cb
     refine EL_do .plain rfl (D_storeOc (g := yC) (v := xC) Try.sizeOf82 rfl b7256 rfl a9 fun d9 gF hs b7257 cb => ?_)
     clear cb
     have hfr := hfr.stp hs
     have i5 := i5.stp hs
     have q5 := q5.stp hs
     have p4 := p4.stp hs
     have l5 := l5.stp hs rfl
     refine EL_nil (thn_n ?_)
     obtain ⟨l6, hx, h⟩ := bsome h
     refine E_join (fun e w => ∃ (g : Gh) , Fr gI wI g w ∧ e 1 = up1 ∧ RV g.m w (x1 : List LoomOrder) up1 ∧ e 2 = up2 ∧ RV g.m w (x2 : List LoomRun) up2 ∧ e 3 = p1 ∧ PT g.m w (x0 : LoomMill) p1 ∧ e 7 = .int .i64 (j1) ∧ e 93 = .bool (l6)) (fun Q' hQ => ?_) (fun xD iF hR => ?_)
     ·replace h := hx
      clear hx
      refine L_loadO (x := .tmp 68) part_LoomOrder_0.1 Try.isAgg3 Try.sizeOf3 b7257 fun jF zC i8 => ?_
      obtain rfl := RV_int.1 zC
      have aD := PT_field (part_LoomMill_0).1 p4
      refine L_load (x := .tmp 70) Try.isAgg22 Try.sizeOf22 aD fun d7 u7 k8 => ?_
      refine L_loadO (x := .tmp 72) part_LoomRun_1.1 Try.isAgg3 Try.sizeOf3 l5 fun kF bD l8 => ?_
      obtain rfl := RV_int.1 bD
      obtain ⟨x5, i7, h⟩ := bsome h
      have cD := PT_idx u7 i7
      refine L_load (x := .tmp 74) Try.isAgg3 Try.sizeOf3 cD fun lF dD m8 => ?_
      obtain rfl := RV_int.1 dD
      rcases csome h with ⟨z4, h⟩ | ⟨z4, h⟩
      ·refine E_drawL (g := d9) (n := 26) [] [0, 1, 2, 3, 4, 5, 6, 7, 8, 9, 10, 11, 12, 13, 14, 15, 16, 17, 18, 19, 20, 21, 22, 23, 24, 25] rfl mixed (by kernel_rfl) trivial ?_
       refine L_pur (c := fPtr a7 0) rfl rfl .plain (fun _ _ hd => P_fieldAddr at_82_0 rfl (OB.ptr b7257)) ?_
       refine L_ld (c := .int .i64 ((z3).Width)) rfl rfl .plain (fun _ _ h => ⟨h.ch, fun b hb _ => h.below.block b hb⟩) i8 rfl ?_
       refine L_pur (c := fPtr p1 0) rfl rfl .plain (fun _ _ hd => P_fieldAddr at_24_0 j6 (PT.ptr p4)) ?_
       refine L_ld (c := d7) rfl rfl .plain (fun _ _ h => h.ch) k8 rfl ?_
       refine L_pur (c := fPtr u3 1) rfl rfl .plain (fun _ _ hd => P_fieldAddr at_76_1 i6 (OB.ptr l5)) ?_
       refine L_ld (c := .int .i64 ((o0).Loom)) rfl rfl .plain (fun _ _ h => ⟨h.ch, fun b hb _ => h.below.block b hb⟩) l8 rfl ?_
       refine L_pur (c := ePtr d7 (o0).Loom 1) rfl rfl .plain (fun _ _ hd => P_indexAddr (α := Int) Try.underlying22 Try.sizeOf3 rfl u7 rfl i7) ?_
       refine L_ld (c := .int .i64 (x5)) rfl rfl .plain (fun _ _ h => h.ch) m8 rfl ?_
       refine L_pur (c := .bool ((decide ((z3).Width > x5)))) rfl rfl .plain (fun _ _ hd => P_int rfl rfl rfl) ?_
       refine L_pur (c := .bool ((decide ((z3).Width > x5)))) rfl rfl .plain (fun _ _ hd => P_move rfl) ?_
       refine L_skip rfl (.no2 rfl rfl z4 rfl) ?_
       refine L_skip rfl (.no2 rfl rfl z4 rfl) ?_
       refine L_skip rfl (.no2 rfl rfl z4 rfl) ?_
       refine L_skip rfl (.no2 rfl rfl z4 rfl) ?_
       refine L_skip rfl (.no2 rfl rfl z4 rfl) ?_
       refine L_pur (c := .bool true) rfl rfl .plain (fun _ _ hd => P_pick (b := (decide ((z3).Width > x5))) rfl (pick_t z4 rfl)) ?_
       refine L_dead (fun _ => rfl) 10 rfl ?_
       refine L_nil fun eD mF hall => ?_
       have hs := hall.1
       have hfr := hfr.ext hs
       have i5 := i5.ext hs
       have q5 := q5.ext hs
       have p4 := p4.ext hs
       clear hs hall
       refine EL_nil ?_
       obtain rfl := sinj h
       exact hQ _ _ ⟨eD, hfr, c7, i5, n7, q5, j6, p4, o7, rfl⟩
      ·refine L_loadO (x := .tmp 78) part_LoomRun_2.1 Try.isAgg3 Try.sizeOf3 l5 fun nF gD k9 => ?_
       obtain rfl := RV_int.1 gD
       refine L_loadO (x := .tmp 80) part_LoomOrder_3.1 Try.isAgg3 Try.sizeOf3 b7257 fun oF iD l9 => ?_
       obtain rfl := RV_int.1 iD
       rcases csome h with ⟨d5, h⟩ | ⟨d5, h⟩
       ·refine E_drawL (g := d9) (n := 26) [] [0, 1, 2, 3, 4, 5, 6, 7, 8, 9, 10, 11, 12, 13, 14, 15, 16, 17, 18, 19, 20, 21, 22, 23, 24, 25] rfl mixed (by kernel_rfl) trivial ?_
        refine L_pur (c := fPtr a7 0) rfl rfl .plain (fun _ _ hd => P_fieldAddr at_82_0 rfl (OB.ptr b7257)) ?_
        refine L_ld (c := .int .i64 ((z3).Width)) rfl rfl .plain (fun _ _ h => ⟨h.ch, fun b hb _ => h.below.block b hb⟩) i8 rfl ?_
        refine L_pur (c := fPtr p1 0) rfl rfl .plain (fun _ _ hd => P_fieldAddr at_24_0 j6 (PT.ptr p4)) ?_
        refine L_ld (c := d7) rfl rfl .plain (fun _ _ h => h.ch) k8 rfl ?_
        refine L_pur (c := fPtr u3 1) rfl rfl .plain (fun _ _ hd => P_fieldAddr at_76_1 i6 (OB.ptr l5)) ?_
        refine L_ld (c := .int .i64 ((o0).Loom)) rfl rfl .plain (fun _ _ h => ⟨h.ch, fun b hb _ => h.below.block b hb⟩) l8 rfl ?_
        refine L_pur (c := ePtr d7 (o0).Loom 1) rfl rfl .plain (fun _ _ hd => P_indexAddr (α := Int) Try.underlying22 Try.sizeOf3 rfl u7 rfl i7) ?_
        refine L_ld (c := .int .i64 (x5)) rfl rfl .plain (fun _ _ h => h.ch) m8 rfl ?_
        refine L_pur (c := .bool ((decide ((z3).Width > x5)))) rfl rfl .plain (fun _ _ hd => P_int rfl rfl rfl) ?_
        refine L_pur (c := .bool ((decide ((z3).Width > x5)))) rfl rfl .plain (fun _ _ hd => P_move rfl) ?_
        refine L_pur (c := fPtr u3 2) rfl rfl (.yes2 rfl rfl z4) (fun _ _ hd => P_fieldAddr at_76_2 i6 (OB.ptr l5)) ?_
        refine L_ld (c := .int .i64 ((o0).From)) rfl rfl (.yes2 rfl rfl z4) (fun _ _ h => ⟨h.ch, fun b hb _ => h.below.block b hb⟩) k9 rfl ?_
        refine L_pur (c := fPtr a7 3) rfl rfl (.yes2 rfl rfl z4) (fun _ _ hd => P_fieldAddr at_82_3 rfl (OB.ptr b7257)) ?_
        refine L_ld (c := .int .i64 ((z3).Early)) rfl rfl (.yes2 rfl rfl z4) (fun _ _ h => ⟨h.ch, fun b hb _ => h.below.block b hb⟩) l9 rfl ?_
        refine L_pur (c := .bool ((decide ((o0).From < (z3).Early)))) rfl rfl (.yes2 rfl rfl z4) (fun _ _ hd => P_int rfl rfl rfl) ?_
        refine L_pur (c := .bool ((decide ((o0).From < (z3).Early)))) rfl rfl .plain (fun _ _ hd => P_pick (b := (decide ((z3).Width > x5))) rfl (pick_f z4 rfl)) ?_
        refine L_pur (c := .bool ((decide ((o0).From < (z3).Early)))) rfl rfl .plain (fun _ _ hd => P_move rfl) ?_
        refine L_skip rfl (.no2 rfl rfl d5 rfl) ?_
        refine L_skip rfl (.no2 rfl rfl d5 rfl) ?_
        refine L_skip rfl (.no2 rfl rfl d5 rfl) ?_
        refine L_skip rfl (.no2 rfl rfl d5 rfl) ?_
        refine L_skip rfl (.no2 rfl rfl d5 rfl) ?_
        refine L_skip rfl (.no2 rfl rfl d5 rfl) ?_
        refine L_skip rfl (.no2 rfl rfl d5 rfl) ?_
        refine L_skip rfl (.no2 rfl rfl d5 rfl) ?_
        refine L_pur (c := .bool true) rfl rfl .plain (fun _ _ hd => P_pick (b := (decide ((o0).From < (z3).Early))) rfl (pick_t d5 rfl)) ?_
        refine L_nil fun jD pF hall => ?_
        have hs := hall.1
        have hfr := hfr.ext hs
        have i5 := i5.ext hs
        have q5 := q5.ext hs
        have p4 := p4.ext hs
        clear hs hall
        refine EL_nil ?_
        obtain rfl := sinj h
        exact hQ _ _ ⟨jD, hfr, c7, i5, n7, q5, j6, p4, o7, rfl⟩
       ·refine L_loadO (x := .tmp 85) part_LoomRun_2.1 Try.isAgg3 Try.sizeOf3 l5 fun qF kD qB => ?_
        obtain rfl := RV_int.1 kD
        refine L_loadO (x := .tmp 87) part_LoomOrder_2.1 Try.isAgg3 Try.sizeOf3 b7257 fun rF lD rB => ?_
        obtain rfl := RV_int.1 lD
        refine L_loadO (x := .tmp 90) part_LoomOrder_4.1 Try.isAgg3 Try.sizeOf3 b7257 fun sF mD sB => ?_
        obtain rfl := RV_int.1 mD
        refine E_drawL (g := d9) (n := 26) [] [0, 1, 2, 3, 4, 5, 6, 7, 8, 9, 10, 11, 12, 13, 14, 15, 16, 17, 18, 19, 20, 21, 22, 23, 24, 25] rfl mixed (by kernel_rfl) trivial ?_
        refine L_pur (c := fPtr a7 0) rfl rfl .plain (fun _ _ hd => P_fieldAddr at_82_0 rfl (OB.ptr b7257)) ?_
        refine L_ld (c := .int .i64 ((z3).Width)) rfl rfl .plain (fun _ _ h => ⟨h.ch, fun b hb _ => h.below.block b hb⟩) i8 rfl ?_
        refine L_pur (c := fPtr p1 0) rfl rfl .plain (fun _ _ hd => P_fieldAddr at_24_0 j6 (PT.ptr p4)) ?_
        refine L_ld (c := d7) rfl rfl .plain (fun _ _ h => h.ch) k8 rfl ?_
        refine L_pur (c := fPtr u3 1) rfl rfl .plain (fun _ _ hd => P_fieldAddr at_76_1 i6 (OB.ptr l5)) ?_
        refine L_ld (c := .int .i64 ((o0).Loom)) rfl rfl .plain (fun _ _ h => ⟨h.ch, fun b hb _ => h.below.block b hb⟩) l8 rfl ?_
        refine L_pur (c := ePtr d7 (o0).Loom 1) rfl rfl .plain (fun _ _ hd => P_indexAddr (α := Int) Try.underlying22 Try.sizeOf3 rfl u7 rfl i7) ?_
        refine L_ld (c := .int .i64 (x5)) rfl rfl .plain (fun _ _ h => h.ch) m8 rfl ?_
        refine L_pur (c := .bool ((decide ((z3).Width > x5)))) rfl rfl .plain (fun _ _ hd => P_int rfl rfl rfl) ?_
        refine L_pur (c := .bool ((decide ((z3).Width > x5)))) rfl rfl .plain (fun _ _ hd => P_move rfl) ?_
        refine L_pur (c := fPtr u3 2) rfl rfl (.yes2 rfl rfl z4) (fun _ _ hd => P_fieldAddr at_76_2 i6 (OB.ptr l5)) ?_
        refine L_ld (c := .int .i64 ((o0).From)) rfl rfl (.yes2 rfl rfl z4) (fun _ _ h => ⟨h.ch, fun b hb _ => h.below.block b hb⟩) k9 rfl ?_
        refine L_pur (c := fPtr a7 3) rfl rfl (.yes2 rfl rfl z4) (fun _ _ hd => P_fieldAddr at_82_3 rfl (OB.ptr b7257)) ?_
        refine L_ld (c := .int .i64 ((z3).Early)) rfl rfl (.yes2 rfl rfl z4) (fun _ _ h => ⟨h.ch, fun b hb _ => h.below.block b hb⟩) l9 rfl ?_
        refine L_pur (c := .bool ((decide ((o0).From < (z3).Early)))) rfl rfl (.yes2 rfl rfl z4) (fun _ _ hd => P_int rfl rfl rfl) ?_
        refine L_pur (c := .bool ((decide ((o0).From < (z3).Early)))) rfl rfl .plain (fun _ _ hd => P_pick (b := (decide ((z3).Width > x5))) rfl (pick_f z4 rfl)) ?_
        refine L_pur (c := .bool ((decide ((o0).From < (z3).Early)))) rfl rfl .plain (fun _ _ hd => P_move rfl) ?_
        refine L_pur (c := fPtr u3 2) rfl rfl (.yes2 rfl rfl d5) (fun _ _ hd => P_fieldAddr at_76_2 i6 (OB.ptr l5)) ?_
        refine L_ld (c := .int .i64 ((o0).From)) rfl rfl (.yes2 rfl rfl d5) (fun _ _ h => ⟨h.ch, fun b hb _ => h.below.block b hb⟩) qB rfl ?_
        refine L_pur (c := fPtr a7 2) rfl rfl (.yes2 rfl rfl d5) (fun _ _ hd => P_fieldAddr at_82_2 rfl (OB.ptr b7257)) ?_
        refine L_ld (c := .int .i64 ((z3).Woven)) rfl rfl (.yes2 rfl rfl d5) (fun _ _ h => ⟨h.ch, fun b hb _ => h.below.block b hb⟩) rB rfl ?_
        refine L_pur (c := .int .i64 ((w64 ((o0).From + (z3).Woven)))) rfl rfl (.yes2 rfl rfl d5) (fun _ _ hd => P_int rfl rfl rfl) ?_
        refine L_pur (c := fPtr a7 4) rfl rfl (.yes2 rfl rfl d5) (fun _ _ hd => P_fieldAddr at_82_4 rfl (OB.ptr b7257)) ?_
        refine L_ld (c := .int .i64 ((z3).Late)) rfl rfl (.yes2 rfl rfl d5) (fun _ _ h => ⟨h.ch, fun b hb _ => h.below.block b hb⟩) sB rfl ?_
        refine L_pur (c := .bool ((decide ((w64 ((o0).From + (z3).Woven)) > (z3).Late)))) rfl rfl (.yes2 rfl rfl d5) (fun _ _ hd => P_int rfl rfl rfl) ?_
        refine L_pur (c := .bool ((decide ((w64 ((o0).From + (z3).Woven)) > (z3).Late)))) rfl rfl .plain (fun _ _ hd => P_pick (b := (decide ((o0).From < (z3).Early))) rfl (pick_f d5 rfl)) ?_
        refine L_nil fun nD tF hall => ?_
        have hs := hall.1
        have hfr := hfr.ext hs
        have i5 := i5.ext hs
        have q5 := q5.ext hs
        have p4 := p4.ext hs
        clear hs hall
        refine EL_nil ?_
        obtain rfl := sinj h
        exact hQ _ _ ⟨nD, hfr, c7, i5, n7, q5, j6, p4, o7, rfl⟩
     ·clear hx
      obtain ⟨oD, hfr, lA, mA, nA, oA, pA, qA, rA, n8⟩ := hR
      rcases csome h with ⟨o8, h⟩ | ⟨o8, h⟩
      ·refine E_cond_true (Eq.trans (show ev _ _ = .bool (l6) from n8) (congrArg Value.bool o8)) ?_
       refine E_seq (E_region (EL_at (.bool false) rfl rfl ?_))
       refine EL_nil (thn_n (E_ret (blk_r ?_)))
       refine thn_r ?_
       refine thn_r ?_
       refine blk_r ?_
       refine thn_r ?_
       obtain rfl := sinj h
       exact end1 rfl rfl (show _ = .bool false from rfl) ⟨_, hfr, rfl⟩
      ·refine E_cond_false (Eq.trans (show ev _ _ = .bool (l6) from n8) (congrArg Value.bool o8)) ?_
       exact E_skip (blk_n (thn_n (mB () _ _ ⟨oD, hfr, lA, mA, nA, oA, pA, qA, rA⟩ h)))
   ·rintro _ yD uF ⟨pD, hfr, sA, tA, uA, vA, xA, yA, zA⟩ h
    refine E_region (EL_mv zA rfl ?_)
    refine EL_in (.int .i64 ((w64 (j1 + (1 : Int))))) rfl rfl rfl rfl ?_
    refine EL_at (.int .i64 ((w64 (j1 + (1 : Int))))) rfl rfl ?_
    exact EL_nil (thn_n (kB ((w64 (j1 + (1 : Int)))) _ _ ⟨pD, hfr, sA, tA, uA, vA, xA, yA, rfl⟩ h))
 ·rintro _ zD vF ⟨y9, hfr, aB, bB, cB, dB, eB, iB⟩ h
  refine E_seq (E_region (EL_do .plain rfl (D_load (g := y9) Try.isAgg24 Try.sizeOf24 eB iB fun qD rD => ?_)))
  refine EL_mv aB rfl ?_
  refine EL_mv cB rfl ?_
  obtain ⟨p7, tB, h⟩ := bsome h
  refine EL_do .plain rfl (D_call (g := y9) (vs := [qD, up1, up2]) en44 (.cons rfl (.cons rfl (.cons rfl .nil))) (wk44 rD bB dB tB) fun xF aE yF hs hr => ?_)
  have hfr := hfr.ext hs
  subst hr
  refine EL_at (.bool (p7)) rfl rfl ?_
  refine EL_nil (thn_n (E_ret ?_))
  obtain rfl := sinj h
  exact end1 rfl rfl (show _ = .bool (p7) from rfl) ⟨_, hfr, rfl⟩
def f52 (x0 : LoomLoomMill) : Option ((List Int)) :=
 (shl64 (1 : Int) ((((x0).LoomMill).Widths).length : Int)).bind fun y5 =>
 (f59 ((w64 (y5 - (1 : Int))))).bind fun y7 =>
 some (y7)
theorem en52 : Enters Try.prog 52 := enters_of Try.func52 (by kernel_rfl) rfl
theorem wk52 {gI : Gh} {wI : World} {x0 : LoomLoomMill} {up0 : Value} (rp0 : RV gI.m wI x0 up0) {r : (List Int)} (h : f52 x0 = some r) : Fn Try.prog 52 #[up0] gI wI (fun m w v => RV m w (r) v) := by
 unfold f52 at h
 refine fn_of_E Try.func52 rfl (Nat.le_of_ble_eq_true rfl) fun g0 hm hfr => ?_
 have rp0 : RV g0.m wI x0 up0 := hm ▸ rp0
 show E _ 10 none _ _ _ _ _
 refine E_seq (E_region (EL_do .plain rfl (D_box (g := g0) rfl rp0 fun g1 w1 p1 hs q1 => ?_)))
 have hfr := hfr.ext hs
 refine EL_at (.slice none 0 0) rfl rfl ?_
 refine EL_nil (thn_n (E_seq (E_region (EL_pur (v := fPtr p1 0) (P_fieldAddr at_96_0 rfl (PT.ptr q1)) .plain rfl ?_))))
 have q2 := PT_field (part_LoomLoomMill_0).1 q1
 refine EL_pur (v := fPtr (fPtr p1 0) 0) (P_fieldAddr at_24_0 rfl (PT.ptr q2)) .plain rfl ?_
 have q3 := PT_field (part_LoomMill_0).1 q2
 refine EL_do .plain rfl (D_load (g := g1) Try.isAgg22 Try.sizeOf22 rfl q3 fun v4 r4 => ?_)
 refine EL_pur (v := .int .i64 ((((x0).LoomMill).Widths).length : Int)) (P_len Try.underlying22 rfl r4) .plain rfl ?_
 obtain ⟨y5, hy5, h⟩ := bsome h
 refine EL_pur (v := .int .i64 (y5)) (P_int rfl rfl (congrArg (Option.map (Value.int .i64)) hy5)) .plain rfl ?_
 refine EL_in (.int .i64 ((w64 (y5 - (1 : Int))))) rfl rfl rfl rfl ?_
 obtain ⟨y7, o0, h⟩ := bsome h
 refine EL_do .plain rfl (D_call (g := g1) (vs := [.int .i64 ((w64 (y5 - (1 : Int))))]) en59 (.cons rfl .nil) (wk59  o0) fun g6 w6_ v6 hs hr => ?_)
 have hfr := hfr.ext hs
 have r6 := hr
 refine EL_at v6 rfl rfl ?_
 refine EL_nil (thn_n (E_ret ?_))
 obtain rfl := sinj h
 exact end1 rfl rfl (show _ = v6 from rfl) ⟨_, hfr, r6⟩
def f66 (x0 : LoomStill) (x1 : LoomRun) : Option (Bool) :=
 Option.bind (α := Bool) (
  bif (decide ((x1).From ≤ (((x0).LoomStop).Days).High)) then
   (f73 ((x0).mill) x1).bind fun j1 =>
   some ((decide (j1 > (((x0).LoomStop).Days).Low)))
  else
   some (false)
  ) fun u0 =>
 some (u0)
theorem en66 : Enters Try.prog 66 := enters_of Try.func66 (by kernel_rfl) rfl
theorem wk66 {gI : Gh} {wI : World} {x0 : LoomStill} {x1 : LoomRun} {up0 : Value} (rp0 : RV gI.m wI x0 up0) {up1 : Value} (rp1 : RV gI.m wI x1 up1) {r : Bool} (h : f66 x0 x1 = some r) : Fn Try.prog 66 #[up0, up1] gI wI (fun _ _ v => v = .bool (r)) := by
 unfold f66 at h
 refine fn_of_E Try.func66 rfl (Nat.le_of_ble_eq_true rfl) fun g0 hm hfr => ?_
 have rp0 : RV g0.m wI x0 up0 := hm ▸ rp0
 have rp1 : RV g0.m wI x1 up1 := hm ▸ rp1
 show E _ 23 none _ _ _ _ _
 refine E_seq (E_region (EL_do .plain rfl (D_box (g := g0) rfl rp0 fun g1 w1 p1 hs q1 => ?_)))
 have hfr := hfr.ext hs
 have rp1 := rp1.ext hs
 refine EL_do .plain rfl (D_box (g := g1) rfl rp1 fun g2 w2 p2 hs q2 => ?_)
 have hfr := hfr.ext hs
 have q1 := q1.ext hs
 refine EL_at (.bool false) rfl rfl ?_
 refine EL_nil (thn_n ?_)
 obtain ⟨u0, hx, h⟩ := bsome h
 refine E_join (fun e w => ∃ (g : Gh) , Fr gI wI g w ∧ e 4 = .bool (u0)) (fun Q' hQ => ?_) (fun l6 v6 hR => ?_)
 ·replace h := hx
  clear hx
  have o5 := PT_field (part_LoomRun_2).1 q2
  refine L_load (x := .tmp 5) Try.isAgg3 Try.sizeOf3 o5 fun z6 p5 z2 => ?_
  obtain rfl := RV_int.1 p5
  have d3 := PT_field (part_LoomStill_1).1 q1
  have i3 := PT_field (part_LoomStop_1).1 d3
  have q5 := PT_field (part_Span_1).1 i3
  refine L_load (x := .tmp 9) Try.isAgg3 Try.sizeOf3 q5 fun a7 t5 j3 => ?_
  obtain rfl := RV_int.1 t5
  rcases csome h with ⟨o0, h⟩ | ⟨o0, h⟩
  ·have u5 := PT_field (part_LoomStill_0).1 q1
   refine L_load (x := .tmp 13) Try.isAgg96 Try.sizeOf96 u5 fun u3 x5 p4 => ?_
   refine L_load (x := .tmp 3) Try.isAgg76 Try.sizeOf76 q2 fun z3 c6 z4 => ?_
   obtain ⟨j1, d5, h⟩ := bsome h
   have d4 := PT_field (part_LoomStill_1).1 q1
   have m4 := PT_field (part_LoomStop_1).1 d4
   have d6 := PT_field (part_Span_0).1 m4
   refine L_load (x := .tmp 19) Try.isAgg3 Try.sizeOf3 d6 fun b7 i6 i5 => ?_
   obtain rfl := RV_int.1 i6
   refine E_drawL (g := g2) (n := 19) [(11, (fun v g w => v = .int .i64 (j1)))] [0, 1, 2, 3, 4, 5, 6, 7, 8, 9, 10, 11, 12, 13, 14, 15, 16, 17, 18] rfl mixed (by kernel_rfl) (⟨fun _ => up_eq _, trivial⟩) ?_
   refine L_pur (c := fPtr p2 2) rfl rfl .plain (fun _ _ hd => P_fieldAddr at_76_2 rfl (PT.ptr q2)) ?_
   refine L_ld (c := .int .i64 ((x1).From)) rfl rfl .plain (fun _ _ h => h.ch) z2 rfl ?_
   refine L_pur (c := fPtr p1 3) rfl rfl .plain (fun _ _ hd => P_fieldAddr at_113_1 rfl (PT.ptr q1)) ?_
   refine L_pur (c := fPtr (fPtr p1 3) 1) rfl rfl .plain (fun _ _ hd => P_fieldAddr at_54_1 rfl (PT.ptr d3)) ?_
   refine L_pur (c := fPtr (fPtr (fPtr p1 3) 1) 1) rfl rfl .plain (fun _ _ hd => P_fieldAddr at_48_1 rfl (PT.ptr i3)) ?_
   refine L_ld (c := .int .i64 ((((x0).LoomStop).Days).High)) rfl rfl .plain (fun _ _ h => h.ch) j3 rfl ?_
   refine L_pur (c := .bool ((decide ((x1).From ≤ (((x0).LoomStop).Days).High)))) rfl rfl .plain (fun _ _ hd => P_int rfl rfl rfl) ?_
   refine L_pur (c := .bool ((decide ((x1).From ≤ (((x0).LoomStop).Days).High)))) rfl rfl .plain (fun _ _ hd => P_move rfl) ?_
   refine L_pur (c := fPtr p1 0) rfl rfl (.yes2 rfl rfl o0) (fun _ _ hd => P_fieldAddr at_113_0 rfl (PT.ptr q1)) ?_
   refine L_ld (c := u3) rfl rfl (.yes2 rfl rfl o0) (fun _ _ h => h.ch) p4 rfl ?_
   refine L_ld (c := z3) rfl rfl (.yes2 rfl rfl o0) (fun _ _ h => h.ch) z4 rfl ?_
   refine L_do (φ := fun v g w => v = .int .i64 (j1)) rfl rfl (.yes2 rfl rfl o0) (fun g w hd => D_call (g := g) (vs := [u3, z3]) en73 (.cons rfl (.cons rfl .nil)) (wk73 (x5.ext hd.1) (c6.ext hd.1) d5) fun g' w' v hs hr => ⟨g', hs, hr⟩) (fun c7 hv => ?_)
   obtain ⟨_, _, _, rfl⟩ := hv
   refine L_pur (c := fPtr p1 3) rfl rfl (.yes2 rfl rfl o0) (fun _ _ hd => P_fieldAddr at_113_1 rfl (PT.ptr q1)) ?_
   refine L_pur (c := fPtr (fPtr p1 3) 1) rfl rfl (.yes2 rfl rfl o0) (fun _ _ hd => P_fieldAddr at_54_1 rfl (PT.ptr d4)) ?_
   refine L_pur (c := fPtr (fPtr (fPtr p1 3) 1) 0) rfl rfl (.yes2 rfl rfl o0) (fun _ _ hd => P_fieldAddr at_48_0 rfl (PT.ptr m4)) ?_
   refine L_ld (c := .int .i64 ((((x0).LoomStop).Days).Low)) rfl rfl (.yes2 rfl rfl o0) (fun _ _ h => h.ch) i5 rfl ?_
   refine L_pur (c := .bool ((decide (j1 > (((x0).LoomStop).Days).Low)))) rfl rfl (.yes2 rfl rfl o0) (fun _ _ hd => P_int rfl rfl rfl) ?_
   refine L_pur (c := .bool ((decide (j1 > (((x0).LoomStop).Days).Low)))) rfl rfl .plain (fun _ _ hd => P_pick (b := (decide ((x1).From ≤ (((x0).LoomStop).Days).High))) rfl (pick_t o0 rfl)) ?_
   refine L_pur (c := .bool ((decide (j1 > (((x0).LoomStop).Days).Low)))) rfl rfl .plain (fun _ _ hd => P_assign rfl) ?_
   refine L_nil fun j6 d7 hall => ?_
   have hs := hall.1
   have hfr := hfr.ext hs
   clear hs hall
   refine EL_nil ?_
   obtain rfl := sinj h
   exact hQ _ _ ⟨j6, hfr, rfl⟩
  ·refine E_drawL (g := g2) (n := 19) [] [0, 1, 2, 3, 4, 5, 6, 7, 8, 9, 10, 11, 12, 13, 14, 15, 16, 17, 18] rfl mixed (by kernel_rfl) trivial ?_
   refine L_pur (c := fPtr p2 2) rfl rfl .plain (fun _ _ hd => P_fieldAddr at_76_2 rfl (PT.ptr q2)) ?_
   refine L_ld (c := .int .i64 ((x1).From)) rfl rfl .plain (fun _ _ h => h.ch) z2 rfl ?_
   refine L_pur (c := fPtr p1 3) rfl rfl .plain (fun _ _ hd => P_fieldAddr at_113_1 rfl (PT.ptr q1)) ?_
   refine L_pur (c := fPtr (fPtr p1 3) 1) rfl rfl .plain (fun _ _ hd => P_fieldAddr at_54_1 rfl (PT.ptr d3)) ?_
   refine L_pur (c := fPtr (fPtr (fPtr p1 3) 1) 1) rfl rfl .plain (fun _ _ hd => P_fieldAddr at_48_1 rfl (PT.ptr i3)) ?_
   refine L_ld (c := .int .i64 ((((x0).LoomStop).Days).High)) rfl rfl .plain (fun _ _ h => h.ch) j3 rfl ?_
   refine L_pur (c := .bool ((decide ((x1).From ≤ (((x0).LoomStop).Days).High)))) rfl rfl .plain (fun _ _ hd => P_int rfl rfl rfl) ?_
   refine L_pur (c := .bool ((decide ((x1).From ≤ (((x0).LoomStop).Days).High)))) rfl rfl .plain (fun _ _ hd => P_move rfl) ?_
   refine L_skip rfl (.no2 rfl rfl o0 rfl) ?_
   refine L_skip rfl (.no2 rfl rfl o0 rfl) ?_
   refine L_skip rfl (.no2 rfl rfl o0 rfl) ?_
   refine L_skip rfl (.no2 rfl rfl o0 rfl) ?_
   refine L_skip rfl (.no2 rfl rfl o0 rfl) ?_
   refine L_skip rfl (.no2 rfl rfl o0 rfl) ?_
   refine L_skip rfl (.no2 rfl rfl o0 rfl) ?_
   refine L_skip rfl (.no2 rfl rfl o0 rfl) ?_
   refine L_skip rfl (.no2 rfl rfl o0 rfl) ?_
   refine L_pur (c := .bool false) rfl rfl .plain (fun _ _ hd => P_pick (b := (decide ((x1).From ≤ (((x0).LoomStop).Days).High))) rfl (pick_f o0 rfl)) ?_
   refine L_pur (c := .bool false) rfl rfl .plain (fun _ _ hd => P_assign rfl) ?_
   refine L_nil fun l5 x6 hall => ?_
   have hs := hall.1
   have hfr := hfr.ext hs
   clear hs hall
   refine EL_nil ?_
   obtain rfl := sinj h
   exact hQ _ _ ⟨l5, hfr, rfl⟩
 ·clear hx
  obtain ⟨y6, hfr, o3⟩ := hR
  refine E_ret ?_
  obtain rfl := sinj h
  exact end1 rfl rfl (show _ = .bool (u0) from o3) ⟨_, hfr, rfl⟩
def f69 (x0 : LoomLoomMill) (x1 : LoomRun) (x2 : Int) : Option (Int) :=
 jn (σ := Unit) (fun (_ : Unit) =>
  (f73 x0 x1).bind fun o0 =>
  some ((w64 (o0 + ((x0).LoomMill).Change)))
  ) fun d5 =>
 (idx ((x0).orders) (x1).Order).bind fun z2 =>
 (idx ((x0).orders) x2).bind fun d3 =>
 bif ((z2).Chain == (d3).Chain) then
  (f73 x0 x1).bind fun i3 =>
  some (i3)
 else
  d5 ()
theorem en69 : Enters Try.prog 69 := enters_of Try.func69 (by kernel_rfl) rfl
theorem wk69 {gI : Gh} {wI : World} {x0 : LoomLoomMill} {x1 : LoomRun} {x2 : Int} {up0 : Value} (rp0 : RV gI.m wI x0 up0) {up1 : Value} (rp1 : RV gI.m wI x1 up1) {r : Int} (h : f69 x0 x1 x2 = some r) : Fn Try.prog 69 #[up0, up1, .int .i64 (x2)] gI wI (fun _ _ v => v = .int .i64 (r)) := by
 unfold f69 at h
 refine fn_of_E Try.func69 rfl (Nat.le_of_ble_eq_true rfl) fun g0 hm hfr => ?_
 have rp0 : RV g0.m wI x0 up0 := hm ▸ rp0
 have rp1 : RV g0.m wI x1 up1 := hm ▸ rp1
 show E _ 31 none _ _ _ _ _
 refine E_seq (E_region (EL_do .plain rfl (D_box (g := g0) rfl rp0 fun g1 w1 p1 hs q1 => ?_)))
 have hfr := hfr.ext hs
 have rp1 := rp1.ext hs
 refine EL_do .plain rfl (D_box (g := g1) rfl rp1 fun g2 w2 p2 hs q2 => ?_)
 have hfr := hfr.ext hs
 have q1 := q1.ext hs
 refine EL_at (.int .i64 (0)) rfl rfl ?_
 refine EL_nil (thn_n (E_joinC h (fun (s : Unit) e w => ∃ (g : Gh) , Fr gI wI g w ∧ e 3 = p1 ∧ PT g.m w (x0 : LoomLoomMill) p1 ∧ e 4 = p2 ∧ PT g.m w (x1 : LoomRun) p2) (fun X43 d5 x5 h => ?_) ?_))
 ·refine E_seq ?_
  have b7 := PT_field (part_LoomLoomMill_1).1 q1
  refine L_load (x := .tmp 7) Try.isAgg25 Try.sizeOf25 b7 fun u3 i5 c6 => ?_
  have c7 := PT_field (part_LoomRun_0).1 q2
  refine L_load (x := .tmp 9) Try.isAgg3 Try.sizeOf3 c7 fun k8 d7 d6 => ?_
  obtain rfl := RV_int.1 d7
  obtain ⟨z2, z3, h⟩ := bsome h
  have l5 := PT_idx i5 z3
  have e7 := PT_field (part_LoomOrder_1).1 l5
  refine L_load (x := .tmp 12) Try.isAgg3 Try.sizeOf3 e7 fun l8 g7 i6 => ?_
  obtain rfl := RV_int.1 g7
  have i7 := PT_field (part_LoomLoomMill_1).1 q1
  refine L_load (x := .tmp 14) Try.isAgg25 Try.sizeOf25 i7 fun d4 o5 j6 => ?_
  obtain ⟨d3, m4, h⟩ := bsome h
  have p5 := PT_idx o5 m4
  have j7 := PT_field (part_LoomOrder_1).1 p5
  refine L_load (x := .tmp 18) Try.isAgg3 Try.sizeOf3 j7 fun m8 m7 l6 => ?_
  obtain rfl := RV_int.1 m7
  refine E_drawL (g := g2) (n := 14) [] [0, 1, 2, 3, 4, 5, 6, 7, 8, 9, 10, 11, 12, 13] rfl mixed (by kernel_rfl) trivial ?_
  refine L_pur (c := fPtr p1 2) rfl rfl .plain (fun _ _ hd => P_fieldAddr at_96_1 rfl (PT.ptr q1)) ?_
  refine L_ld (c := u3) rfl rfl .plain (fun _ _ h => h.ch) c6 rfl ?_
  refine L_pur (c := fPtr p2 0) rfl rfl .plain (fun _ _ hd => P_fieldAddr at_76_0 rfl (PT.ptr q2)) ?_
  refine L_ld (c := .int .i64 ((x1).Order)) rfl rfl .plain (fun _ _ h => h.ch) d6 rfl ?_
  refine L_pur (c := ePtr u3 (x1).Order 5) rfl rfl .plain (fun _ _ hd => P_indexAddr (α := LoomOrder) Try.underlying25 Try.sizeOf82 rfl i5 rfl z3) ?_
  refine L_pur (c := fPtr (ePtr u3 (x1).Order 5) 1) rfl rfl .plain (fun _ _ hd => P_fieldAddr at_82_1 rfl (PT.ptr l5)) ?_
  refine L_ld (c := .int .i64 ((z2).Chain)) rfl rfl .plain (fun _ _ h => h.ch) i6 rfl ?_
  refine L_pur (c := fPtr p1 2) rfl rfl .plain (fun _ _ hd => P_fieldAddr at_96_1 rfl (PT.ptr q1)) ?_
  refine L_ld (c := d4) rfl rfl .plain (fun _ _ h => h.ch) j6 rfl ?_
  refine L_pur (c := .int .i64 (x2)) rfl rfl .plain (fun _ _ hd => P_move rfl) ?_
  refine L_pur (c := ePtr d4 x2 5) rfl rfl .plain (fun _ _ hd => P_indexAddr (α := LoomOrder) Try.underlying25 Try.sizeOf82 rfl o5 rfl m4) ?_
  refine L_pur (c := fPtr (ePtr d4 x2 5) 1) rfl rfl .plain (fun _ _ hd => P_fieldAddr at_82_1 rfl (PT.ptr p5)) ?_
  refine L_ld (c := .int .i64 ((d3).Chain)) rfl rfl .plain (fun _ _ h => h.ch) l6 rfl ?_
  refine L_pur (c := .bool (((z2).Chain == (d3).Chain))) rfl rfl .plain (fun _ _ hd => P_int rfl rfl rfl) ?_
  refine L_nil fun j3 n8 hall => ?_
  have hs := hall.1
  have hfr := hfr.ext hs
  have q1 := q1.ext hs
  have q2 := q2.ext hs
  clear hs hall
  refine EL_nil (thn_n ?_)
  rcases csome h with ⟨j1, h⟩ | ⟨j1, h⟩
  ·refine E_ct j1 rfl ?_
   refine E_seq (E_region (EL_do .plain rfl (D_load (g := j3) Try.isAgg96 Try.sizeOf96 rfl q1 fun n7 o7 => ?_)))
   refine EL_do .plain rfl (D_load (g := j3) Try.isAgg76 Try.sizeOf76 rfl q2 fun p7 q7 => ?_)
   obtain ⟨i3, v6, h⟩ := bsome h
   refine EL_do .plain rfl (D_call (g := j3) (vs := [n7, p7]) en73 (.cons rfl (.cons rfl .nil)) (wk73 o7 q7 v6) fun o8 g8 p8 hs hr => ?_)
   have hfr := hfr.ext hs
   subst hr
   refine EL_at (.int .i64 (i3)) rfl rfl ?_
   refine EL_nil (thn_n (E_ret (thn_r ?_)))
   obtain rfl := sinj h
   exact end1 rfl rfl (show _ = .int .i64 (i3) from rfl) ⟨_, hfr, rfl⟩
  ·refine E_cf j1 rfl ?_
   exact E_skip (thn_n (x5 () _ _ ⟨j3, hfr, rfl, q1, rfl, q2⟩ h))
 ·rintro _ i8 q8 ⟨t7, hfr, o3, u0, p4, z4⟩ h
  refine E_seq (L_load (x := .tmp 3) Try.isAgg96 Try.sizeOf96 u0 fun q5 u7 x6 => ?_)
  refine L_load (x := .tmp 4) Try.isAgg76 Try.sizeOf76 z4 fun t5 v7 y6 => ?_
  obtain ⟨o0, z6, h⟩ := bsome h
  have u5 := PT_field (part_LoomLoomMill_0).1 u0
  have c8 := PT_field (part_LoomMill_1).1 u5
  refine L_load (x := .tmp 28) Try.isAgg3 Try.sizeOf3 c8 fun r8 e8 a7 => ?_
  obtain rfl := RV_int.1 e8
  refine E_drawL (g := t7) (n := 8) [(2, (fun v g w => v = .int .i64 (o0)))] [0, 1, 2, 3, 4, 5, 6, 7] rfl mixed (by kernel_rfl) (⟨fun _ => up_eq _, trivial⟩) ?_
  refine L_ld (c := q5) rfl rfl .plain (fun _ _ h => h.ch) x6 o3 ?_
  refine L_ld (c := t5) rfl rfl .plain (fun _ _ h => h.ch) y6 p4 ?_
  refine L_do (φ := fun v g w => v = .int .i64 (o0)) rfl rfl .plain (fun g w hd => D_call (g := g) (vs := [q5, t5]) en73 (.cons rfl (.cons rfl .nil)) (wk73 (u7.ext hd.1) (v7.ext hd.1) z6) fun g' w' v hs hr => ⟨g', hs, hr⟩) (fun t8 hv => ?_)
  obtain ⟨_, _, _, rfl⟩ := hv
  refine L_pur (c := fPtr p1 0) rfl rfl .plain (fun _ _ hd => P_fieldAddr at_96_0 o3 (PT.ptr u0)) ?_
  refine L_pur (c := fPtr (fPtr p1 0) 1) rfl rfl .plain (fun _ _ hd => P_fieldAddr at_24_1 rfl (PT.ptr u5)) ?_
  refine L_ld (c := .int .i64 (((x0).LoomMill).Change)) rfl rfl .plain (fun _ _ h => h.ch) a7 rfl ?_
  refine L_pur (c := .int .i64 ((w64 (o0 + ((x0).LoomMill).Change)))) rfl rfl .plain (fun _ _ hd => P_int rfl rfl rfl) ?_
  refine L_pur (c := .int .i64 ((w64 (o0 + ((x0).LoomMill).Change)))) rfl rfl .plain (fun _ _ hd => P_assign rfl) ?_
  refine L_nil fun v8 x8 hall => ?_
  have hs := hall.1
  have hfr := hfr.ext hs
  clear hs hall
  refine EL_nil (thn_n (E_ret ?_))
  obtain rfl := sinj h
  exact end1 rfl rfl (show _ = .int .i64 ((w64 (o0 + ((x0).LoomMill).Change))) from rfl) ⟨_, hfr, rfl⟩
def f72 (x0 : List LoomRun) (x1 : LoomRun → Option Bool) : Option (Bool) :=
 (f91 x0 x1).bind fun y2 =>
 some ((decide (y2 ≥ (0 : Int))))
theorem en72 : Enters Try.prog 72 := enters_of Try.func72 (by kernel_rfl) rfl
theorem wk72 {gI : Gh} {wI : World} {x0 : List LoomRun} {x1 : LoomRun → Option Bool} {up0 : Value} (rp0 : RV gI.m wI x0 up0) {up1 : Value} (rp1 : FnV1 Try.prog x1 up1 gI wI) {r : Bool} (h : f72 x0 x1 = some r) : Fn Try.prog 72 #[up0, up1] gI wI (fun _ _ v => v = .bool (r)) := by
 unfold f72 at h
 refine fn_of_E Try.func72 rfl (Nat.le_of_ble_eq_true rfl) fun g0 hm hfr => ?_
 have rp0 : RV g0.m wI x0 up0 := hm ▸ rp0
 obtain ⟨ff1, fa1, fc1, rfl, fen1, fcl1⟩ := rp1
 show E _ 9 none _ _ _ _ _
 refine E_seq (E_region (EL_at (.bool false) rfl rfl ?_))
 refine EL_nil (thn_n (E_seq (E_region (EL_mw up0 rfl rfl ?_))))
 refine EL_mw ((.func (.func ff1) fa1 fc1)) rfl rfl ?_
 obtain ⟨y2, hy2, h⟩ := bsome h
 refine EL_do .plain rfl (D_call (g := g0) (vs := [up0, (.func (.func ff1) fa1 fc1)]) en91 (.cons rfl (.cons rfl .nil)) (wk91 rp0 (FnV1.ch ⟨_, _, _, rfl, fen1, fcl1⟩ hfr.ch) hy2) fun g1 w1_ v1 hs hr => ?_)
 have hfr := hfr.ext hs
 subst hr
 refine EL_in (.bool ((decide (y2 ≥ (0 : Int))))) rfl rfl rfl rfl ?_
 refine EL_at (.bool ((decide (y2 ≥ (0 : Int))))) rfl rfl ?_
 refine EL_nil (thn_n (E_ret ?_))
 obtain rfl := sinj h
 exact end1 rfl rfl (show _ = .bool ((decide (y2 ≥ (0 : Int)))) from rfl) ⟨_, hfr, rfl⟩
def f74 (x0 : LoomMill) (x1 : List LoomOrder) (x2 : List LoomRun) (x3 : Int) : Option (Bool) :=
 (f92 x2 x3).bind fun y3 =>
 Option.bind (α := Bool) (
  bif (decide (y3 ≥ (0 : Int))) then
   (idx x2 x3).bind fun z2 =>
   (idx x2 y3).bind fun u3 =>
   (idx x2 x3).bind fun z3 =>
   (f77 x0 x1 u3 z3).bind fun j1 =>
   some ((decide ((z2).From < j1)))
  else
   some (false)
  ) fun u0 =>
 some (u0)
def f82 (x0 : List LoomOrder) (x1 : LoomOrder → Option Bool) : Option (Bool) :=
 (f97 x0 x1).bind fun y2 =>
 some ((decide (y2 ≥ (0 : Int))))
theorem en82 : Enters Try.prog 82 := enters_of Try.func82 (by kernel_rfl) rfl
theorem wk82 {gI : Gh} {wI : World} {x0 : List LoomOrder} {x1 : LoomOrder → Option Bool} {up0 : Value} (rp0 : RV gI.m wI x0 up0) {up1 : Value} (rp1 : FnV1 Try.prog x1 up1 gI wI) {r : Bool} (h : f82 x0 x1 = some r) : Fn Try.prog 82 #[up0, up1] gI wI (fun _ _ v => v = .bool (r)) := by
 unfold f82 at h
 refine fn_of_E Try.func82 rfl (Nat.le_of_ble_eq_true rfl) fun g0 hm hfr => ?_
 have rp0 : RV g0.m wI x0 up0 := hm ▸ rp0
 obtain ⟨ff1, fa1, fc1, rfl, fen1, fcl1⟩ := rp1
 show E _ 9 none _ _ _ _ _
 refine E_seq (E_region (EL_at (.bool false) rfl rfl ?_))
 refine EL_nil (thn_n (E_seq (E_region (EL_mw up0 rfl rfl ?_))))
 refine EL_mw ((.func (.func ff1) fa1 fc1)) rfl rfl ?_
 obtain ⟨y2, hy2, h⟩ := bsome h
 refine EL_do .plain rfl (D_call (g := g0) (vs := [up0, (.func (.func ff1) fa1 fc1)]) en97 (.cons rfl (.cons rfl .nil)) (wk97 rp0 (FnV1.ch ⟨_, _, _, rfl, fen1, fcl1⟩ hfr.ch) hy2) fun g1 w1_ v1 hs hr => ?_)
 have hfr := hfr.ext hs
 subst hr
 refine EL_in (.bool ((decide (y2 ≥ (0 : Int))))) rfl rfl rfl rfl ?_
 refine EL_at (.bool ((decide (y2 ≥ (0 : Int))))) rfl rfl ?_
 refine EL_nil (thn_n (E_ret ?_))
 obtain rfl := sinj h
 exact end1 rfl rfl (show _ = .bool ((decide (y2 ≥ (0 : Int)))) from rfl) ⟨_, hfr, rfl⟩
def f84 (x0 : Int) : Option (It Int) :=
 some ((fun σ cons s => f99 x0 σ cons s))
theorem en84 : Enters Try.prog 84 := enters_of Try.func84 (by kernel_rfl) rfl
theorem wk84 {gI : Gh} {wI : World} {x0 : Int}  {r : It Int} (h : f84 x0 = some r) : Fn Try.prog 84 #[.int .i64 (x0)] gI wI (fun m w v => ItV Try.prog (RA1 (α := Int)) (r) v m w) := by
 unfold f84 at h
 refine fn_of_E Try.func84 rfl (Nat.le_of_ble_eq_true rfl) fun g0 hm hfr => ?_
 show E _ 4 none _ _ _ _ _
 refine E_seq (E_region (EL_do .plain rfl (D_box (g := g0) rfl (RV_int.2 rfl) fun g1 w1 p1 hs q1 => ?_)))
 have hfr := hfr.ext hs
 refine EL_at (.nilFunc) rfl rfl ?_
 refine EL_nil (thn_n (E_seq (E_region (EL_pur (v := (.func (.func 99) #[] #[p1])) (P_makeFunc (capf_0_1 (show ev _ _ = p1 from rfl))) .plain rfl ?_))))
 refine EL_at ((.func (.func 99) #[] #[p1])) rfl rfl ?_
 refine EL_nil (thn_n (E_ret ?_))
 obtain rfl := sinj h
 exact end1 rfl rfl (show _ = (.func (.func 99) #[] #[p1]) from rfl) ⟨_, hfr, (show ItV Try.prog (RA1 (α := Int)) (fun σ cons s => f99 x0 σ cons s) ((.func (.func 99) #[] #[p1])) g1.m w1 from ⟨99, #[], #[p1], rfl, en99, fun g' w' hch σ cons s s' h => wk99  (q1.ch hch) h⟩)⟩
def f90 (x0 : Int) (x1 : Int) : Option (Int) :=
 (f102 x0).bind fun y2 =>
 (f102 x1).bind fun y4 =>
 jn (σ := Unit) (fun (_ : Unit) =>
  jn (σ := Unit) (fun (_ : Unit) =>
   jn (σ := Unit) (fun (_ : Unit) =>
    jn (σ := Unit) (fun (_ : Unit) =>
     some ((0 : Int))
     ) fun p4 =>
    bif (decide (x0 > x1)) then
     some ((1 : Int))
    else
     p4 ()
    ) fun z4 =>
   bif (decide (x0 < x1)) then
    some ((-1 : Int))
   else
    z4 ()
   ) fun k18 =>
  bif y4 then
   some ((1 : Int))
  else
   k18 ()
  ) fun d5 =>
 bif y2 then
  jn (σ := Unit) (fun (_ : Unit) =>
   some ((-1 : Int))
   ) fun i5 =>
  bif y4 then
   some ((0 : Int))
  else
   i5 ()
 else
  d5 ()
theorem en90 : Enters Try.prog 90 := enters_of Try.func90 (by kernel_rfl) rfl
theorem wk90 {gI : Gh} {wI : World} {x0 : Int} {x1 : Int}  {r : Int} (h : f90 x0 x1 = some r) : Fn Try.prog 90 #[.int .i64 (x0), .int .i64 (x1)] gI wI (fun _ _ v => v = .int .i64 (r)) := by
 unfold f90 at h
 refine fn_of_E Try.func90 rfl (Nat.le_of_ble_eq_true rfl) fun g0 hm hfr => ?_
 show E _ 20 none _ _ _ _ _
 refine E_seq (E_region (EL_at (.int .i64 (0)) rfl rfl ?_))
 refine EL_nil (thn_n (E_seq (E_region (EL_mw (.int .i64 (x0)) rfl rfl ?_))))
 obtain ⟨y2, hy2, h⟩ := bsome h
 refine EL_do .plain rfl (D_call (g := g0) (vs := [.int .i64 (x0)]) en102 (.cons rfl .nil) (wk102  hy2) fun g1 w1_ v1 hs hr => ?_)
 have hfr := hfr.ext hs
 subst hr
 refine EL_at (.bool (y2)) rfl rfl ?_
 refine EL_nil (thn_n (E_seq (E_region (EL_mw (.int .i64 (x1)) rfl rfl ?_))))
 obtain ⟨y4, u5, h⟩ := bsome h
 refine EL_do .plain rfl (D_call (g := g1) (vs := [.int .i64 (x1)]) en102 (.cons rfl .nil) (wk102  u5) fun g3 w3_ v3 hs hr => ?_)
 have hfr := hfr.ext hs
 subst hr
 refine EL_at (.bool (y4)) rfl rfl ?_
 refine EL_nil (thn_n (E_joinC h (fun (s : Unit) e w => ∃ (g : Gh) , Fr gI wI g w ∧ e 0 = .int .i64 (x0) ∧ e 1 = .int .i64 (x1) ∧ e 6 = .bool (y4)) (fun X10 d5 l5 h => ?_) ?_))
 ·refine E_seq (E_region (EL_mw (.bool (y2)) rfl rfl ?_))
  refine EL_nil (thn_n ?_)
  rcases csome h with ⟨o0, h⟩ | ⟨o0, h⟩
  ·refine E_ct o0 rfl ?_
   refine E_joinC h (fun (s : Unit) e w => ∃ (g : Gh) , Fr gI wI g w) (fun X13 i5 o5 h => ?_) ?_
   ·refine E_seq (E_region (EL_mw (.bool (y4)) rfl rfl ?_))
    refine EL_nil (thn_n ?_)
    rcases csome h with ⟨u0, h⟩ | ⟨u0, h⟩
    ·refine E_ct u0 rfl ?_
     refine E_seq (E_region (EL_at (.int .i64 (0)) rfl rfl ?_))
     refine EL_nil (thn_n (E_ret (thn_r ?_)))
     refine thn_r ?_
     obtain rfl := sinj h
     exact end1 rfl rfl (show _ = .int .i64 (0) from rfl) ⟨_, hfr, rfl⟩
    ·refine E_cf u0 rfl ?_
     exact E_skip (thn_n (o5 () _ _ ⟨g3, hfr⟩ h))
   ·rintro _ i6 w15 ⟨y6, hfr⟩ h
    refine E_seq (E_region (EL_at (.int .i64 (-1)) rfl rfl ?_))
    refine EL_nil (thn_n (E_ret (thn_r ?_)))
    obtain rfl := sinj h
    exact end1 rfl rfl (show _ = .int .i64 (-1) from rfl) ⟨_, hfr, rfl⟩
  ·refine E_cf o0 rfl ?_
   exact E_skip (thn_n (l5 () _ _ ⟨g3, hfr, rfl, rfl, rfl⟩ h))
 ·rintro _ j6 z6 ⟨x5, hfr, o3, u3, z3⟩ h
  refine E_joinC h (fun (s : Unit) e w => ∃ (g : Gh) , Fr gI wI g w ∧ e 0 = .int .i64 (x0) ∧ e 1 = .int .i64 (x1)) (fun X18 k18 p5 h => ?_) ?_
  ·refine E_seq (E_region (EL_mv z3 rfl ?_))
   refine EL_nil (thn_n ?_)
   rcases csome h with ⟨j1, h⟩ | ⟨j1, h⟩
   ·refine E_ct j1 rfl ?_
    refine E_seq (E_region (EL_at (.int .i64 (1)) rfl rfl ?_))
    refine EL_nil (thn_n (E_ret (thn_r ?_)))
    obtain rfl := sinj h
    exact end1 rfl rfl (show _ = .int .i64 (1) from rfl) ⟨_, hfr, rfl⟩
   ·refine E_cf j1 rfl ?_
    exact E_skip (thn_n (p5 () _ _ ⟨x5, hfr, o3, u3⟩ h))
  ·rintro _ l6 a7 ⟨c6, hfr, i3, j3⟩ h
   refine E_joinC h (fun (s : Unit) e w => ∃ (g : Gh) , Fr gI wI g w ∧ e 0 = .int .i64 (x0) ∧ e 1 = .int .i64 (x1)) (fun X22 z4 q5 h => ?_) ?_
   ·refine E_seq (E_region (EL_mv i3 rfl ?_))
    refine EL_mv j3 rfl ?_
    refine EL_in (.bool ((decide (x0 < x1)))) rfl rfl rfl rfl ?_
    refine EL_nil (thn_n ?_)
    rcases csome h with ⟨z2, h⟩ | ⟨z2, h⟩
    ·refine E_ct z2 rfl ?_
     refine E_seq (E_region (EL_at (.int .i64 (-1)) rfl rfl ?_))
     refine EL_nil (thn_n (E_ret (thn_r ?_)))
     obtain rfl := sinj h
     exact end1 rfl rfl (show _ = .int .i64 (-1) from rfl) ⟨_, hfr, rfl⟩
    ·refine E_cf z2 rfl ?_
     exact E_skip (thn_n (q5 () _ _ ⟨c6, hfr, i3, j3⟩ h))
   ·rintro _ v6 b7 ⟨d6, hfr, d4, m4⟩ h
    refine E_joinC h (fun (s : Unit) e w => ∃ (g : Gh) , Fr gI wI g w) (fun X26 p4 t5 h => ?_) ?_
    ·refine E_seq (E_region (EL_mv d4 rfl ?_))
     refine EL_mv m4 rfl ?_
     refine EL_in (.bool ((decide (x0 > x1)))) rfl rfl rfl rfl ?_
     refine EL_nil (thn_n ?_)
     rcases csome h with ⟨d3, h⟩ | ⟨d3, h⟩
     ·refine E_ct d3 rfl ?_
      refine E_seq (E_region (EL_at (.int .i64 (1)) rfl rfl ?_))
      refine EL_nil (thn_n (E_ret (thn_r ?_)))
      obtain rfl := sinj h
      exact end1 rfl rfl (show _ = .int .i64 (1) from rfl) ⟨_, hfr, rfl⟩
     ·refine E_cf d3 rfl ?_
      exact E_skip (thn_n (t5 () _ _ ⟨d6, hfr⟩ h))
    ·rintro _ x6 c7 ⟨d7, hfr⟩ h
     refine E_seq (E_region (EL_at (.int .i64 (0)) rfl rfl ?_))
     refine EL_nil (thn_n (E_ret ?_))
     obtain rfl := sinj h
     exact end1 rfl rfl (show _ = .int .i64 (0) from rfl) ⟨_, hfr, rfl⟩
def f95 (x0 : List Int) (x1 : Int → Option Bool) : Option (Bool) :=
 (f104 x0 x1).bind fun y2 =>
 some ((decide (y2 ≥ (0 : Int))))
theorem en95 : Enters Try.prog 95 := enters_of Try.func95 (by kernel_rfl) rfl
theorem wk95 {gI : Gh} {wI : World} {x0 : List Int} {x1 : Int → Option Bool} {up0 : Value} (rp0 : RV gI.m wI x0 up0) {up1 : Value} (rp1 : FnV1 Try.prog x1 up1 gI wI) {r : Bool} (h : f95 x0 x1 = some r) : Fn Try.prog 95 #[up0, up1] gI wI (fun _ _ v => v = .bool (r)) := by
 unfold f95 at h
 refine fn_of_E Try.func95 rfl (Nat.le_of_ble_eq_true rfl) fun g0 hm hfr => ?_
 have rp0 : RV g0.m wI x0 up0 := hm ▸ rp0
 obtain ⟨ff1, fa1, fc1, rfl, fen1, fcl1⟩ := rp1
 show E _ 9 none _ _ _ _ _
 refine E_seq (E_region (EL_at (.bool false) rfl rfl ?_))
 refine EL_nil (thn_n (E_seq (E_region (EL_mw up0 rfl rfl ?_))))
 refine EL_mw ((.func (.func ff1) fa1 fc1)) rfl rfl ?_
 obtain ⟨y2, hy2, h⟩ := bsome h
 refine EL_do .plain rfl (D_call (g := g0) (vs := [up0, (.func (.func ff1) fa1 fc1)]) en104 (.cons rfl (.cons rfl .nil)) (wk104 rp0 (FnV1.ch ⟨_, _, _, rfl, fen1, fcl1⟩ hfr.ch) hy2) fun g1 w1_ v1 hs hr => ?_)
 have hfr := hfr.ext hs
 subst hr
 refine EL_in (.bool ((decide (y2 ≥ (0 : Int))))) rfl rfl rfl rfl ?_
 refine EL_at (.bool ((decide (y2 ≥ (0 : Int))))) rfl rfl ?_
 refine EL_nil (thn_n (E_ret ?_))
 obtain rfl := sinj h
 exact end1 rfl rfl (show _ = .bool ((decide (y2 ≥ (0 : Int)))) from rfl) ⟨_, hfr, rfl⟩
def f98 (x0 : LoomLoomMill) (x1 : Vector (Vector Int 7) 128) (x2 : Int) (x3 : Int) (x4 : Int) (x5 : List (Int × LoomRun)) : Option (Int) :=
 (shl64 (1 : Int) x3).bind fun y2 =>
 jn (σ := Unit) (fun (_ : Unit) =>
  Option.bind (α := Int) (
   lp (σ := Int × Int) (fun gA (j1, o0) =>
    bif (decide (o0 < (((x0).orders).length : Int))) then
     Option.bind (α := Int) (
      jn (σ := Unit) (fun (_ : Unit) =>
       (idx (x1).toList (bit64 .andNot x2 y2)).bind fun iA =>
       (idx (iA).toList o0).bind fun d5 =>
       Option.bind (α := Int) (
        (idx ((x0).orders) o0).bind fun d7 =>
        (idx ((x0).orders) x3).bind fun e7 =>
        bif ((d7).Chain != (e7).Chain) then
         some ((w64 (d5 + ((x0).LoomMill).Change)))
        else
         some (d5)
        ) fun d4 =>
       (f105 x0 x3 x4 d4 x5).bind fun g7 =>
       some ((min64 j1 g7))
       ) fun jA =>
      Option.bind (α := Bool) (
       (shr64 (bit64 .andNot x2 y2) o0).bind fun o3 =>
       bif ((bit64 .and o3 (1 : Int)) == (0 : Int)) then
        some (true)
       else
        (idx (x1).toList (bit64 .andNot x2 y2)).bind fun kA =>
        (idx (kA).toList o0).bind fun i7 =>
        some ((decide (i7 ≥ (1048576 : Int))))
       ) fun i3 =>
      bif i3 then
       some (j1)
      else
       jA ()
      ) fun m4 =>
     gA (m4, (w64 (o0 + (1 : Int))))
    else
     some (j1)
    ) big ((1048576 : Int), (0 : Int))
   ) fun j3 =>
  some (j3)
  ) fun k7 =>
 bif ((bit64 .andNot x2 y2) == (0 : Int)) then
  (f105 x0 x3 x4 ((0 : Int)) x5).bind fun y11 =>
  some (y11)
 else
  k7 ()
theorem en98 : Enters Try.prog 98 := enters_of Try.func98 (by kernel_rfl) rfl
theorem wk98 {gI : Gh} {wI : World} {x0 : LoomLoomMill} {x1 : Vector (Vector Int 7) 128} {x2 : Int} {x3 : Int} {x4 : Int} {x5 : List (Int × LoomRun)} {up0 : Value} (rp0 : RV gI.m wI x0 up0) {up1 : Value} (rp1 : PT gI.m wI x1 up1) {up5 : Value} (mq5 : MR (Value.int .i64) gI wI x5 up5) {r : Int} (h : f98 x0 x1 x2 x3 x4 x5 = some r) : Fn Try.prog 98 #[up0, up1, .int .i64 (x2), .int .i64 (x3), .int .i64 (x4), up5] gI wI (fun _ _ v => v = .int .i64 (r)) := by
 unfold f98 at h
 refine fn_of_E Try.func98 rfl (Nat.le_of_ble_eq_true rfl) fun g0 hm hfr => ?_
 have rp0 : RV g0.m wI x0 up0 := hm ▸ rp0
 have rp1 : PT g0.m wI x1 up1 := hm ▸ rp1
 have mq5 := MQ.enter mq5 hm hfr
 show E _ 84 none _ _ _ _ _
 refine E_seq (E_region (EL_do .plain rfl (D_box (g := g0) rfl rp0 fun g1 w1 p1 hs q1 => ?_)))
 have hfr := hfr.ext hs
 have rp1 := rp1.ext hs
 have mq5 := mq5.ext hs
 refine EL_at (.int .i64 (0)) rfl rfl ?_
 refine EL_nil (thn_n (E_seq (E_region (EL_mw (.int .i64 (x2)) rfl rfl ?_))))
 refine EL_mw (.int .i64 (x3)) rfl rfl ?_
 obtain ⟨y2, hy2, h⟩ := bsome h
 refine EL_pur (v := .int .i64 (y2)) (P_int rfl rfl (congrArg (Option.map (Value.int .i64)) hy2)) .plain rfl ?_
 refine EL_in (.int .i64 ((bit64 .andNot x2 y2))) rfl rfl rfl rfl ?_
 refine EL_at (.int .i64 ((bit64 .andNot x2 y2))) rfl rfl ?_
 refine EL_nil (thn_n (E_joinC h (fun (s : Unit) e w => ∃ (g : Gh) , Fr gI wI g w ∧ e 1 = up1 ∧ PT g.m w (x1 : Vector (Vector Int 7) 128) up1 ∧ e 3 = .int .i64 (x3) ∧ e 4 = .int .i64 (x4) ∧ e 5 = up5 ∧ MQ (Value.int .i64) wI.heap.size g w (x5 : List (Int × LoomRun)) up5 ∧ e 6 = p1 ∧ PT g.m w (x0 : LoomLoomMill) p1 ∧ e 13 = .int .i64 ((bit64 .andNot x2 y2))) (fun X7 k7 hk7 h => ?_) ?_))
 ·refine E_seq (E_region (EL_mw (.int .i64 ((bit64 .andNot x2 y2))) rfl rfl ?_))
  refine EL_in (.bool (((bit64 .andNot x2 y2) == (0 : Int)))) rfl rfl rfl rfl ?_
  refine EL_nil (thn_n ?_)
  rcases csome h with ⟨hc8, h⟩ | ⟨hc8, h⟩
  ·refine E_ct hc8 rfl ?_
   refine E_seq (E_region (EL_do .plain rfl (D_load (g := g1) Try.isAgg96 Try.sizeOf96 rfl q1 fun v9 r9 => ?_)))
   refine EL_mw (.int .i64 (x3)) rfl rfl ?_
   refine EL_mw (.int .i64 (x4)) rfl rfl ?_
   refine EL_mw up5 rfl rfl ?_
   obtain ⟨y11, zB, h⟩ := bsome h
   refine EL_do .plain rfl (D_call (g := g1) (vs := [v9, .int .i64 (x3), .int .i64 (x4), .int .i64 (0), up5]) en105 (.cons rfl (.cons rfl (.cons rfl (.cons rfl (.cons rfl .nil))))) (wk105 r9 mq5.r zB) fun yD eD zD hs hr => ?_)
   have hfr := hfr.ext hs
   subst hr
   refine EL_at (.int .i64 (y11)) rfl rfl ?_
   refine EL_nil (thn_n (E_ret (thn_r ?_)))
   obtain rfl := sinj h
   exact end1 rfl rfl (show _ = .int .i64 (y11) from rfl) ⟨_, hfr, rfl⟩
  ·refine E_cf hc8 rfl ?_
   exact E_skip (thn_n (hk7 () _ _ ⟨g1, hfr, rfl, rp1, rfl, rfl, rfl, mq5, rfl, q1, rfl⟩ h))
 ·rintro _ gD aE ⟨yB, hfr, jB, kB, lB, mB, nB, oB, e9, j7, lA⟩ h
  refine E_seq (E_region (EL_at (.int .i64 (1048576)) rfl rfl ?_))
  refine EL_nil (thn_n ?_)
  obtain ⟨j3, hx, h⟩ := bsome h
  refine E_join (fun e w => ∃ (g : Gh) , Fr gI wI g w ∧ e 14 = .int .i64 (j3)) (fun Q' hQ => ?_) (fun xC iD hR => ?_)
  ·replace h := hx
   clear hx
   refine E_seq (E_region (EL_pur (v := fPtr p1 2) (P_fieldAddr at_96_1 e9 (PT.ptr j7)) .plain rfl ?_))
   have aC := PT_field (part_LoomLoomMill_1).1 j7
   refine EL_do .plain rfl (D_load (g := yB) Try.isAgg25 Try.sizeOf25 rfl aC fun jD bC => ?_)
   refine EL_pur (v := .int .i64 (((x0).orders).length : Int)) (P_len Try.underlying25 rfl bC) .plain rfl ?_
   refine EL_mw (.int .i64 (0)) rfl rfl ?_
   refine EL_nil (thn_n (E_block ?_))
   refine E_lp h (fun (s : Int × Int) e w => ∃ (g : Gh) , Fr gI wI g w ∧ e 1 = up1 ∧ PT g.m w (x1 : Vector (Vector Int 7) 128) up1 ∧ e 3 = .int .i64 (x3) ∧ e 4 = .int .i64 (x4) ∧ e 5 = up5 ∧ MQ (Value.int .i64) wI.heap.size g w (x5 : List (Int × LoomRun)) up5 ∧ e 6 = p1 ∧ PT g.m w (x0 : LoomLoomMill) p1 ∧ e 13 = .int .i64 ((bit64 .andNot x2 y2)) ∧ e 14 = .int .i64 (s.1) ∧ e 30 = .int .i64 ((((x0).orders).length : Int)) ∧ e 31 = .int .i64 (s.2)) ⟨yB, hfr, jB, kB, lB, mB, nB, oB, e9, j7, lA, rfl, rfl, rfl⟩ (fun X309 gA pB => ?_)
   rintro ⟨j1, o0⟩ yC kD ⟨m7, hfr, u5, u3, q7, t7, u7, v7, c8, e8, p4, p5, q5, z4⟩ h
   refine E_seq (E_region (EL_pur (v := .bool ((decide (o0 < (((x0).orders).length : Int))))) (P_int z4 q5 rfl) .plain rfl ?_))
   refine EL_nil (thn_n (E_seq ?_))
   rcases csome h with ⟨n7, h⟩ | ⟨n7, h⟩
   ·refine E_ct n7 rfl ?_
    refine E_skip (thn_n ?_)
    obtain ⟨m4, hx, h⟩ := bsome h
    refine E_join (fun e w => ∃ (g : Gh) , Fr gI wI g w ∧ e 1 = up1 ∧ PT g.m w (x1 : Vector (Vector Int 7) 128) up1 ∧ e 3 = .int .i64 (x3) ∧ e 4 = .int .i64 (x4) ∧ e 5 = up5 ∧ MQ (Value.int .i64) wI.heap.size g w (x5 : List (Int × LoomRun)) up5 ∧ e 6 = p1 ∧ PT g.m w (x0 : LoomLoomMill) p1 ∧ e 13 = .int .i64 ((bit64 .andNot x2 y2)) ∧ e 14 = .int .i64 (m4) ∧ e 30 = .int .i64 ((((x0).orders).length : Int)) ∧ e 31 = .int .i64 (o0)) (fun Q' hQ => ?_) (fun zC lD hR => ?_)
    ·replace h := hx
     clear hx
     refine E_block ?_
     refine E_seq (E_region (EL_mv z4 rfl ?_))
     refine EL_at (.int .i64 (o0)) rfl rfl ?_
     refine EL_nil (thn_n (E_joinC h (fun (s : Unit) e w => ∃ (g : Gh) , Fr gI wI g w ∧ e 1 = up1 ∧ PT g.m w (x1 : Vector (Vector Int 7) 128) up1 ∧ e 3 = .int .i64 (x3) ∧ e 4 = .int .i64 (x4) ∧ e 5 = up5 ∧ MQ (Value.int .i64) wI.heap.size g w (x5 : List (Int × LoomRun)) up5 ∧ e 6 = p1 ∧ PT g.m w (x0 : LoomLoomMill) p1 ∧ e 13 = .int .i64 ((bit64 .andNot x2 y2)) ∧ e 14 = .int .i64 (j1) ∧ e 15 = .int .i64 (o0) ∧ e 30 = .int .i64 ((((x0).orders).length : Int)) ∧ e 31 = .int .i64 (o0)) (fun X474 jA qB h => ?_) ?_))
     ·obtain ⟨i3, hx, h⟩ := bsome h
      refine E_join (fun e w => ∃ (g : Gh) , Fr gI wI g w ∧ e 1 = up1 ∧ PT g.m w (x1 : Vector (Vector Int 7) 128) up1 ∧ e 3 = .int .i64 (x3) ∧ e 4 = .int .i64 (x4) ∧ e 5 = up5 ∧ MQ (Value.int .i64) wI.heap.size g w (x5 : List (Int × LoomRun)) up5 ∧ e 6 = p1 ∧ PT g.m w (x0 : LoomLoomMill) p1 ∧ e 13 = .int .i64 ((bit64 .andNot x2 y2)) ∧ e 14 = .int .i64 (j1) ∧ e 15 = .int .i64 (o0) ∧ e 30 = .int .i64 ((((x0).orders).length : Int)) ∧ e 31 = .int .i64 (o0) ∧ e 48 = .bool (i3)) (fun Q' hQ => ?_) (fun aD mD hR => ?_)
      ·replace h := hx
       clear hx
       refine E_region (EL_mv p4 rfl ?_)
       refine EL_mw (.int .i64 (o0)) rfl rfl ?_
       obtain ⟨o3, rB, h⟩ := bsome h
       refine EL_pur (v := .int .i64 (o3)) (P_int rfl rfl (congrArg (Option.map (Value.int .i64)) rB)) .plain rfl ?_
       refine EL_in (.int .i64 ((bit64 .and o3 (1 : Int)))) rfl rfl rfl rfl ?_
       refine EL_in (.bool (((bit64 .and o3 (1 : Int)) == (0 : Int)))) rfl rfl rfl rfl ?_
       refine EL_mw (.bool (((bit64 .and o3 (1 : Int)) == (0 : Int)))) rfl rfl ?_
       rcases csome h with ⟨u0, h⟩ | ⟨u0, h⟩
       ·refine EL_skip (.no2 rfl rfl u0 rfl) rfl ?_
        refine EL_skip (.no2 rfl rfl u0 rfl) rfl ?_
        refine EL_skip (.no2 rfl rfl u0 rfl) rfl ?_
        refine EL_skip (.no2 rfl rfl u0 rfl) rfl ?_
        refine EL_skip (.no2 rfl rfl u0 rfl) rfl ?_
        refine EL_skip (.no2 rfl rfl u0 rfl) rfl ?_
        refine EL_skip (.no2 rfl rfl u0 rfl) rfl ?_
        refine EL_skip (.no2 rfl rfl u0 rfl) rfl ?_
        refine EL_pur (v := .bool true) (P_pick (b := ((bit64 .and o3 (1 : Int)) == (0 : Int))) rfl (pick_t u0 rfl)) .plain rfl ?_
        refine EL_nil ?_
        obtain rfl := sinj h
        exact hQ _ _ ⟨m7, hfr, u5, u3, q7, t7, u7, v7, c8, e8, p4, p5, rfl, q5, z4, rfl⟩
       ·refine EL_pur (v := up1) (P_move u5) (.yes2 rfl rfl u0) rfl ?_
        refine EL_pur (v := .int .i64 ((bit64 .andNot x2 y2))) (P_move p4) (.yes2 rfl rfl u0) rfl ?_
        refine EL_pur (v := .int .i64 (o0)) (P_move rfl) (.yes2 rfl rfl u0) rfl ?_
        obtain ⟨pb485, po485, pe485⟩ := PT.ptr u3
        refine EL_pur (v := up1) (P_nilCk rfl pe485) (.yes2 rfl rfl u0) rfl ?_
        obtain ⟨kA, g9, h⟩ := bsome h
        refine EL_pur (v := fPtr up1 (((bit64 .andNot x2 y2) : Int).toNat * 7)) (P_indexAddrA (α := Vector Int 7) Try.underlying150 Try.sizeOf148 rfl (PT.ptr u3) rfl g9) (.yes2 rfl rfl u0) rfl ?_
        have mA := PT_idxA u3 g9
        obtain ⟨i7, i9, h⟩ := bsome h
        refine EL_pur (v := fPtr (fPtr up1 (((bit64 .andNot x2 y2) : Int).toNat * 7)) ((o0 : Int).toNat * 1)) (P_indexAddrA (α := Int) Try.underlying148 Try.sizeOf3 rfl (PT.ptr mA) rfl i9) (.yes2 rfl rfl u0) rfl ?_
        have cC := PT_idxA mA i9
        refine EL_do (.yes2 rfl rfl u0) rfl (D_load (g := m7) Try.isAgg3 Try.sizeOf3 rfl cC fun nD dC => ?_)
        obtain rfl := RV_int.1 dC
        refine EL_pur (v := .bool ((decide (i7 ≥ (1048576 : Int))))) (P_int rfl rfl rfl) (.yes2 rfl rfl u0) rfl ?_
        refine EL_pur (v := .bool ((decide (i7 ≥ (1048576 : Int))))) (P_pick (b := ((bit64 .and o3 (1 : Int)) == (0 : Int))) rfl (pick_f u0 rfl)) .plain rfl ?_
        refine EL_nil ?_
        obtain rfl := sinj h
        exact hQ _ _ ⟨m7, hfr, u5, u3, q7, t7, u7, v7, c8, e8, p4, p5, rfl, q5, z4, rfl⟩
      ·clear hx
       obtain ⟨nA, hfr, g8, i8, k8, l8, m8, n8, o8, p8, j6, l6, o9, v6, x6, y6⟩ := hR
       rcases csome h with ⟨o7, h⟩ | ⟨o7, h⟩
       ·refine E_cond_true (Eq.trans (show ev _ _ = .bool (i3) from y6) (congrArg Value.bool o7)) ?_
        refine E_exit ?_
        refine thn_e ?_
        refine blk_hit ?_
        obtain rfl := sinj h
        exact hQ _ _ ⟨nA, hfr, g8, i8, k8, l8, m8, n8, o8, p8, j6, l6, v6, x6⟩
       ·refine E_cond_false (Eq.trans (show ev _ _ = .bool (i3) from y6) (congrArg Value.bool o7)) ?_
        exact E_skip (thn_n (qB () _ _ ⟨nA, hfr, g8, i8, k8, l8, m8, n8, o8, p8, j6, l6, o9, v6, x6⟩ h))
     ·rintro _ bD oD ⟨oA, hfr, c6, d3, d6, q8, r8, i5, z3, z2, t5, z6, a7, b7, c7⟩ h
      refine E_seq (E_region (EL_mv c6 rfl ?_))
      refine EL_mv t5 rfl ?_
      refine EL_mv a7 rfl ?_
      obtain ⟨pb494, po494, pe494⟩ := PT.ptr d3
      refine EL_pur (v := up1) (P_nilCk rfl pe494) .plain rfl ?_
      obtain ⟨iA, j9, h⟩ := bsome h
      refine EL_pur (v := fPtr up1 (((bit64 .andNot x2 y2) : Int).toNat * 7)) (P_indexAddrA (α := Vector Int 7) Try.underlying150 Try.sizeOf148 rfl (PT.ptr d3) rfl j9) .plain rfl ?_
      have pA := PT_idxA d3 j9
      obtain ⟨d5, k9, h⟩ := bsome h
      refine EL_pur (v := fPtr (fPtr up1 (((bit64 .andNot x2 y2) : Int).toNat * 7)) ((o0 : Int).toNat * 1)) (P_indexAddrA (α := Int) Try.underlying148 Try.sizeOf3 rfl (PT.ptr pA) rfl k9) .plain rfl ?_
      have eC := PT_idxA pA k9
      refine EL_do .plain rfl (D_load (g := oA) Try.isAgg3 Try.sizeOf3 rfl eC fun pD iC => ?_)
      obtain rfl := RV_int.1 iC
      refine EL_at (.int .i64 (d5)) rfl rfl ?_
      refine EL_nil (thn_n ?_)
      obtain ⟨d4, hx, h⟩ := bsome h
      refine E_join (fun e w => ∃ (g : Gh) , Fr gI wI g w ∧ e 1 = up1 ∧ PT g.m w (x1 : Vector (Vector Int 7) 128) up1 ∧ e 3 = .int .i64 (x3) ∧ e 4 = .int .i64 (x4) ∧ e 5 = up5 ∧ MQ (Value.int .i64) wI.heap.size g w (x5 : List (Int × LoomRun)) up5 ∧ e 6 = p1 ∧ PT g.m w (x0 : LoomLoomMill) p1 ∧ e 13 = .int .i64 ((bit64 .andNot x2 y2)) ∧ e 14 = .int .i64 (j1) ∧ e 16 = .int .i64 (d4) ∧ e 30 = .int .i64 ((((x0).orders).length : Int)) ∧ e 31 = .int .i64 (o0)) (fun Q' hQ => ?_) (fun cD qD hR => ?_)
      ·replace h := hx
       clear hx
       refine E_seq ?_
       have jC := PT_field (part_LoomLoomMill_1).1 z2
       refine L_load (x := .tmp 56) Try.isAgg25 Try.sizeOf25 jC fun z8 qA sB => ?_
       obtain ⟨d7, l9, h⟩ := bsome h
       have rA := PT_idx qA l9
       have kC := PT_field (part_LoomOrder_1).1 rA
       refine L_load (x := .tmp 60) Try.isAgg3 Try.sizeOf3 kC fun rD lC tB => ?_
       obtain rfl := RV_int.1 lC
       have mC := PT_field (part_LoomLoomMill_1).1 z2
       refine L_load (x := .tmp 62) Try.isAgg25 Try.sizeOf25 mC fun a9 sA uB => ?_
       obtain ⟨e7, n9, h⟩ := bsome h
       have tA := PT_idx sA n9
       have nC := PT_field (part_LoomOrder_1).1 tA
       refine L_load (x := .tmp 66) Try.isAgg3 Try.sizeOf3 nC fun sD oC vB => ?_
       obtain rfl := RV_int.1 oC
       refine E_drawL (g := oA) (n := 13) [] [0, 1, 2, 3, 4, 5, 6, 7, 8, 9, 10, 11, 12] rfl mixed (by kernel_rfl) trivial ?_
       refine L_pur (c := fPtr p1 2) rfl rfl .plain (fun _ _ hd => P_fieldAddr at_96_1 z3 (PT.ptr z2)) ?_
       refine L_ld (c := z8) rfl rfl .plain (fun _ _ h => h.ch) sB rfl ?_
       refine L_pur (c := .int .i64 (o0)) rfl rfl .plain (fun _ _ hd => P_move a7) ?_
       refine L_pur (c := ePtr z8 o0 5) rfl rfl .plain (fun _ _ hd => P_indexAddr (α := LoomOrder) Try.underlying25 Try.sizeOf82 rfl qA rfl l9) ?_
       refine L_pur (c := fPtr (ePtr z8 o0 5) 1) rfl rfl .plain (fun _ _ hd => P_fieldAddr at_82_1 rfl (PT.ptr rA)) ?_
       refine L_ld (c := .int .i64 ((d7).Chain)) rfl rfl .plain (fun _ _ h => h.ch) tB rfl ?_
       refine L_pur (c := fPtr p1 2) rfl rfl .plain (fun _ _ hd => P_fieldAddr at_96_1 z3 (PT.ptr z2)) ?_
       refine L_ld (c := a9) rfl rfl .plain (fun _ _ h => h.ch) uB rfl ?_
       refine L_pur (c := .int .i64 (x3)) rfl rfl .plain (fun _ _ hd => P_move d6) ?_
       refine L_pur (c := ePtr a9 x3 5) rfl rfl .plain (fun _ _ hd => P_indexAddr (α := LoomOrder) Try.underlying25 Try.sizeOf82 rfl sA rfl n9) ?_
       refine L_pur (c := fPtr (ePtr a9 x3 5) 1) rfl rfl .plain (fun _ _ hd => P_fieldAddr at_82_1 rfl (PT.ptr tA)) ?_
       refine L_ld (c := .int .i64 ((e7).Chain)) rfl rfl .plain (fun _ _ h => h.ch) vB rfl ?_
       refine L_pur (c := .bool (((d7).Chain != (e7).Chain))) rfl rfl .plain (fun _ _ hd => P_int rfl rfl rfl) ?_
       refine L_nil fun d9 tD hall => ?_
       have hs := hall.1
       have hfr := hfr.ext hs
       have d3 := d3.ext hs
       have i5 := i5.ext hs
       have z2 := z2.ext hs
       clear hs hall
       refine EL_nil (thn_n ?_)
       rcases csome h with ⟨p7, h⟩ | ⟨p7, h⟩
       ·refine E_ct p7 rfl ?_
        refine E_region (EL_mw (.int .i64 (d5)) rfl rfl ?_)
        refine EL_pur (v := fPtr p1 0) (P_fieldAddr at_96_0 z3 (PT.ptr z2)) .plain rfl ?_
        have uA := PT_field (part_LoomLoomMill_0).1 z2
        refine EL_pur (v := fPtr (fPtr p1 0) 1) (P_fieldAddr at_24_1 rfl (PT.ptr uA)) .plain rfl ?_
        have qC := PT_field (part_LoomMill_1).1 uA
        refine EL_do .plain rfl (D_load (g := d9) Try.isAgg3 Try.sizeOf3 rfl qC fun uD rC => ?_)
        obtain rfl := RV_int.1 rC
        refine EL_in (.int .i64 ((w64 (d5 + ((x0).LoomMill).Change)))) rfl rfl rfl rfl ?_
        refine EL_at (.int .i64 ((w64 (d5 + ((x0).LoomMill).Change)))) rfl rfl ?_
        refine EL_nil ?_
        obtain rfl := sinj h
        exact hQ _ _ ⟨d9, hfr, c6, d3, d6, q8, r8, i5, z3, z2, t5, z6, rfl, b7, c7⟩
       ·refine E_cf p7 rfl ?_
        refine E_skip ?_
        obtain rfl := sinj h
        exact hQ _ _ ⟨d9, hfr, c6, d3, d6, q8, r8, i5, z3, z2, t5, z6, rfl, b7, c7⟩
      ·clear hx
       obtain ⟨vA, hfr, xA, i6, t8, v8, x8, l5, y8, o5, p9, q9, t9, u9, y9⟩ := hR
       refine E_region (EL_mv q9 rfl ?_)
       refine EL_do .plain rfl (D_load (g := vA) Try.isAgg96 Try.sizeOf96 y8 o5 fun sC tC => ?_)
       refine EL_mv t8 rfl ?_
       refine EL_mv v8 rfl ?_
       refine EL_mv t9 rfl ?_
       refine EL_mv x8 rfl ?_
       obtain ⟨g7, xB, h⟩ := bsome h
       refine EL_do .plain rfl (D_call (g := vA) (vs := [sC, .int .i64 (x3), .int .i64 (x4), .int .i64 (d4), up5]) en105 (.cons rfl (.cons rfl (.cons rfl (.cons rfl (.cons rfl .nil))))) (wk105 tC l5.r xB) fun uC dD vD hs hr => ?_)
       have hfr := hfr.ext hs
       have i6 := i6.ext hs
       have l5 := l5.ext hs
       have o5 := o5.ext hs
       subst hr
       refine EL_pur (v := .int .i64 (min64 j1 g7)) (P_min rfl rfl) .plain rfl ?_
       refine EL_at (.int .i64 (min64 j1 g7)) rfl rfl ?_
       refine EL_nil (blk_n ?_)
       obtain rfl := sinj h
       exact hQ _ _ ⟨uC, hfr, xA, i6, t8, v8, x8, l5, y8, o5, p9, rfl, u9, y9⟩
    ·clear hx
     obtain ⟨vC, hfr, yA, zA, aB, bB, cB, dB, eB, iB, z9, bA, cA, dA⟩ := hR
     refine E_region (EL_in (.int .i64 ((w64 (o0 + (1 : Int))))) dA rfl rfl rfl ?_)
     refine EL_mw (.int .i64 ((w64 (o0 + (1 : Int))))) rfl rfl ?_
     exact EL_nil (thn_n (pB (m4, (w64 (o0 + (1 : Int)))) _ _ ⟨vC, hfr, yA, zA, aB, bB, cB, dB, eB, iB, z9, bA, cA, rfl⟩ h))
   ·refine E_cf n7 rfl ?_
    refine E_exit ?_
    refine thn_e ?_
    refine thn_e ?_
    refine blk_hit ?_
    obtain rfl := sinj h
    exact hQ _ _ ⟨m7, hfr, p5⟩
  ·clear hx
   obtain ⟨xD, hfr, eA⟩ := hR
   refine E_seq (E_region (EL_mv eA rfl ?_))
   refine EL_at (.int .i64 (j3)) rfl rfl ?_
   refine EL_nil (thn_n (E_ret ?_))
   obtain rfl := sinj h
   exact end1 rfl rfl (show _ = .int .i64 (j3) from rfl) ⟨_, hfr, rfl⟩
def f100 : Nat → (List Int) → (Int) → (Int) → (Int) → (Int → Int → Option Int) → Option ((List Int))
 | 0, _, _, _, _, _ => none
 | n + 1, x0, x1, x2, x3, x4 =>
  lp (σ := (List Int) × Int × Int × Int × Bool × Bool) (fun k1 (i3, o0, u0, z2, j1, d3) =>
   jn (σ := (List Int)) (fun j3 =>
    jn (σ := Unit) (fun (_ : Unit) =>
     Option.bind (α := Int) (
      bif (!j1) then
       none
      else
       some (z2)
      ) fun p4 =>
     none
     ) fun n7 =>
    bif (z2 == (0 : Int)) then
     none
    else
     n7 ()
    ) fun k6 =>
   bif (decide ((w64 (u0 - o0)) ≤ (12 : Int))) then
    (f106 i3 o0 u0 x4).bind fun y9 =>
    some (y9)
   else
    k6 (i3)
   ) big (x0, x1, x2, x3, true, true)
theorem en100 : Enters Try.prog 100 := enters_of Try.func100 (by kernel_rfl) rfl
theorem wk100 (n : Nat) : ∀ {iI : Nat} {gI : Gh} {wI : World} {x0 : List Int} {x1 : Int} {x2 : Int} {x3 : Int} {x4 : Int → Int → Option Int} {up0 : Value} (mp0 : OM iI gI wI 3 x0 up0) {up4 : Value} (rp4 : FnV2 Try.prog x4 up4 gI wI) {r : (List Int)} (h : f100 n x0 x1 x2 x3 x4 = some r), FnM Try.prog 100 #[up0, .int .i64 (x1), .int .i64 (x2), .int .i64 (x3), up4] iI gI wI (fun g w v => v = .tuple #[] ∧ OM iI g w 3 r up0) := by
 induction n with
 | zero => intros; rename_i h; cases h
 | succ n ih =>
 intro iI gI wI x0 x1 x2 x3 x4 up0 mp0 up4 rp4 r h
 simp only [f100] at h
 refine fnM_of_E Try.func100 rfl (Nat.le_of_ble_eq_true rfl) fun g0 hm hfr => ?_
 have z6 := mp0
 replace mp0 := mp0.enter
 rw [← hm] at mp0
 replace hm : g0.m = gI.m := by rw [hm]
 obtain ⟨ff4, fa4, fc4, rfl, fen4, fcl4⟩ := rp4
 show E _ 148 none _ _ _ _ _
 refine E_seq (E_region (EL_at (.bool true) rfl rfl ?_))
 refine EL_nil (thn_n (E_seq (E_region (EL_at (.bool true) rfl rfl ?_))))
 refine EL_nil (thn_n (E_block ?_))
 refine E_lp h (fun (s : (List Int) × Int × Int × Int × Bool × Bool) e w => ∃ (g : Gh) , FrM iI gI wI g w ∧ e 0 = up0 ∧ OM 1 g w 3 (s.1 : List Int) up0 ∧ e 1 = .int .i64 (s.2.1) ∧ e 2 = .int .i64 (s.2.2.1) ∧ e 3 = .int .i64 (s.2.2.2.1) ∧ e 4 = (.func (.func ff4) fa4 fc4) ∧ e 10 = .bool (s.2.2.2.2.1) ∧ e 11 = .bool (s.2.2.2.2.2)) ⟨g0, hfr, rfl, mp0, rfl, rfl, rfl, rfl, rfl, rfl⟩ (fun X1 k1 hk1 => ?_)
 rintro ⟨i3, o0, u0, z2, j1, d3⟩ o8 w2 ⟨g2, hfr, x5, c6, u3, z3, o7, d6, a7, b7⟩ h
 refine E_block ?_
 refine E_seq (E_region (EL_mv z3 rfl ?_))
 refine EL_mv u3 rfl ?_
 refine EL_in (.int .i64 ((w64 (u0 - o0)))) rfl rfl rfl rfl ?_
 refine EL_at (.int .i64 ((w64 (u0 - o0)))) rfl rfl ?_
 refine EL_nil (thn_n (E_joinC h (fun (s : (List Int)) e w => ∃ (g : Gh) , FrM iI gI wI g w ∧ e 0 = up0 ∧ OM 1 g w 3 (s : List Int) up0 ∧ e 1 = .int .i64 (o0) ∧ e 2 = .int .i64 (u0) ∧ e 3 = .int .i64 (z2) ∧ e 4 = (.func (.func ff4) fa4 fc4) ∧ e 10 = .bool (j1) ∧ e 11 = .bool (d3) ∧ e 12 = .int .i64 ((w64 (u0 - o0)))) (fun X6 k6 hk6 h => ?_) ?_))
 ·refine E_seq (E_region (EL_mw (.int .i64 ((w64 (u0 - o0)))) rfl rfl ?_))
  refine EL_in (.bool ((decide ((w64 (u0 - o0)) ≤ (12 : Int))))) rfl rfl rfl rfl ?_
  refine EL_nil (thn_n ?_)
  rcases csome h with ⟨i6, h⟩ | ⟨i6, h⟩
  ·refine E_ct i6 rfl ?_
   refine E_seq (E_region (EL_mv x5 rfl ?_))
   refine EL_mv u3 rfl ?_
   refine EL_mv z3 rfl ?_
   refine EL_mv d6 rfl ?_
   obtain ⟨y9, q7, h⟩ := bsome h
   refine EL_do .plain rfl (D_callM (g := g2) (i := 1) (vs := [up0, .int .i64 (o0), .int .i64 (u0), (.func (.func ff4) fa4 fc4)]) en106 (.cons rfl (.cons rfl (.cons rfl (.cons rfl .nil)))) (wk106 c6 (FnV2.ch ⟨_, _, _, rfl, fen4, fcl4⟩ hfr.ch) q7) fun g8 w8_ v8 hs hr => ?_)
   obtain ⟨hrv, b8⟩ := hr
   have hfr := hfr.stp hs
   subst hrv
   refine EL_nil (thn_n (E_ret (thn_r ?_)))
   refine blk_r ?_
   refine thn_r ?_
   refine blk_r ?_
   obtain rfl := sinj h
   exact end0 rfl rfl ⟨_, hfr, rfl, z6.back b8⟩
  ·refine E_cf i6 rfl ?_
   exact E_skip (thn_n (hk6 (i3) _ _ ⟨g2, hfr, x5, c6, u3, z3, o7, d6, a7, b7, rfl⟩ h))
 ·rintro j3 l8 p8 ⟨t7, hfr, z4, c7, d5, i5, l5, o5, j6, l6, v6⟩ h
  refine E_joinC h (fun (s : Unit) e w => ∃ (g : Gh) , FrM iI gI wI g w ∧ e 0 = up0 ∧ OM 1 g w 3 (j3 : List Int) up0 ∧ e 1 = .int .i64 (o0) ∧ e 2 = .int .i64 (u0) ∧ e 3 = .int .i64 (z2) ∧ e 4 = (.func (.func ff4) fa4 fc4) ∧ e 10 = .bool (j1) ∧ e 11 = .bool (d3) ∧ e 12 = .int .i64 ((w64 (u0 - o0)))) (fun X12 n7 p7 h => ?_) ?_
  ·refine E_seq (E_region (EL_mv l5 rfl ?_))
   refine EL_in (.bool ((z2 == (0 : Int)))) rfl rfl rfl rfl ?_
   refine EL_nil (thn_n ?_)
   rcases csome h with ⟨d4, h⟩ | ⟨d4, h⟩
   ·refine E_ct d4 rfl ?_
    refine E_seq (E_region (EL_mv z4 rfl ?_))
    refine EL_mv d5 rfl ?_
    refine EL_mv i5 rfl ?_
    refine EL_mv o5 rfl ?_
    cases h
   ·refine E_cf d4 rfl ?_
    exact E_skip (thn_n (p7 () _ _ ⟨t7, hfr, z4, c7, d5, i5, l5, o5, j6, l6, v6⟩ h))
  ·rintro _ m8 q8 ⟨u7, hfr, p5, d7, q5, t5, e7, u5, o3, x6, y6⟩ h
   obtain ⟨p4, hx, h⟩ := bsome h
   refine E_join (fun e w => ∃ (g : Gh) , FrM iI gI wI g w ∧ e 0 = up0 ∧ OM 1 g w 3 (j3 : List Int) up0 ∧ e 1 = .int .i64 (o0) ∧ e 2 = .int .i64 (u0) ∧ e 3 = .int .i64 (p4) ∧ e 4 = (.func (.func ff4) fa4 fc4) ∧ e 10 = .bool (j1) ∧ e 11 = .bool (d3) ∧ e 12 = .int .i64 ((w64 (u0 - o0)))) (fun Q' hQ => ?_) (fun n8 r8 hR => ?_)
   ·replace h := hx
    clear hx
    refine E_seq (E_region (EL_mv o3 rfl ?_))
    refine EL_pur (v := .bool (!j1)) (P_not rfl) .plain rfl ?_
    refine EL_nil (thn_n ?_)
    rcases csome h with ⟨m4, h⟩ | ⟨m4, h⟩
    ·refine E_ct m4 rfl ?_
     refine E_seq (E_region (EL_mv p5 rfl ?_))
     refine EL_mv q5 rfl ?_
     refine EL_mv t5 rfl ?_
     refine EL_mv u5 rfl ?_
     cases h
    ·refine E_cf m4 rfl ?_
     refine E_skip ?_
     obtain rfl := sinj h
     exact hQ _ _ ⟨u7, hfr, p5, d7, q5, t5, e7, u5, o3, x6, y6⟩
   ·clear hx
    obtain ⟨t8, hfr, g7, i8, i7, j7, k8, m7, v7, c8, e8⟩ := hR
    refine E_seq (E_region (EL_mv g7 rfl ?_))
    refine EL_mv i7 rfl ?_
    refine EL_mv j7 rfl ?_
    refine EL_mv m7 rfl ?_
    cases h
end Go.Proofs.Ytnfjhdagbknlbaa
