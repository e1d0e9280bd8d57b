import Derived.Test.YtpiaipiehjcflaaCode1
set_option maxRecDepth 8000
set_option maxHeartbeats 4000000
namespace Go.Proofs.Ytpiaipiehjcflaa
open Go.RowKit
/-- (griffe/fault.loom).damages -/
def f90 (x0 : FaultFaultLoom) (σ : Type) (cons : Cons σ FaultDamage) (s0 : σ) : Option σ :=
 Option.bind (α := (List FaultDamage)) (
  lp (σ := (List FaultDamage) × Int) (fun oE (m6, u0) =>
   bif (decide (u0 < (w64 ((((((x0).FaultLoom).Design).Rows).length : Int) * (((x0).FaultLoom).Design).Hooks)))) then
    Option.bind (α := (List FaultDamage)) (
     (quo64 u0 (((x0).FaultLoom).Design).Hooks).bind fun d2 =>
     (rem64 u0 (((x0).FaultLoom).Design).Hooks).bind fun i2 =>
     (apnd 40 m6 (([(⟨(1 : Int), d2, i2, 0, false⟩ : FaultDamage)] : List FaultDamage))).bind fun n9 =>
     some (n9)
     ) fun j3 =>
    oE (j3, (w64 (u0 + (1 : Int))))
   else
    some (m6)
   ) big ([], (0 : Int))
  ) fun z3 =>
 Option.bind (α := (List FaultDamage)) (
  lp (σ := (List FaultDamage) × Int) (fun o9 (p5, j0) =>
   bif (decide (j0 < (((x0).FaultLoom).Design).Hooks)) then
    Option.bind (α := (List FaultDamage)) (
     (apnd 40 p5 (([(⟨(2 : Int), 0, j0, 0, false⟩ : FaultDamage), (⟨(2 : Int), 0, j0, 0, true⟩ : FaultDamage)] : List FaultDamage))).bind fun p9 =>
     some (p9)
     ) fun o3 =>
    o9 (o3, (w64 (j0 + (1 : Int))))
   else
    some (p5)
   ) big (z3, (0 : Int))
  ) fun c4 =>
 Option.bind (α := (List FaultDamage)) (
  lp (σ := (List FaultDamage) × Int) (fun q9 (q5, y0) =>
   bif (decide (y0 < (2 : Int))) then
    Option.bind (α := (List FaultDamage)) (
     (idx ((⟨List.toArray [(3 : Int), (4 : Int)], rfl⟩ : Vector Int 2)).toList y0).bind fun z2 =>
     lp (σ := (List FaultDamage) × Int) (fun s9 (t5, n0) =>
      bif (decide (n0 < (((((x0).FaultLoom).Design).Rows).length : Int))) then
       Option.bind (α := (List FaultDamage)) (
        (apnd 40 t5 (([(⟨z2, n0, 0, 0, false⟩ : FaultDamage)] : List FaultDamage))).bind fun t9 =>
        some (t9)
        ) fun p3 =>
       s9 (p3, (w64 (n0 + (1 : Int))))
      else
       some (t5)
      ) big (q5, (0 : Int))
     ) fun s3 =>
    q9 (s3, (w64 (y0 + (1 : Int))))
   else
    some (q5)
   ) big (c4, (0 : Int))
  ) fun d4 =>
 Option.bind (α := (List FaultDamage)) (
  lp (σ := (List FaultDamage) × Int) (fun u9 (u5, o0) =>
   bif (decide (o0 < (((((x0).FaultLoom).Harness).Warps).length : Int))) then
    Option.bind (α := (List FaultDamage)) (
     (apnd 40 u5 (([(⟨(5 : Int), 0, 0, o0, false⟩ : FaultDamage)] : List FaultDamage))).bind fun x9 =>
     some (x9)
     ) fun u3 =>
    u9 (u3, (w64 (o0 + (1 : Int))))
   else
    some (u5)
   ) big (d4, (0 : Int))
  ) fun i1 =>
 lp (σ := σ × Int) (fun y9 (x5, j1) =>
  bif (decide (j1 < ((i1).length : Int))) then
   jn (σ := σ) (fun y5 =>
    y9 (y5, (w64 (j1 + (1 : Int))))
    ) fun z9 =>
   (idx i1 j1).bind fun z7 =>
   (cons x5 z7).bind fun (n6, l5) =>
   bif (!n6) then
    some l5
   else
    z9 (l5)
  else
   some x5
  ) big (s0, (0 : Int))
theorem en90 : Enters Try.prog 90 := enters_of Try.func90 (by kernel_rfl) rfl
theorem wk90 {σ : Type} {cons : Cons σ FaultDamage} {s0 r : σ} {gI : Gh} {wI : World} {x0 : FaultFaultLoom} {up0 : Value} (rp0 : RV gI.m wI x0 up0) (h : f90 x0 σ cons s0 = some r) : IterC Try.prog (RA1 (α := FaultDamage)) 90 #[up0] #[] gI wI cons s0 r := by
 unfold f90 at h
 refine iter_of_E Try.func90 rfl (Nat.le_of_ble_eq_true rfl) fun l B J g0 hm hAb hRo hfr => ?_
 have rp0 : RV g0.m wI x0 up0 := hm ▸ rp0
 show E _ 96 none _ _ (envAt #[up0, .func (.yield l) #[] #[]]) _ _
 refine E_seq (E_region (EL_do .plain rfl (D_box (g := g0) rfl rp0 fun g1 w1 p1 hs q1 => ?_)))
 have hfr := hfr.ext_ hAb hs
 refine EL_nil (thn_n (E_seq ?_))
 have q2 := PT_field (part_FaultFaultLoom_0).1 q1
 have q3 := PT_field (part_FaultLoom_1).1 q2
 have q4 := PT_field (part_Design_1).1 q3
 refine L_load (x := .tmp 18) Try.isAgg22 Try.sizeOf22 q4 fun v5 r5 hG => ?_
 have q6 := PT_field (part_FaultFaultLoom_0).1 q1
 have q7 := PT_field (part_FaultLoom_1).1 q6
 have q8 := PT_field (part_Design_0).1 q7
 refine L_load (x := .tmp 23) Try.isAgg3 Try.sizeOf3 q8 fun v9 r9 iG => ?_
 obtain rfl := RV_int.1 r9
 have pE := PT_field (part_FaultFaultLoom_0).1 q1
 have qE := PT_field (part_FaultLoom_0).1 pE
 have jG := PT_field (part_TieHarness_1).1 qE
 refine L_load (x := .tmp 27) Try.isAgg22 Try.sizeOf22 jG fun kG lG rE => ?_
 refine E_drawL (g := g1) (n := 17) [] [0, 1, 2, 3, 4, 5, 6, 7, 8, 9, 10, 11, 12, 13, 14, 15, 16] rfl mixed (by kernel_rfl) trivial ?_
 refine L_pur (c := fPtr p1 0) rfl rfl .plain (fun _ _ hd => P_fieldAddr at_98_0 rfl (PT.ptr q1)) ?_
 refine L_pur (c := fPtr (fPtr p1 0) 2) rfl rfl .plain (fun _ _ hd => P_fieldAddr at_28_1 rfl (PT.ptr q2)) ?_
 refine L_pur (c := fPtr (fPtr (fPtr p1 0) 2) 1) rfl rfl .plain (fun _ _ hd => P_fieldAddr at_26_1 rfl (PT.ptr q3)) ?_
 refine L_ld (c := v5) rfl rfl .plain (fun _ _ h => h.ch) hG rfl ?_
 refine L_pur (c := .int .i64 (((((x0).FaultLoom).Design).Rows).length : Int)) rfl rfl .plain (fun _ _ hd => P_len Try.underlying22 rfl r5) ?_
 refine L_pur (c := fPtr p1 0) rfl rfl .plain (fun _ _ hd => P_fieldAddr at_98_0 rfl (PT.ptr q1)) ?_
 refine L_pur (c := fPtr (fPtr p1 0) 2) rfl rfl .plain (fun _ _ hd => P_fieldAddr at_28_1 rfl (PT.ptr q6)) ?_
 refine L_pur (c := fPtr (fPtr (fPtr p1 0) 2) 0) rfl rfl .plain (fun _ _ hd => P_fieldAddr at_26_0 rfl (PT.ptr q7)) ?_
 refine L_ld (c := .int .i64 ((((x0).FaultLoom).Design).Hooks)) rfl rfl .plain (fun _ _ h => h.ch) iG rfl ?_
 refine L_pur (c := fPtr p1 0) rfl rfl .plain (fun _ _ hd => P_fieldAddr at_98_0 rfl (PT.ptr q1)) ?_
 refine L_pur (c := fPtr (fPtr p1 0) 0) rfl rfl .plain (fun _ _ hd => P_fieldAddr at_28_0 rfl (PT.ptr pE)) ?_
 refine L_pur (c := fPtr (fPtr (fPtr p1 0) 0) 1) rfl rfl .plain (fun _ _ hd => P_fieldAddr at_24_1 rfl (PT.ptr qE)) ?_
 refine L_ld (c := kG) rfl rfl .plain (fun _ _ h => h.ch) rE rfl ?_
 refine L_pur (c := .int .i64 (((((x0).FaultLoom).Harness).Warps).length : Int)) rfl rfl .plain (fun _ _ hd => P_len Try.underlying22 rfl lG) ?_
 refine L_pur (c := .int .i64 (((((x0).FaultLoom).Design).Rows).length : Int)) rfl rfl .plain (fun _ _ hd => P_assign rfl) ?_
 refine L_pur (c := .int .i64 ((((x0).FaultLoom).Design).Hooks)) rfl rfl .plain (fun _ _ hd => P_assign rfl) ?_
 refine L_pur (c := .int .i64 (((((x0).FaultLoom).Harness).Warps).length : Int)) rfl rfl .plain (fun _ _ hd => P_assign rfl) ?_
 refine L_nil fun mG oI hall => ?_
 have hs := hall.1
 have hfr := hfr.ext_ hAb hs
 clear hs hall
 refine EL_nil (thn_n (E_seq (E_region (EL_at (.slice none 0 0) rfl rfl ?_))))
 refine EL_nil (thn_n ?_)
 obtain ⟨z3, hx, h⟩ := bsome h
 refine E_join (fun e w => ∃ (g : Gh) (v7 : Value), FrY gI wI B J (s0) g w ∧ e 1 = (.func (.yield l) #[] #[]) ∧ e 4 = .int .i64 ((((((x0).FaultLoom).Design).Rows).length : Int)) ∧ e 5 = .int .i64 ((((x0).FaultLoom).Design).Hooks) ∧ e 6 = .int .i64 ((((((x0).FaultLoom).Harness).Warps).length : Int)) ∧ e 7 = v7 ∧ RV g.m w (z3 : List FaultDamage) v7 ∧ OS 1007 g w 62 (z3 : List FaultDamage) v7) (fun Q' hQ => ?_) (fun oG gH hR => ?_)
 ·replace h := hx
  clear hx
  refine E_seq (E_region (EL_mw (.int .i64 (((((x0).FaultLoom).Design).Rows).length : Int)) rfl rfl ?_))
  refine EL_mw (.int .i64 ((((x0).FaultLoom).Design).Hooks)) rfl rfl ?_
  refine EL_pur (v := .int .i64 ((w64 ((((((x0).FaultLoom).Design).Rows).length : Int) * (((x0).FaultLoom).Design).Hooks)))) (P_int rfl rfl rfl) .plain rfl ?_
  refine EL_mw (.int .i64 (0)) rfl rfl ?_
  refine EL_nil (thn_n (E_block ?_))
  refine E_lp h (fun (s : (List FaultDamage) × Int) e w => ∃ (g : Gh) (v7 : Value), FrY gI wI B J (s0) g w ∧ e 1 = (.func (.yield l) #[] #[]) ∧ e 4 = .int .i64 ((((((x0).FaultLoom).Design).Rows).length : Int)) ∧ e 5 = .int .i64 ((((x0).FaultLoom).Design).Hooks) ∧ e 6 = .int .i64 ((((((x0).FaultLoom).Harness).Warps).length : Int)) ∧ e 7 = v7 ∧ RV g.m w (s.1 : List FaultDamage) v7 ∧ OS 1007 g w 62 (s.1 : List FaultDamage) v7 ∧ e 32 = .int .i64 ((w64 ((((((x0).FaultLoom).Design).Rows).length : Int) * (((x0).FaultLoom).Design).Hooks))) ∧ e 33 = .int .i64 (s.2)) ⟨mG, (.slice none 0 0), hfr, rfl, rfl, rfl, rfl, rfl, RV_nil, OS.nil, rfl, rfl⟩ (fun X94 oE sE => ?_)
  rintro ⟨m6, u0⟩ iH nG ⟨aA, e8, hfr, g8, i8, m5, j8, k8, n5, o5, y6, z5⟩ h
  refine E_seq (E_region (EL_pur (v := .bool ((decide (u0 < (w64 ((((((x0).FaultLoom).Design).Rows).length : Int) * (((x0).FaultLoom).Design).Hooks)))))) (P_int z5 y6 rfl) .plain rfl ?_))
  refine EL_nil (thn_n (E_seq ?_))
  rcases csome h with ⟨a8, h⟩ | ⟨a8, h⟩
  ·refine E_ct a8 rfl ?_
   refine E_skip (thn_n ?_)
   obtain ⟨j3, hx, h⟩ := bsome h
   refine E_join (fun e w => ∃ (g : Gh) (v7 : Value), FrY gI wI B J (s0) g w ∧ e 1 = (.func (.yield l) #[] #[]) ∧ e 4 = .int .i64 ((((((x0).FaultLoom).Design).Rows).length : Int)) ∧ e 5 = .int .i64 ((((x0).FaultLoom).Design).Hooks) ∧ e 6 = .int .i64 ((((((x0).FaultLoom).Harness).Warps).length : Int)) ∧ e 7 = v7 ∧ RV g.m w (j3 : List FaultDamage) v7 ∧ OS 1007 g w 62 (j3 : List FaultDamage) v7 ∧ e 32 = .int .i64 ((w64 ((((((x0).FaultLoom).Design).Rows).length : Int) * (((x0).FaultLoom).Design).Hooks))) ∧ e 33 = .int .i64 (u0)) (fun Q' hQ => ?_) (fun pG jH hR => ?_)
   ·replace h := hx
    clear hx
    refine E_block ?_
    refine E_seq (E_region (EL_mv z5 rfl ?_))
    refine EL_at (.int .i64 (u0)) rfl rfl ?_
    refine EL_nil (thn_n ?_)
    obtain ⟨d2, sD, h⟩ := bsome h
    obtain ⟨i2, tD, h⟩ := bsome h
    have bA : RV aA.m nG (⟨(1 : Int), d2, i2, 0, false⟩ : FaultDamage) (.agg (setCh [[.int .i64 0], [.int .i64 0], [.int .i64 0], [.int .i64 0], [.bool false]] [(0, .int .i64 (1)), (1, .int .i64 (d2)), (2, .int .i64 (i2))]).flatten.toArray) := RV_build rfl (rep_pair (rfl) (rep_pair (rfl) (rep_pair (rfl) (rep_pair (rep_int) (rep_last (rep_bool))))))
    generalize uD : (Value.agg (setCh [[.int .i64 0], [.int .i64 0], [.int .i64 0], [.int .i64 0], [.bool false]] [(0, .int .i64 (1)), (1, .int .i64 (d2)), (2, .int .i64 (i2))]).flatten.toArray) = cA at bA
    refine E_drawL (g := aA) (n := 9) [(8, (fun v g w => RV g.m w ([(⟨(1 : Int), d2, i2, 0, false⟩ : FaultDamage)] : List FaultDamage) v ∧ OS 3044 g w 62 ([(⟨(1 : Int), d2, i2, 0, false⟩ : FaultDamage)] : List FaultDamage) v ∧ FullV v))] [0, 1, 2, 3, 4, 5, 6, 7, 8] rfl mixed (by kernel_rfl) (⟨fun _ => up_and up_rv (up_and up_os (up_eq _)), trivial⟩) ?_
    refine L_pur (c := e8) rfl rfl .plain (fun _ _ hd => P_move k8) ?_
    refine L_pur (c := .int .i64 (u0)) rfl rfl .plain (fun _ _ hd => P_move rfl) ?_
    refine L_pur (c := .int .i64 ((((x0).FaultLoom).Design).Hooks)) rfl rfl .plain (fun _ _ hd => P_move m5) ?_
    refine L_pur (c := .int .i64 (d2)) rfl rfl .plain (fun _ _ hd => P_int rfl rfl (congrArg (Option.map (Value.int .i64)) sD)) ?_
    refine L_pur (c := .int .i64 (u0)) rfl rfl .plain (fun _ _ hd => P_move rfl) ?_
    refine L_pur (c := .int .i64 ((((x0).FaultLoom).Design).Hooks)) rfl rfl .plain (fun _ _ hd => P_move m5) ?_
    refine L_pur (c := .int .i64 (i2)) rfl rfl .plain (fun _ _ hd => P_int rfl rfl (congrArg (Option.map (Value.int .i64)) tD)) ?_
    refine L_pur (c := cA) rfl rfl .plain (fun _ _ hd => uD ▸ P_build (vs := [(0, .int .i64 (1)), (1, .int .i64 (d2)), (2, .int .i64 (i2))]) [[.int .i64 0], [.int .i64 0], [.int .i64 0], [.int .i64 0], [.bool false]] lay_62 rfl rfl (.cons rfl (.cons rfl (.cons rfl .nil))) ⟨⟨_, rfl, rfl⟩, ⟨⟨_, rfl, rfl⟩, ⟨⟨_, rfl, rfl⟩, trivial⟩⟩⟩) ?_
    refine L_do (φ := fun v g w => RV g.m w ([(⟨(1 : Int), d2, i2, 0, false⟩ : FaultDamage)] : List FaultDamage) v ∧ OS 3044 g w 62 ([(⟨(1 : Int), d2, i2, 0, false⟩ : FaultDamage)] : List FaultDamage) v ∧ FullV v) rfl rfl .plain (fun g w hd => D_buildSlice (g := g) 3044 (xs := ([(⟨(1 : Int), d2, i2, 0, false⟩ : FaultDamage)] : List FaultDamage)) (vs := [cA]) Try.underlying29 Try.sizeOf62 Try.zeroValue62 rfl rfl (.cons rfl .nil) (RVs.cons (bA.ext hd.1) RVs.nil) rfl rfl fun g' w' v hs o r hxt hfl => ⟨g', hxt, r, o, hfl⟩) (fun u4 hv => ?_)
    clear hv
    refine L_nil fun tE kH hall => ?_
    have hs := hall.1
    have hfr := hfr.ext_ hAb hs
    have n5 := n5.ext hs
    have o5 := o5.ext hs
    have uE := (word_all (A := fun g w => RV g.m w ([(⟨(1 : Int), d2, i2, 0, false⟩ : FaultDamage)] : List FaultDamage) u4 ∧ OS 3044 g w 62 ([(⟨(1 : Int), d2, i2, 0, false⟩ : FaultDamage)] : List FaultDamage) u4 ∧ FullV u4) 8 rfl hall).1
    have o148 := (word_all (A := fun g w => RV g.m w ([(⟨(1 : Int), d2, i2, 0, false⟩ : FaultDamage)] : List FaultDamage) u4 ∧ OS 3044 g w 62 ([(⟨(1 : Int), d2, i2, 0, false⟩ : FaultDamage)] : List FaultDamage) u4 ∧ FullV u4) 8 rfl hall).2.1
    clear hs hall
    obtain ⟨n9, vD, h⟩ := bsome h
    refine EL_do .plain rfl (D_append (g := tE) (i := 1007) Try.underlying29 info_62 rfl rfl o5 n5 rfl uE vD fun vE lH dA hs o149 xE _ => ?_)
    have hfr := hfr.stp_ hAb hs rfl
    refine EL_at dA rfl rfl ?_
    refine EL_nil (blk_n ?_)
    obtain rfl := sinj h
    exact hQ _ _ ⟨vE, (dA), hfr, g8, i8, m5, j8, rfl, xE, o149, y6, z5⟩
   ·clear hx
    obtain ⟨yE, eA, hfr, gA, iA, jA, kA, lA, mA, nA, n8, o8⟩ := hR
    refine E_region (EL_in (.int .i64 ((w64 (u0 + (1 : Int))))) o8 rfl rfl rfl ?_)
    refine EL_mw (.int .i64 ((w64 (u0 + (1 : Int))))) rfl rfl ?_
    exact EL_nil (thn_n (sE (j3, (w64 (u0 + (1 : Int)))) _ _ ⟨yE, (eA), hfr, gA, iA, jA, kA, lA, mA, nA, n8, rfl⟩ h))
  ·refine E_cf a8 rfl ?_
   refine E_exit ?_
   refine thn_e ?_
   refine thn_e ?_
   refine blk_hit ?_
   obtain rfl := sinj h
   exact hQ _ _ ⟨aA, (e8), hfr, g8, i8, m5, j8, k8, n5, o5⟩
 ·clear hx
  obtain ⟨zE, oA, hfr, pA, qA, rA, sA, tA, uA, vA⟩ := hR
  obtain ⟨c4, hx, h⟩ := bsome h
  refine E_join (fun e w => ∃ (g : Gh) (v7 : Value), FrY gI wI B J (s0) g w ∧ e 1 = (.func (.yield l) #[] #[]) ∧ e 4 = .int .i64 ((((((x0).FaultLoom).Design).Rows).length : Int)) ∧ e 6 = .int .i64 ((((((x0).FaultLoom).Harness).Warps).length : Int)) ∧ e 7 = v7 ∧ RV g.m w (c4 : List FaultDamage) v7 ∧ OS 1007 g w 62 (c4 : List FaultDamage) v7) (fun Q' hQ => ?_) (fun qG aF hR => ?_)
  ·replace h := hx
   clear hx
   refine E_seq (E_region (EL_mv rA rfl ?_))
   refine EL_mw (.int .i64 (0)) rfl rfl ?_
   refine EL_nil (thn_n (E_block ?_))
   refine E_lp h (fun (s : (List FaultDamage) × Int) e w => ∃ (g : Gh) (v7 : Value), FrY gI wI B J (s0) g w ∧ e 1 = (.func (.yield l) #[] #[]) ∧ e 4 = .int .i64 ((((((x0).FaultLoom).Design).Rows).length : Int)) ∧ e 6 = .int .i64 ((((((x0).FaultLoom).Harness).Warps).length : Int)) ∧ e 7 = v7 ∧ RV g.m w (s.1 : List FaultDamage) v7 ∧ OS 1007 g w 62 (s.1 : List FaultDamage) v7 ∧ e 47 = .int .i64 ((((x0).FaultLoom).Design).Hooks) ∧ e 48 = .int .i64 (s.2)) ⟨zE, (oA), hfr, pA, qA, sA, tA, uA, vA, rfl, rfl⟩ (fun X167 o9 xD => ?_)
   rintro ⟨p5, j0⟩ rG xA ⟨o6, yA, hfr, z6, a7, b7, c7, i4, j4, a6, x4⟩ h
   refine E_seq (E_region (EL_pur (v := .bool ((decide (j0 < (((x0).FaultLoom).Design).Hooks)))) (P_int x4 a6 rfl) .plain rfl ?_))
   refine EL_nil (thn_n (E_seq ?_))
   rcases csome h with ⟨p6, h⟩ | ⟨p6, h⟩
   ·refine E_ct p6 rfl ?_
    refine E_skip (thn_n ?_)
    obtain ⟨o3, hx, h⟩ := bsome h
    refine E_join (fun e w => ∃ (g : Gh) (v7 : Value), FrY gI wI B J (s0) g w ∧ e 1 = (.func (.yield l) #[] #[]) ∧ e 4 = .int .i64 ((((((x0).FaultLoom).Design).Rows).length : Int)) ∧ e 6 = .int .i64 ((((((x0).FaultLoom).Harness).Warps).length : Int)) ∧ e 7 = v7 ∧ RV g.m w (o3 : List FaultDamage) v7 ∧ OS 1007 g w 62 (o3 : List FaultDamage) v7 ∧ e 47 = .int .i64 ((((x0).FaultLoom).Design).Hooks) ∧ e 48 = .int .i64 (j0)) (fun Q' hQ => ?_) (fun sG mH hR => ?_)
    ·replace h := hx
     clear hx
     refine E_block ?_
     refine E_seq (E_region (EL_mv x4 rfl ?_))
     refine EL_at (.int .i64 (j0)) rfl rfl ?_
     refine EL_nil (thn_n (E_region (EL_mv c7 rfl ?_)))
     refine EL_mw (.int .i64 (j0)) rfl rfl ?_
     have zA : RV o6.m xA (⟨(2 : Int), 0, j0, 0, false⟩ : FaultDamage) (.agg (setCh [[.int .i64 0], [.int .i64 0], [.int .i64 0], [.int .i64 0], [.bool false]] [(0, .int .i64 (2)), (2, .int .i64 (j0))]).flatten.toArray) := RV_build rfl (rep_pair (rfl) (rep_pair (rep_int) (rep_pair (rfl) (rep_pair (rep_int) (rep_last (rep_bool))))))
     generalize yD : (Value.agg (setCh [[.int .i64 0], [.int .i64 0], [.int .i64 0], [.int .i64 0], [.bool false]] [(0, .int .i64 (2)), (2, .int .i64 (j0))]).flatten.toArray) = aB at zA
     refine EL_pur (v := aB) (yD ▸ P_build (vs := [(0, .int .i64 (2)), (2, .int .i64 (j0))]) [[.int .i64 0], [.int .i64 0], [.int .i64 0], [.int .i64 0], [.bool false]] lay_62 rfl rfl (.cons rfl (.cons rfl .nil)) ⟨⟨_, rfl, rfl⟩, ⟨⟨_, rfl, rfl⟩, trivial⟩⟩) .plain rfl ?_
     refine EL_mw (.int .i64 (j0)) rfl rfl ?_
     have bB : RV o6.m xA (⟨(2 : Int), 0, j0, 0, true⟩ : FaultDamage) (.agg (setCh [[.int .i64 0], [.int .i64 0], [.int .i64 0], [.int .i64 0], [.bool false]] [(0, .int .i64 (2)), (2, .int .i64 (j0)), (4, .bool true)]).flatten.toArray) := RV_build rfl (rep_pair (rfl) (rep_pair (rep_int) (rep_pair (rfl) (rep_pair (rep_int) (rep_last (rfl))))))
     generalize zD : (Value.agg (setCh [[.int .i64 0], [.int .i64 0], [.int .i64 0], [.int .i64 0], [.bool false]] [(0, .int .i64 (2)), (2, .int .i64 (j0)), (4, .bool true)]).flatten.toArray) = cB at bB
     refine EL_pur (v := cB) (zD ▸ P_build (vs := [(0, .int .i64 (2)), (2, .int .i64 (j0)), (4, .bool true)]) [[.int .i64 0], [.int .i64 0], [.int .i64 0], [.int .i64 0], [.bool false]] lay_62 rfl rfl (.cons rfl (.cons rfl (.cons rfl .nil))) ⟨⟨_, rfl, rfl⟩, ⟨⟨_, rfl, rfl⟩, ⟨⟨_, rfl, rfl⟩, trivial⟩⟩⟩) .plain rfl ?_
     refine EL_do .plain rfl (D_buildSlice (g := o6) 3056 (xs := ([(⟨(2 : Int), 0, j0, 0, false⟩ : FaultDamage), (⟨(2 : Int), 0, j0, 0, true⟩ : FaultDamage)] : List FaultDamage)) (vs := [aB, cB]) Try.underlying29 Try.sizeOf62 Try.zeroValue62 rfl rfl (.cons rfl (.cons rfl .nil)) (RVs.cons zA (RVs.cons bB RVs.nil)) rfl rfl fun bF nH oH hs o177 cF hxt hfl => ?_)
     have hfr := hfr.stp_ hAb hs rfl
     have i4 := i4.stp hs
     have j4 := j4.stp hs rfl
     obtain ⟨p9, aE, h⟩ := bsome h
     refine EL_do .plain rfl (D_append (g := bF) (i := 1007) Try.underlying29 info_62 rfl rfl j4 i4 rfl cF aE fun dF pH dB hs o178 eF _ => ?_)
     have hfr := hfr.stp_ hAb hs rfl
     refine EL_at dB rfl rfl ?_
     refine EL_nil (blk_n ?_)
     obtain rfl := sinj h
     exact hQ _ _ ⟨dF, (dB), hfr, z6, a7, b7, rfl, eF, o178, a6, x4⟩
    ·clear hx
     obtain ⟨gF, eB, hfr, iB, jB, kB, lB, mB, nB, p8, r8⟩ := hR
     refine E_region (EL_in (.int .i64 ((w64 (j0 + (1 : Int))))) r8 rfl rfl rfl ?_)
     refine EL_mw (.int .i64 ((w64 (j0 + (1 : Int))))) rfl rfl ?_
     exact EL_nil (thn_n (xD (o3, (w64 (j0 + (1 : Int)))) _ _ ⟨gF, (eB), hfr, iB, jB, kB, lB, mB, nB, p8, rfl⟩ h))
   ·refine E_cf p6 rfl ?_
    refine E_exit ?_
    refine thn_e ?_
    refine thn_e ?_
    refine blk_hit ?_
    obtain rfl := sinj h
    exact hQ _ _ ⟨o6, (yA), hfr, z6, a7, b7, c7, i4, j4⟩
  ·clear hx
   obtain ⟨oB, pB, hfr, qB, rB, sB, tB, uB, vB⟩ := hR
   obtain ⟨d4, hx, h⟩ := bsome h
   refine E_join (fun e w => ∃ (g : Gh) (v7 : Value), FrY gI wI B J (s0) g w ∧ e 1 = (.func (.yield l) #[] #[]) ∧ e 6 = .int .i64 ((((((x0).FaultLoom).Harness).Warps).length : Int)) ∧ e 7 = v7 ∧ RV g.m w (d4 : List FaultDamage) v7 ∧ OS 1007 g w 62 (d4 : List FaultDamage) v7) (fun Q' hQ => ?_) (fun tG qH hR => ?_)
   ·replace h := hx
    clear hx
    refine E_seq (E_region ?_)
    have xB : RV oB.m aF (⟨List.toArray [(3 : Int), (4 : Int)], rfl⟩ : Vector Int 2) (.agg (setCh [[.int .i64 0], [.int .i64 0]] [(0, .int .i64 (3)), (1, .int .i64 (4))]).flatten.toArray) := RV_build rfl (rep_vec (flat_chunk rfl (flat_chunk rfl flat_nil)) rfl)
    generalize bE : (Value.agg (setCh [[.int .i64 0], [.int .i64 0]] [(0, .int .i64 (3)), (1, .int .i64 (4))]).flatten.toArray) = i3 at xB
    refine EL_pur (v := i3) (bE ▸ P_buildA (vs := [(0, .int .i64 (3)), (1, .int .i64 (4))]) [[.int .i64 0], [.int .i64 0]] Try.underlying149 layA_149 szA_60 rfl (by simp) (.cons rfl (.cons rfl .nil)) ⟨⟨_, rfl, rfl⟩, ⟨⟨_, rfl, rfl⟩, trivial⟩⟩) .plain rfl ?_
    refine EL_mw (.int .i64 (0)) rfl rfl ?_
    refine EL_nil (thn_n (E_block ?_))
    refine E_lp h (fun (s : (List FaultDamage) × Int) e w => ∃ (g : Gh) (v7 : Value), FrY gI wI B J (s0) g w ∧ e 1 = (.func (.yield l) #[] #[]) ∧ e 4 = .int .i64 ((((((x0).FaultLoom).Design).Rows).length : Int)) ∧ e 6 = .int .i64 ((((((x0).FaultLoom).Harness).Warps).length : Int)) ∧ e 7 = v7 ∧ RV g.m w (s.1 : List FaultDamage) v7 ∧ OS 1007 g w 62 (s.1 : List FaultDamage) v7 ∧ e 59 = i3 ∧ RV g.m w ((⟨List.toArray [(3 : Int), (4 : Int)], rfl⟩ : Vector Int 2) : Vector Int 2) i3 ∧ e 60 = .int .i64 (s.2)) ⟨oB, (pB), hfr, qB, rB, sB, tB, uB, vB, rfl, xB, rfl⟩ (fun X216 q9 cE => ?_)
    rintro ⟨q5, y0⟩ uG sH ⟨yB, d7, hfr, e7, g7, i7, j7, l7, m7, b6, z4, c5⟩ h
    refine E_seq (E_region (EL_in (.bool ((decide (y0 < (2 : Int))))) c5 rfl rfl rfl ?_))
    refine EL_nil (thn_n (E_seq ?_))
    rcases csome h with ⟨r6, h⟩ | ⟨r6, h⟩
    ·refine E_ct r6 rfl ?_
     refine E_skip (thn_n ?_)
     obtain ⟨s3, hx, h⟩ := bsome h
     refine E_join (fun e w => ∃ (g : Gh) (v7 : Value), FrY gI wI B J (s0) g w ∧ e 1 = (.func (.yield l) #[] #[]) ∧ e 4 = .int .i64 ((((((x0).FaultLoom).Design).Rows).length : Int)) ∧ e 6 = .int .i64 ((((((x0).FaultLoom).Harness).Warps).length : Int)) ∧ e 7 = v7 ∧ RV g.m w (s3 : List FaultDamage) v7 ∧ OS 1007 g w 62 (s3 : List FaultDamage) v7 ∧ e 59 = i3 ∧ RV g.m w ((⟨List.toArray [(3 : Int), (4 : Int)], rfl⟩ : Vector Int 2) : Vector Int 2) i3 ∧ e 60 = .int .i64 (y0)) (fun Q' hQ => ?_) (fun vG tH hR => ?_)
     ·replace h := hx
      clear hx
      refine E_block ?_
      refine E_seq (E_region ?_)
      obtain ⟨z2, l8, h⟩ := bsome h
      have iF := RV_idxA z4 l8
      refine EL_pur (v := .int .i64 (z2)) ((RV_int.1 iF) ▸ P_indexA Try.underlying149 Try.isAgg60 Try.sizeOf60 b6 z4 c5 l8) .plain rfl ?_
      refine EL_at (.int .i64 (z2)) rfl rfl ?_
      refine EL_nil (thn_n (E_seq (E_region (EL_pur (v := .int .i64 ((((((x0).FaultLoom).Design).Rows).length : Int))) (P_move g7) .plain rfl ?_))))
      refine EL_mw (.int .i64 (0)) rfl rfl ?_
      refine EL_nil (thn_n (E_block ?_))
      refine E_lp h (fun (s : (List FaultDamage) × Int) e w => ∃ (g : Gh) (v7 : Value), FrY gI wI B J (s0) g w ∧ e 1 = (.func (.yield l) #[] #[]) ∧ e 4 = .int .i64 ((((((x0).FaultLoom).Design).Rows).length : Int)) ∧ e 6 = .int .i64 ((((((x0).FaultLoom).Harness).Warps).length : Int)) ∧ e 7 = v7 ∧ RV g.m w (s.1 : List FaultDamage) v7 ∧ OS 1007 g w 62 (s.1 : List FaultDamage) v7 ∧ e 11 = .int .i64 (z2) ∧ e 59 = i3 ∧ RV g.m w ((⟨List.toArray [(3 : Int), (4 : Int)], rfl⟩ : Vector Int 2) : Vector Int 2) i3 ∧ e 60 = .int .i64 (y0) ∧ e 63 = .int .i64 ((((((x0).FaultLoom).Design).Rows).length : Int)) ∧ e 64 = .int .i64 (s.2)) ⟨yB, (d7), hfr, e7, g7, i7, j7, l7, m7, rfl, b6, z4, c5, rfl, rfl⟩ (fun X235 s9 dE => ?_)
      rintro ⟨t5, n0⟩ xG jF ⟨b8, zB, hfr, n7, o7, p7, r7, m4, n4, c6, d6, s2, e6, i6, d5⟩ h
      refine E_seq (E_region (EL_pur (v := .bool ((decide (n0 < (((((x0).FaultLoom).Design).Rows).length : Int))))) (P_int d5 i6 rfl) .plain rfl ?_))
      refine EL_nil (thn_n (E_seq ?_))
      rcases csome h with ⟨t6, h⟩ | ⟨t6, h⟩
      ·refine E_ct t6 rfl ?_
       refine E_skip (thn_n ?_)
       obtain ⟨p3, hx, h⟩ := bsome h
       refine E_join (fun e w => ∃ (g : Gh) (v7 : Value), FrY gI wI B J (s0) g w ∧ e 1 = (.func (.yield l) #[] #[]) ∧ e 4 = .int .i64 ((((((x0).FaultLoom).Design).Rows).length : Int)) ∧ e 6 = .int .i64 ((((((x0).FaultLoom).Harness).Warps).length : Int)) ∧ e 7 = v7 ∧ RV g.m w (p3 : List FaultDamage) v7 ∧ OS 1007 g w 62 (p3 : List FaultDamage) v7 ∧ e 11 = .int .i64 (z2) ∧ e 59 = i3 ∧ RV g.m w ((⟨List.toArray [(3 : Int), (4 : Int)], rfl⟩ : Vector Int 2) : Vector Int 2) i3 ∧ e 60 = .int .i64 (y0) ∧ e 63 = .int .i64 ((((((x0).FaultLoom).Design).Rows).length : Int)) ∧ e 64 = .int .i64 (n0)) (fun Q' hQ => ?_) (fun yG uH hR => ?_)
       ·replace h := hx
        clear hx
        refine E_block ?_
        refine E_seq (E_region (EL_mv d5 rfl ?_))
        refine EL_at (.int .i64 (n0)) rfl rfl ?_
        refine EL_nil (thn_n (E_region (EL_mv r7 rfl ?_)))
        refine EL_mv c6 rfl ?_
        refine EL_mw (.int .i64 (n0)) rfl rfl ?_
        have aC : RV b8.m jF (⟨z2, n0, 0, 0, false⟩ : FaultDamage) (.agg (setCh [[.int .i64 0], [.int .i64 0], [.int .i64 0], [.int .i64 0], [.bool false]] [(0, .int .i64 (z2)), (1, .int .i64 (n0))]).flatten.toArray) := RV_build rfl (rep_pair (rfl) (rep_pair (rfl) (rep_pair (rep_int) (rep_pair (rep_int) (rep_last (rep_bool))))))
        generalize eE : (Value.agg (setCh [[.int .i64 0], [.int .i64 0], [.int .i64 0], [.int .i64 0], [.bool false]] [(0, .int .i64 (z2)), (1, .int .i64 (n0))]).flatten.toArray) = bC at aC
        refine EL_pur (v := bC) (eE ▸ P_build (vs := [(0, .int .i64 (z2)), (1, .int .i64 (n0))]) [[.int .i64 0], [.int .i64 0], [.int .i64 0], [.int .i64 0], [.bool false]] lay_62 rfl rfl (.cons rfl (.cons rfl .nil)) ⟨⟨_, rfl, rfl⟩, ⟨⟨_, rfl, rfl⟩, trivial⟩⟩) .plain rfl ?_
        refine EL_do .plain rfl (D_buildSlice (g := b8) 3071 (xs := ([(⟨z2, n0, 0, 0, false⟩ : FaultDamage)] : List FaultDamage)) (vs := [bC]) Try.underlying29 Try.sizeOf62 Try.zeroValue62 rfl rfl (.cons rfl .nil) (RVs.cons aC RVs.nil) rfl rfl fun kF vH xH hs o243 lF hxt hfl => ?_)
        have hfr := hfr.stp_ hAb hs rfl
        have m4 := m4.stp hs
        have n4 := n4.stp hs rfl
        have s2 := s2.stp hs
        obtain ⟨t9, gE, h⟩ := bsome h
        refine EL_do .plain rfl (D_append (g := kF) (i := 1007) Try.underlying29 info_62 rfl rfl n4 m4 rfl lF gE fun mF yH cC hs o244 nF _ => ?_)
        have hfr := hfr.stp_ hAb hs rfl
        have s2 := s2.stp hs
        refine EL_at cC rfl rfl ?_
        refine EL_nil (blk_n ?_)
        obtain rfl := sinj h
        exact hQ _ _ ⟨mF, (cC), hfr, n7, o7, p7, rfl, nF, o244, c6, d6, s2, e6, i6, d5⟩
       ·clear hx
        obtain ⟨oF, dC, hfr, eC, iC, jC, kC, lC, mC, t8, v8, x8, y8, z8, a9⟩ := hR
        refine E_region (EL_in (.int .i64 ((w64 (n0 + (1 : Int))))) a9 rfl rfl rfl ?_)
        refine EL_mw (.int .i64 ((w64 (n0 + (1 : Int))))) rfl rfl ?_
        exact EL_nil (thn_n (dE (p3, (w64 (n0 + (1 : Int)))) _ _ ⟨oF, (dC), hfr, eC, iC, jC, kC, lC, mC, t8, v8, x8, y8, z8, rfl⟩ h))
      ·refine E_cf t6 rfl ?_
       refine E_exit ?_
       refine thn_e ?_
       refine thn_e ?_
       refine blk_hit ?_
       refine blk_n ?_
       obtain rfl := sinj h
       exact hQ _ _ ⟨b8, (zB), hfr, n7, o7, p7, r7, m4, n4, d6, s2, e6⟩
     ·clear hx
      obtain ⟨pF, nC, hfr, oC, pC, qC, rC, sC, tC, b9, c9, d9⟩ := hR
      refine E_region (EL_in (.int .i64 ((w64 (y0 + (1 : Int))))) d9 rfl rfl rfl ?_)
      refine EL_mw (.int .i64 ((w64 (y0 + (1 : Int))))) rfl rfl ?_
      exact EL_nil (thn_n (cE (s3, (w64 (y0 + (1 : Int)))) _ _ ⟨pF, (nC), hfr, oC, pC, qC, rC, sC, tC, b9, c9, rfl⟩ h))
    ·refine E_cf r6 rfl ?_
     refine E_exit ?_
     refine thn_e ?_
     refine thn_e ?_
     refine blk_hit ?_
     obtain rfl := sinj h
     exact hQ _ _ ⟨yB, (d7), hfr, e7, i7, j7, l7, m7⟩
   ·clear hx
    obtain ⟨qF, uC, hfr, vC, xC, yC, zC, aD⟩ := hR
    obtain ⟨i1, hx, h⟩ := bsome h
    refine E_join (fun e w => ∃ (g : Gh) (v7 : Value), FrY gI wI B J (s0) g w ∧ e 1 = (.func (.yield l) #[] #[]) ∧ e 7 = v7 ∧ RV g.m w (i1 : List FaultDamage) v7 ∧ OS 1007 g w 62 (i1 : List FaultDamage) v7) (fun Q' hQ => ?_) (fun zG zH hR => ?_)
    ·replace h := hx
     clear hx
     refine E_seq (E_region (EL_pur (v := .int .i64 ((((((x0).FaultLoom).Harness).Warps).length : Int))) (P_move xC) .plain rfl ?_))
     refine EL_mw (.int .i64 (0)) rfl rfl ?_
     refine EL_nil (thn_n (E_block ?_))
     refine E_lp h (fun (s : (List FaultDamage) × Int) e w => ∃ (g : Gh) (v7 : Value), FrY gI wI B J (s0) g w ∧ e 1 = (.func (.yield l) #[] #[]) ∧ e 7 = v7 ∧ RV g.m w (s.1 : List FaultDamage) v7 ∧ OS 1007 g w 62 (s.1 : List FaultDamage) v7 ∧ e 75 = .int .i64 ((((((x0).FaultLoom).Harness).Warps).length : Int)) ∧ e 76 = .int .i64 (s.2)) ⟨qF, (uC), hfr, vC, yC, zC, aD, rfl, rfl⟩ (fun X261 u9 iE => ?_)
     rintro ⟨u5, o0⟩ aH rF ⟨c8, bD, hfr, t7, u7, o4, p4, j6, i5⟩ h
     refine E_seq (E_region (EL_pur (v := .bool ((decide (o0 < (((((x0).FaultLoom).Harness).Warps).length : Int))))) (P_int i5 j6 rfl) .plain rfl ?_))
     refine EL_nil (thn_n (E_seq ?_))
     rcases csome h with ⟨u6, h⟩ | ⟨u6, h⟩
     ·refine E_ct u6 rfl ?_
      refine E_skip (thn_n ?_)
      obtain ⟨u3, hx, h⟩ := bsome h
      refine E_join (fun e w => ∃ (g : Gh) (v7 : Value), FrY gI wI B J (s0) g w ∧ e 1 = (.func (.yield l) #[] #[]) ∧ e 7 = v7 ∧ RV g.m w (u3 : List FaultDamage) v7 ∧ OS 1007 g w 62 (u3 : List FaultDamage) v7 ∧ e 75 = .int .i64 ((((((x0).FaultLoom).Harness).Warps).length : Int)) ∧ e 76 = .int .i64 (o0)) (fun Q' hQ => ?_) (fun bH aI hR => ?_)
      ·replace h := hx
       clear hx
       refine E_block ?_
       refine E_seq (E_region (EL_mv i5 rfl ?_))
       refine EL_at (.int .i64 (o0)) rfl rfl ?_
       refine EL_nil (thn_n (E_region (EL_mv u7 rfl ?_)))
       refine EL_mw (.int .i64 (o0)) rfl rfl ?_
       have cD : RV c8.m rF (⟨(5 : Int), 0, 0, o0, false⟩ : FaultDamage) (.agg (setCh [[.int .i64 0], [.int .i64 0], [.int .i64 0], [.int .i64 0], [.bool false]] [(0, .int .i64 (5)), (3, .int .i64 (o0))]).flatten.toArray) := RV_build rfl (rep_pair (rfl) (rep_pair (rep_int) (rep_pair (rep_int) (rep_pair (rfl) (rep_last (rep_bool))))))
       generalize jE : (Value.agg (setCh [[.int .i64 0], [.int .i64 0], [.int .i64 0], [.int .i64 0], [.bool false]] [(0, .int .i64 (5)), (3, .int .i64 (o0))]).flatten.toArray) = dD at cD
       refine EL_pur (v := dD) (jE ▸ P_build (vs := [(0, .int .i64 (5)), (3, .int .i64 (o0))]) [[.int .i64 0], [.int .i64 0], [.int .i64 0], [.int .i64 0], [.bool false]] lay_62 rfl rfl (.cons rfl (.cons rfl .nil)) ⟨⟨_, rfl, rfl⟩, ⟨⟨_, rfl, rfl⟩, trivial⟩⟩) .plain rfl ?_
       refine EL_do .plain rfl (D_buildSlice (g := c8) 3082 (xs := ([(⟨(5 : Int), 0, 0, o0, false⟩ : FaultDamage)] : List FaultDamage)) (vs := [dD]) Try.underlying29 Try.sizeOf62 Try.zeroValue62 rfl rfl (.cons rfl .nil) (RVs.cons cD RVs.nil) rfl rfl fun sF bI cI hs o269 tF hxt hfl => ?_)
       have hfr := hfr.stp_ hAb hs rfl
       have o4 := o4.stp hs
       have p4 := p4.stp hs rfl
       obtain ⟨x9, kE, h⟩ := bsome h
       refine EL_do .plain rfl (D_append (g := sF) (i := 1007) Try.underlying29 info_62 rfl rfl p4 o4 rfl tF kE fun uF dI eD hs o270 vF _ => ?_)
       have hfr := hfr.stp_ hAb hs rfl
       refine EL_at eD rfl rfl ?_
       refine EL_nil (blk_n ?_)
       obtain rfl := sinj h
       exact hQ _ _ ⟨uF, (eD), hfr, t7, rfl, vF, o270, j6, i5⟩
      ·clear hx
       obtain ⟨xF, gD, hfr, iD, jD, kD, lD, e9, g9⟩ := hR
       refine E_region (EL_in (.int .i64 ((w64 (o0 + (1 : Int))))) g9 rfl rfl rfl ?_)
       refine EL_mw (.int .i64 ((w64 (o0 + (1 : Int))))) rfl rfl ?_
       exact EL_nil (thn_n (iE (u3, (w64 (o0 + (1 : Int)))) _ _ ⟨xF, (gD), hfr, iD, jD, kD, lD, e9, rfl⟩ h))
     ·refine E_cf u6 rfl ?_
      refine E_exit ?_
      refine thn_e ?_
      refine thn_e ?_
      refine blk_hit ?_
      obtain rfl := sinj h
      exact hQ _ _ ⟨c8, (bD), hfr, t7, u7, o4, p4⟩
    ·clear hx
     obtain ⟨yF, d3, hfr, mD, nD, x7, oD⟩ := hR
     refine E_seq (E_region (EL_mv nD rfl ?_))
     refine EL_pur (v := .int .i64 ((i1).length : Int)) (P_len Try.underlying29 rfl x7) .plain rfl ?_
     refine EL_mw (.int .i64 (0)) rfl rfl ?_
     refine EL_nil (thn_n (E_block ?_))
     refine E_lp h (fun (s : σ × Int) e w => ∃ (g : Gh) , FrY gI wI B J (s.1) g w ∧ e 1 = (.func (.yield l) #[] #[]) ∧ e 85 = d3 ∧ RV g.m w (i1 : List FaultDamage) d3 ∧ OS 1007 g w 62 (i1 : List FaultDamage) d3 ∧ e 86 = .int .i64 (((i1).length : Int)) ∧ e 87 = .int .i64 (s.2)) ⟨yF, hfr, mD, rfl, x7, oD, rfl, rfl⟩ (fun X274 y9 lE => ?_)
     rintro ⟨x5, j1⟩ cH eI ⟨pD, hfr, y7, k6, z1, j2, l6, j5⟩ h
     refine E_seq (E_region (EL_in (.bool ((decide (j1 < ((i1).length : Int))))) j5 l6 rfl rfl ?_))
     refine EL_nil (thn_n (E_seq ?_))
     rcases csome h with ⟨v6, h⟩ | ⟨v6, h⟩
     ·refine E_ct v6 rfl ?_
      refine E_skip (thn_n (E_joinC h (fun (s : σ) e w => ∃ (g : Gh) , FrY gI wI B J (s) g w ∧ e 1 = (.func (.yield l) #[] #[]) ∧ e 85 = d3 ∧ RV g.m w (i1 : List FaultDamage) d3 ∧ OS 1007 g w 62 (i1 : List FaultDamage) d3 ∧ e 86 = .int .i64 (((i1).length : Int)) ∧ e 87 = .int .i64 (j1)) (fun X286 z9 mE h => ?_) ?_))
      ·refine E_block ?_
       refine E_seq (E_region ?_)
       obtain ⟨z7, m8, h⟩ := bsome h
       refine EL_pur (v := ePtr d3 j1 5) (P_indexAddr (α := FaultDamage) Try.underlying29 Try.sizeOf62 k6 z1 j5 m8) .plain rfl ?_
       have zF := PT_idx z1 m8
       refine EL_do .plain rfl (D_load (g := pD) Try.isAgg62 Try.sizeOf62 rfl zF fun aG d8 => ?_)
       refine EL_do .plain rfl (D_allocOc (g := pD) 2015 (⟨0, 0, 0, 0, false⟩ : FaultDamage) Try.zeroValue62 (fun m w => ⟨_, (rep_two rep_int (rep_two rep_int (rep_two rep_int (rep_two rep_int rep_bool)))), rfl⟩) fun bG iI jI hs b290 cb => ?_)
       have hfr := hfr.stp_ hAb hs rfl
       have z1 := z1.stp hs
       have j2 := j2.stp hs rfl
       have d8 := d8.stp hs
       clear cb
       refine EL_do .plain rfl (D_storeOc (g := bG) (v := aG) Try.sizeOf62 rfl b290 rfl d8 fun qD kI hs b291 cb => ?_)
       clear cb
       have hfr := hfr.stp_ hAb hs rfl
       have z1 := z1.stp hs
       have j2 := j2.stp hs rfl
       refine EL_nil (thn_n (E_seq (E_region (EL_mv y7 rfl ?_))))
       refine EL_do .plain rfl (D_loadO (g := qD) Try.isAgg62 Try.sizeOf62 rfl b291 fun lI cG => ?_)
       obtain ⟨dG, nE, h⟩ := bsome h
       obtain ⟨n6, l5⟩ := dG
       refine EL_do .plain rfl (D_yield (g := qD) (x := z7) rfl (.cons rfl .nil) hRo hfr nE ⟨_, rfl, cG⟩ fun eG mI hs hfrY => ?_)
       have z1 := z1.stp hs
       have j2 := j2.stp hs rfl
       have hfr := hfrY
       clear hfrY
       refine EL_pur (v := .bool (!n6)) (P_not rfl) .plain rfl ?_
       refine EL_nil (thn_n ?_)
       rcases csome h with ⟨x6, h⟩ | ⟨x6, h⟩
       ·refine E_ct x6 rfl ?_
        refine E_ret (blk_r ?_)
        refine thn_r ?_
        refine thn_r ?_
        refine blk_r ?_
        obtain rfl := sinj h
        exact end0 rfl rfl (FrY.done hfr)
       ·refine E_cf x6 rfl ?_
        exact E_skip (blk_n (thn_n (mE (l5) _ _ ⟨eG, hfr, y7, k6, z1, j2, l6, j5⟩ h)))
      ·rintro y5 dH nI ⟨gG, hfr, rD, i9, j9, k9, l9, m9⟩ h
       refine E_region (EL_in (.int .i64 ((w64 (j1 + (1 : Int))))) m9 rfl rfl rfl ?_)
       refine EL_mw (.int .i64 ((w64 (j1 + (1 : Int))))) rfl rfl ?_
       exact EL_nil (thn_n (lE (y5, (w64 (j1 + (1 : Int)))) _ _ ⟨gG, hfr, rD, i9, j9, k9, l9, rfl⟩ h))
     ·refine E_cf v6 rfl ?_
      refine E_exit ?_
      refine thn_e ?_
      refine thn_e ?_
      refine blk_hit ?_
      obtain rfl := sinj h
      exact end0n rfl rfl (FrY.done hfr)
/-- griffe/fault.fits$1 -/
def f91 (x0 : FaultSight) (z0 : List Str) : Option (Bool) :=
 (rem64 (x0).Pick ((z0).length : Int)).bind fun y6 =>
 (idx z0 y6).bind fun y7 =>
 (idx (y7).b (x0).Warp).bind fun j0 =>
 some ((!((j0 == (120 : UInt8)) == (x0).Lifted)))
theorem en91 : Enters Try.prog 91 := enters_of Try.func91 (by kernel_rfl) rfl
theorem wk91 {gI : Gh} {wI : World} {x0 : FaultSight} {z0 : List Str} {up0 : Value} (rp0 : RV gI.m wI x0 up0) {pf0 : Value} (qf0 : PT gI.m wI z0 pf0) {r : Bool} (h : f91 x0 z0 = some r) : Fn Try.prog 91 #[up0, pf0] gI wI (fun _ _ v => v = .bool (r)) := by
 unfold f91 at h
 refine fn_of_E Try.func91 rfl (Nat.le_of_ble_eq_true rfl) fun g0 hm hfr => ?_
 have qf0 : PT g0.m wI z0 pf0 := hm ▸ qf0
 have rp0 : RV g0.m wI x0 up0 := hm ▸ rp0
 show E _ 19 none _ _ _ _ _
 refine E_seq (E_region (EL_do .plain rfl (D_box (g := g0) rfl rp0 fun g1 w1 p1 hs q1 => ?_)))
 have hfr := hfr.ext hs
 have qf0 := qf0.ext hs
 refine EL_at (.bool false) rfl rfl ?_
 refine EL_nil (thn_n (E_seq (L_load (x := .tmp 1) Try.isAgg36 Try.sizeOf36 qf0 fun v2 r2 hl2 => ?_)))
 have q3 := PT_field (part_FaultSight_0).1 q1
 refine L_load (x := .tmp 5) Try.isAgg3 Try.sizeOf3 q3 fun v4 r4 i1 => ?_
 obtain rfl := RV_int.1 r4
 refine L_load (x := .tmp 1) Try.isAgg36 Try.sizeOf36 qf0 fun v5 r5 j1 => ?_
 obtain ⟨y6, z1, h⟩ := bsome h
 obtain ⟨y7, n0, h⟩ := bsome h
 have q8 := PT_idx r2 n0
 refine L_load (x := .tmp 10) Try.isAgg9 Try.sizeOf9 q8 fun v9 r9 d2 => ?_
 obtain rfl := RV_str.1 r9
 have i2 := PT_field (part_FaultSight_1).1 q1
 refine L_load (x := .tmp 12) Try.isAgg3 Try.sizeOf3 i2 fun z2 j2 o0 => ?_
 obtain rfl := RV_int.1 j2
 obtain ⟨j0, u0, h⟩ := bsome h
 have q2 := PT_field (part_FaultSight_2).1 q1
 refine L_load (x := .tmp 16) Try.isAgg4 Try.sizeOf4 q2 fun d3 s2 y0 => ?_
 obtain rfl := RV_bool.1 s2
 refine E_drawL (g := g1) (n := 16) [] [0, 1, 2, 3, 4, 5, 6, 7, 8, 9, 10, 11, 12, 13, 14, 15] rfl mixed (by kernel_rfl) trivial ?_
 refine L_ld (c := v2) rfl rfl .plain (fun _ _ h => h.ch) hl2 rfl ?_
 refine L_pur (c := fPtr p1 0) rfl rfl .plain (fun _ _ hd => P_fieldAddr at_56_0 rfl (PT.ptr q1)) ?_
 refine L_ld (c := .int .i64 ((x0).Pick)) rfl rfl .plain (fun _ _ h => h.ch) i1 rfl ?_
 refine L_ld (c := v5) rfl rfl .plain (fun _ _ h => h.ch) j1 rfl ?_
 refine L_pur (c := .int .i64 ((z0).length : Int)) rfl rfl .plain (fun _ _ hd => P_len Try.underlying36 rfl r5) ?_
 refine L_pur (c := .int .i64 (y6)) rfl rfl .plain (fun _ _ hd => P_int rfl rfl (congrArg (Option.map (Value.int .i64)) z1)) ?_
 refine L_pur (c := ePtr v2 y6 1) rfl rfl .plain (fun _ _ hd => P_indexAddr (α := Str) Try.underlying36 Try.sizeOf9 rfl r2 rfl n0) ?_
 refine L_ld (c := Str.v (y7)) rfl rfl .plain (fun _ _ h => h.ch) d2 rfl ?_
 refine L_pur (c := fPtr p1 1) rfl rfl .plain (fun _ _ hd => P_fieldAddr at_56_1 rfl (PT.ptr q1)) ?_
 refine L_ld (c := .int .i64 ((x0).Warp)) rfl rfl .plain (fun _ _ h => h.ch) o0 rfl ?_
 refine L_pur (c := .int .u8 (UInt8.toNat (j0))) rfl rfl .plain (fun _ _ hd => P_indexS Try.underlying9 rfl rfl u0) ?_
 refine L_pur (c := .bool ((j0 == (120 : UInt8)))) rfl rfl .plain (fun _ _ hd => P_u8 rfl rfl rfl) ?_
 refine L_pur (c := fPtr p1 2) rfl rfl .plain (fun _ _ hd => P_fieldAddr at_56_2 rfl (PT.ptr q1)) ?_
 refine L_ld (c := .bool ((x0).Lifted)) rfl rfl .plain (fun _ _ h => h.ch) y0 rfl ?_
 refine L_pur (c := .bool ((!((j0 == (120 : UInt8)) == (x0).Lifted)))) rfl rfl .plain (fun _ _ hd => P_bool Try.underlying4 rfl rfl rfl) ?_
 refine L_pur (c := .bool ((!((j0 == (120 : UInt8)) == (x0).Lifted)))) rfl rfl .plain (fun _ _ hd => P_assign rfl) ?_
 refine L_nil fun i3 j3 hall => ?_
 have hs := hall.1
 have hfr := hfr.ext hs
 clear hs hall
 refine EL_nil (thn_n (E_ret ?_))
 obtain rfl := sinj h
 exact end1 rfl rfl (show _ = .bool ((!((j0 == (120 : UInt8)) == (x0).Lifted))) from rfl) ⟨_, hfr, rfl⟩
/-- griffe/grifferef03.In -/
def f92 (x0 : Int) (x1 : Int) (x2 : Int) : Option (Bool) :=
 Option.bind (α := Bool) (
  bif (decide (x0 ≥ x1)) then
   some ((decide (x0 ≤ x2)))
  else
   some (false)
  ) fun j0 =>
 some (j0)
theorem en92 : Enters Try.prog 92 := enters_of Try.func92 (by kernel_rfl) rfl
theorem wk92 {gI : Gh} {wI : World} {x0 : Int} {x1 : Int} {x2 : Int}  {r : Bool} (h : f92 x0 x1 x2 = some r) : Fn Try.prog 92 #[.int .i64 (x0), .int .i64 (x1), .int .i64 (x2)] gI wI (fun _ _ v => v = .bool (r)) := by
 unfold f92 at h
 refine fn_of_E Try.func92 rfl (Nat.le_of_ble_eq_true rfl) fun g0 hm hfr => ?_
 show E _ 15 none _ _ _ _ _
 refine E_seq (E_region (EL_at (.bool false) rfl rfl ?_))
 refine EL_nil (thn_n ?_)
 obtain ⟨j0, hx, h⟩ := bsome h
 refine E_join (fun e w => ∃ (g : Gh) , Fr gI wI g w ∧ e 6 = .bool (j0)) (fun Q' hQ => ?_) (fun o0 w3 hR => ?_)
 ·replace h := hx
  clear hx
  refine E_region (EL_mw (.int .i64 (x0)) rfl rfl ?_)
  refine EL_mw (.int .i64 (x1)) rfl rfl ?_
  refine EL_in (.bool ((decide (x0 ≥ x1)))) rfl rfl rfl rfl ?_
  refine EL_mw (.bool ((decide (x0 ≥ x1)))) rfl rfl ?_
  rcases csome h with ⟨hc2, h⟩ | ⟨hc2, h⟩
  ·refine EL_pur (v := .int .i64 (x0)) (P_move rfl) (.yes2 rfl rfl hc2) rfl ?_
   refine EL_pur (v := .int .i64 (x2)) (P_move rfl) (.yes2 rfl rfl hc2) rfl ?_
   refine EL_pur (v := .bool ((decide (x0 ≤ x2)))) (P_int rfl rfl rfl) (.yes2 rfl rfl hc2) rfl ?_
   refine EL_pur (v := .bool ((decide (x0 ≤ x2)))) (P_pick (b := (decide (x0 ≥ x1))) rfl (pick_t hc2 rfl)) .plain rfl ?_
   refine EL_at (.bool ((decide (x0 ≤ x2)))) rfl rfl ?_
   refine EL_nil ?_
   obtain rfl := sinj h
   exact hQ _ _ ⟨g0, hfr, rfl⟩
  ·refine EL_skip (.no2 rfl rfl hc2 rfl) rfl ?_
   refine EL_skip (.no2 rfl rfl hc2 rfl) rfl ?_
   refine EL_skip (.no2 rfl rfl hc2 rfl) rfl ?_
   refine EL_pur (v := .bool false) (P_pick (b := (decide (x0 ≥ x1))) rfl (pick_f hc2 rfl)) .plain rfl ?_
   refine EL_at (.bool false) rfl rfl ?_
   refine EL_nil ?_
   obtain rfl := sinj h
   exact hQ _ _ ⟨g0, hfr, rfl⟩
 ·clear hx
  obtain ⟨g3, hfr, n0⟩ := hR
  refine E_ret ?_
  obtain rfl := sinj h
  exact end1 rfl rfl (show _ = .bool (j0) from n0) ⟨_, hfr, rfl⟩
/-- griffe/grifferef01.In -/
def f93 (x0 : Int) (x1 : Int) (x2 : Int) : Option (Bool) :=
 Option.bind (α := Bool) (
  bif (decide (x0 ≥ x1)) then
   some ((decide (x0 ≤ x2)))
  else
   some (false)
  ) fun j0 =>
 some (j0)
theorem en93 : Enters Try.prog 93 := enters_of Try.func93 (by kernel_rfl) rfl
theorem wk93 {gI : Gh} {wI : World} {x0 : Int} {x1 : Int} {x2 : Int}  {r : Bool} (h : f93 x0 x1 x2 = some r) : Fn Try.prog 93 #[.int .i64 (x0), .int .i64 (x1), .int .i64 (x2)] gI wI (fun _ _ v => v = .bool (r)) := by
 unfold f93 at h
 refine fn_of_E Try.func93 rfl (Nat.le_of_ble_eq_true rfl) fun g0 hm hfr => ?_
 show E _ 15 none _ _ _ _ _
 refine E_seq (E_region (EL_at (.bool false) rfl rfl ?_))
 refine EL_nil (thn_n ?_)
 obtain ⟨j0, hx, h⟩ := bsome h
 refine E_join (fun e w => ∃ (g : Gh) , Fr gI wI g w ∧ e 6 = .bool (j0)) (fun Q' hQ => ?_) (fun o0 w3 hR => ?_)
 ·replace h := hx
  clear hx
  refine E_region (EL_mw (.int .i64 (x0)) rfl rfl ?_)
  refine EL_mw (.int .i64 (x1)) rfl rfl ?_
  refine EL_in (.bool ((decide (x0 ≥ x1)))) rfl rfl rfl rfl ?_
  refine EL_mw (.bool ((decide (x0 ≥ x1)))) rfl rfl ?_
  rcases csome h with ⟨hc2, h⟩ | ⟨hc2, h⟩
  ·refine EL_pur (v := .int .i64 (x0)) (P_move rfl) (.yes2 rfl rfl hc2) rfl ?_
   refine EL_pur (v := .int .i64 (x2)) (P_move rfl) (.yes2 rfl rfl hc2) rfl ?_
   refine EL_pur (v := .bool ((decide (x0 ≤ x2)))) (P_int rfl rfl rfl) (.yes2 rfl rfl hc2) rfl ?_
   refine EL_pur (v := .bool ((decide (x0 ≤ x2)))) (P_pick (b := (decide (x0 ≥ x1))) rfl (pick_t hc2 rfl)) .plain rfl ?_
   refine EL_at (.bool ((decide (x0 ≤ x2)))) rfl rfl ?_
   refine EL_nil ?_
   obtain rfl := sinj h
   exact hQ _ _ ⟨g0, hfr, rfl⟩
  ·refine EL_skip (.no2 rfl rfl hc2 rfl) rfl ?_
   refine EL_skip (.no2 rfl rfl hc2 rfl) rfl ?_
   refine EL_skip (.no2 rfl rfl hc2 rfl) rfl ?_
   refine EL_pur (v := .bool false) (P_pick (b := (decide (x0 ≥ x1))) rfl (pick_f hc2 rfl)) .plain rfl ?_
   refine EL_at (.bool false) rfl rfl ?_
   refine EL_nil ?_
   obtain rfl := sinj h
   exact hQ _ _ ⟨g0, hfr, rfl⟩
 ·clear hx
  obtain ⟨g3, hfr, n0⟩ := hR
  refine E_ret ?_
  obtain rfl := sinj h
  exact end1 rfl rfl (show _ = .bool (j0) from n0) ⟨_, hfr, rfl⟩
/-- griffe/fault.changes$1 -/
def f97 (_x0 : FaultFaultLoom) (x1 : FaultDamage) (x2 : List Int) : Option ((List Int)) :=
 (idx x2 (x1).Pick).bind fun y5 =>
 (shl64 (1 : Int) (x1).Hook).bind fun y9 =>
 (idx x2 (x1).Pick).bind fun _u0 =>
 some ((List.set x2 (Int.toNat (x1).Pick) ((bit64 .xor y5 y9))))
theorem en97 : Enters Try.prog 97 := enters_of Try.func97 (by kernel_rfl) rfl
theorem wk97 {iI : Nat} {gI : Gh} {wI : World} {x0 : FaultFaultLoom} {x1 : FaultDamage} {x2 : List Int} {up0 : Value} (rp0 : RV gI.m wI x0 up0) {up1 : Value} (rp1 : RV gI.m wI x1 up1) {up2 : Value} (mp2 : OM iI gI wI 3 x2 up2) {up3 : Value} {r : (List Int)} (h : f97 x0 x1 x2 = some r) : FnM Try.prog 97 #[up0, up1, up2, up3] iI gI wI (fun g w v => v = .tuple #[] ∧ OM iI g w 3 r up2) := by
 unfold f97 at h
 refine fnM_of_E Try.func97 rfl (Nat.le_of_ble_eq_true rfl) fun g0 hm hfr => ?_
 have n0 := mp2
 replace mp2 := mp2.enter
 rw [← hm] at mp2
 replace hm : g0.m = gI.m := by rw [hm]
 have rp0 : RV g0.m wI x0 up0 := hm ▸ rp0
 have rp1 : RV g0.m wI x1 up1 := hm ▸ rp1
 show E _ 18 none _ _ _ _ _
 refine E_seq (E_region (EL_do .plain rfl (D_box (g := g0) rfl rp0 fun g1 w1 p1 hs q1 => ?_)))
 have hfr := hfr.ext hs
 have rp1 := rp1.ext hs
 have mp2 := mp2.ext hs
 refine EL_do .plain rfl (D_box (g := g1) rfl rp1 fun g2 w2 p2 hs q2 => ?_)
 have hfr := hfr.ext hs
 have mp2 := mp2.ext hs
 refine EL_nil (thn_n ?_)
 have q3 := PT_field (part_FaultDamage_1).1 q2
 refine L_load (x := .tmp 9) Try.isAgg3 Try.sizeOf3 q3 fun v4 r4 y0 => ?_
 obtain rfl := RV_int.1 r4
 obtain ⟨y5, o0, h⟩ := bsome h
 refine L_loadM (x := .tmp 11) Try.isAgg3 Try.sizeOf3 mp2 o0 fun v6 r6 i1 => ?_
 obtain rfl := RV_int.1 r6
 have q7 := PT_field (part_FaultDamage_2).1 q2
 refine L_load (x := .tmp 13) Try.isAgg3 Try.sizeOf3 q7 fun v8 r8 j1 => ?_
 obtain rfl := RV_int.1 r8
 obtain ⟨y9, z1, h⟩ := bsome h
 obtain ⟨u0, j0, h⟩ := bsome h
 refine E_drawL (g := g2) (n := 10) [] [0, 1, 2, 3, 4, 5, 6, 7, 8, 9] rfl mixed (by kernel_rfl) trivial ?_
 refine L_pur (c := up2) rfl rfl .plain (fun _ _ hd => P_move rfl) ?_
 refine L_pur (c := fPtr p2 1) rfl rfl .plain (fun _ _ hd => P_fieldAddr at_62_1 rfl (PT.ptr q2)) ?_
 refine L_ld (c := .int .i64 ((x1).Pick)) rfl rfl .plain (fun _ _ h => h.ch) y0 rfl ?_
 refine L_pur (c := ePtr up2 (x1).Pick 1) rfl rfl .plain (fun _ _ hd => P_indexAddrM (α := Int) Try.underlying22 Try.sizeOf3 rfl mp2 rfl o0) ?_
 refine L_ld (c := .int .i64 (y5)) rfl rfl .plain (fun _ _ h => ⟨h.ch, fun b hb _ => h.below.block b hb⟩) i1 rfl ?_
 refine L_pur (c := fPtr p2 2) rfl rfl .plain (fun _ _ hd => P_fieldAddr at_62_2 rfl (PT.ptr q2)) ?_
 refine L_ld (c := .int .i64 ((x1).Hook)) rfl rfl .plain (fun _ _ h => h.ch) j1 rfl ?_
 refine L_pur (c := .int .i64 (y9)) rfl rfl .plain (fun _ _ hd => P_int rfl rfl (congrArg (Option.map (Value.int .i64)) z1)) ?_
 refine L_pur (c := .int .i64 ((bit64 .xor y5 y9))) rfl rfl .plain (fun _ _ hd => P_int rfl rfl rfl) ?_
 refine L_pur (c := ePtr up2 (x1).Pick 1) rfl rfl .plain (fun _ _ hd => P_indexAddrM (α := Int) Try.underlying22 Try.sizeOf3 rfl mp2 rfl j0) ?_
 refine L_nil fun d2 i2 hall => ?_
 have hs := hall.1
 have hfr := hfr.ext hs
 have mp2 := mp2.ext hs
 clear hs hall
 refine EL_do .plain rfl (D_storeM (g := d2) (α := Int) (a' := ((bit64 .xor y5 y9))) Try.sizeOf3 rfl mp2 j0 rfl (RV_int.2 rfl) fun j2 s2 hs b28 => ?_)
 have hfr := hfr.stp hs
 refine EL_nil ?_
 obtain rfl := sinj h
 exact end0n rfl rfl ⟨_, hfr, rfl, n0.back b28⟩
/-- griffe/fault.changes$2 -/
def f98 (_x0 : FaultFaultLoom) (x1 : FaultDamage) (x2 : List Int) : Option ((List Int)) :=
 lp (σ := (List Int) × Int) (fun k3 (o0, j0) =>
  bif (decide (j0 < ((x2).length : Int))) then
   Option.bind (α := (List Int)) (
    (idx o0 j0).bind fun i1 =>
    (shl64 (1 : Int) (x1).Hook).bind fun j1 =>
    (idx o0 j0).bind fun _i5 =>
    bif (!(x1).Up) then
     (idx ((List.set o0 (Int.toNat j0) ((bit64 .or i1 j1)))) j0).bind fun z2 =>
     (shl64 (1 : Int) (x1).Hook).bind fun d2 =>
     (idx ((List.set o0 (Int.toNat j0) ((bit64 .or i1 j1)))) j0).bind fun _n4 =>
     some ((List.set ((List.set o0 (Int.toNat j0) ((bit64 .or i1 j1)))) (Int.toNat j0) ((bit64 .xor z2 d2))))
    else
     some ((List.set o0 (Int.toNat j0) ((bit64 .or i1 j1))))
    ) fun y0 =>
   k3 (y0, (w64 (j0 + (1 : Int))))
  else
   some (o0)
  ) big (x2, (0 : Int))
theorem en98 : Enters Try.prog 98 := enters_of Try.func98 (by kernel_rfl) rfl
theorem wk98 {iI : Nat} {gI : Gh} {wI : World} {x0 : FaultFaultLoom} {x1 : FaultDamage} {x2 : List Int} {up0 : Value} (rp0 : RV gI.m wI x0 up0) {up1 : Value} (rp1 : RV gI.m wI x1 up1) {up2 : Value} (mp2 : OM iI gI wI 3 x2 up2) {up3 : Value} {r : (List Int)} (h : f98 x0 x1 x2 = some r) : FnM Try.prog 98 #[up0, up1, up2, up3] iI gI wI (fun g w v => v = .tuple #[] ∧ OM iI g w 3 r up2) := by
 unfold f98 at h
 refine fnM_of_E Try.func98 rfl (Nat.le_of_ble_eq_true rfl) fun g0 hm hfr => ?_
 have j4 := mp2
 replace mp2 := mp2.enter
 rw [← hm] at mp2
 replace hm : g0.m = gI.m := by rw [hm]
 have rp0 : RV g0.m wI x0 up0 := hm ▸ rp0
 have rp1 : RV g0.m wI x1 up1 := hm ▸ rp1
 show E _ 36 none _ _ _ _ _
 refine E_seq (E_region (EL_do .plain rfl (D_box (g := g0) rfl rp0 fun g1 w1 p1 hs q1 => ?_)))
 have hfr := hfr.ext hs
 have rp1 := rp1.ext hs
 have mp2 := mp2.ext hs
 refine EL_do .plain rfl (D_box (g := g1) rfl rp1 fun g2 w2 p2 hs q2 => ?_)
 have hfr := hfr.ext hs
 have mp2 := mp2.ext hs
 refine EL_nil (thn_n (E_seq (E_region (EL_mw up2 rfl rfl ?_))))
 refine EL_pur (v := .int .i64 ((x2).length : Int)) (P_lenM Try.underlying22 rfl mp2) .plain rfl ?_
 refine EL_mw (.int .i64 (0)) rfl rfl ?_
 refine EL_nil (thn_n (E_block ?_))
 refine E_lp h (fun (s : (List Int) × Int) e w => ∃ (g : Gh) , FrM iI gI wI g w ∧ e 2 = up2 ∧ OM 1 g w 3 (s.1 : List Int) up2 ∧ e 5 = p2 ∧ PT g.m w (x1 : FaultDamage) p2 ∧ e 10 = .int .i64 (((x2).length : Int)) ∧ e 11 = .int .i64 (s.2)) ⟨g2, hfr, rfl, mp2, rfl, q2, rfl, rfl⟩ (fun X3 k3 hk3 => ?_)
 rintro ⟨o0, j0⟩ b6 w4 ⟨g4, hfr, j2, u0, i2, n0, s2, z1⟩ h
 refine E_seq (E_region (EL_in (.bool ((decide (j0 < ((x2).length : Int))))) z1 s2 rfl rfl ?_))
 refine EL_nil (thn_n (E_seq ?_))
 rcases csome h with ⟨hc5, h⟩ | ⟨hc5, h⟩
 ·refine E_ct hc5 rfl ?_
  refine E_skip (thn_n ?_)
  obtain ⟨y0, hx, h⟩ := bsome h
  refine E_join (fun e w => ∃ (g : Gh) , FrM iI gI wI g w ∧ e 2 = up2 ∧ OM 1 g w 3 (y0 : List Int) up2 ∧ e 5 = p2 ∧ PT g.m w (x1 : FaultDamage) p2 ∧ e 10 = .int .i64 (((x2).length : Int)) ∧ e 11 = .int .i64 (j0)) (fun Q' hQ => ?_) (fun x5 y5 hR => ?_)
  ·replace h := hx
   clear hx
   refine E_block ?_
   refine E_seq (E_region (EL_mv z1 rfl ?_))
   refine EL_at (.int .i64 (j0)) rfl rfl ?_
   refine EL_nil (thn_n (E_seq ?_))
   obtain ⟨i1, p3, h⟩ := bsome h
   refine L_loadM (x := .tmp 16) Try.isAgg3 Try.sizeOf3 u0 p3 fun c6 j5 o4 => ?_
   obtain rfl := RV_int.1 j5
   have l5 := PT_field (part_FaultDamage_2).1 n0
   refine L_load (x := .tmp 18) Try.isAgg3 Try.sizeOf3 l5 fun d6 m5 p4 => ?_
   obtain rfl := RV_int.1 m5
   obtain ⟨j1, q4, h⟩ := bsome h
   obtain ⟨i5, q3, h⟩ := bsome h
   refine E_drawL (g := g4) (n := 9) [] [0, 1, 2, 3, 4, 5, 6, 7, 8] rfl mixed (by kernel_rfl) trivial ?_
   refine L_pur (c := up2) rfl rfl .plain (fun _ _ hd => P_move j2) ?_
   refine L_pur (c := .int .i64 (j0)) rfl rfl .plain (fun _ _ hd => P_move rfl) ?_
   refine L_pur (c := ePtr up2 j0 1) rfl rfl .plain (fun _ _ hd => P_indexAddrM (α := Int) Try.underlying22 Try.sizeOf3 rfl u0 rfl p3) ?_
   refine L_ld (c := .int .i64 (i1)) rfl rfl .plain (fun _ _ h => ⟨h.ch, fun b hb _ => h.below.block b hb⟩) o4 rfl ?_
   refine L_pur (c := fPtr p2 2) rfl rfl .plain (fun _ _ hd => P_fieldAddr at_62_2 i2 (PT.ptr n0)) ?_
   refine L_ld (c := .int .i64 ((x1).Hook)) rfl rfl .plain (fun _ _ h => h.ch) p4 rfl ?_
   refine L_pur (c := .int .i64 (j1)) rfl rfl .plain (fun _ _ hd => P_int rfl rfl (congrArg (Option.map (Value.int .i64)) q4)) ?_
   refine L_pur (c := .int .i64 ((bit64 .or i1 j1))) rfl rfl .plain (fun _ _ hd => P_int rfl rfl rfl) ?_
   refine L_pur (c := ePtr up2 j0 1) rfl rfl .plain (fun _ _ hd => P_indexAddrM (α := Int) Try.underlying22 Try.sizeOf3 rfl u0 rfl q3) ?_
   refine L_nil fun n5 e6 hall => ?_
   have hs := hall.1
   have hfr := hfr.ext hs
   have u0 := u0.ext hs
   have n0 := n0.ext hs
   clear hs hall
   refine EL_do .plain rfl (D_storeM (g := n5) (α := Int) (a' := ((bit64 .or i1 j1))) Try.sizeOf3 rfl u0 q3 rfl (RV_int.2 rfl) fun s3 i6 hs b92 => ?_)
   have hfr := hfr.stp hs
   have n0 := n0.stp hs
   refine EL_nil (thn_n (E_seq (E_region (EL_pur (v := fPtr p2 4) (P_fieldAddr at_62_4 i2 (PT.ptr n0)) .plain rfl ?_))))
   have o5 := PT_field (part_FaultDamage_4).1 n0
   refine EL_do .plain rfl (D_load (g := s3) Try.isAgg4 Try.sizeOf4 rfl o5 fun j6 p5 => ?_)
   obtain rfl := RV_bool.1 p5
   refine EL_pur (v := .bool (!(x1).Up)) (P_not rfl) .plain rfl ?_
   refine EL_nil (thn_n ?_)
   rcases csome h with ⟨d3, h⟩ | ⟨d3, h⟩
   ·refine E_ct d3 rfl ?_
    obtain ⟨z2, u3, h⟩ := bsome h
    refine L_loadM (x := .tmp 28) Try.isAgg3 Try.sizeOf3 b92 u3 fun k6 q5 u4 => ?_
    obtain rfl := RV_int.1 q5
    have t5 := PT_field (part_FaultDamage_2).1 n0
    refine L_load (x := .tmp 30) Try.isAgg3 Try.sizeOf3 t5 fun l6 u5 x4 => ?_
    obtain rfl := RV_int.1 u5
    obtain ⟨d2, m4, h⟩ := bsome h
    obtain ⟨n4, i3, h⟩ := bsome h
    refine E_drawL (g := s3) (n := 9) [] [0, 1, 2, 3, 4, 5, 6, 7, 8] rfl mixed (by kernel_rfl) trivial ?_
    refine L_pur (c := up2) rfl rfl .plain (fun _ _ hd => P_move j2) ?_
    refine L_pur (c := .int .i64 (j0)) rfl rfl .plain (fun _ _ hd => P_move rfl) ?_
    refine L_pur (c := ePtr up2 j0 1) rfl rfl .plain (fun _ _ hd => P_indexAddrM (α := Int) Try.underlying22 Try.sizeOf3 rfl b92 rfl u3) ?_
    refine L_ld (c := .int .i64 (z2)) rfl rfl .plain (fun _ _ h => ⟨h.ch, fun b hb _ => h.below.block b hb⟩) u4 rfl ?_
    refine L_pur (c := fPtr p2 2) rfl rfl .plain (fun _ _ hd => P_fieldAddr at_62_2 i2 (PT.ptr n0)) ?_
    refine L_ld (c := .int .i64 ((x1).Hook)) rfl rfl .plain (fun _ _ h => h.ch) x4 rfl ?_
    refine L_pur (c := .int .i64 (d2)) rfl rfl .plain (fun _ _ hd => P_int rfl rfl (congrArg (Option.map (Value.int .i64)) m4)) ?_
    refine L_pur (c := .int .i64 ((bit64 .xor z2 d2))) rfl rfl .plain (fun _ _ hd => P_int rfl rfl rfl) ?_
    refine L_pur (c := ePtr up2 j0 1) rfl rfl .plain (fun _ _ hd => P_indexAddrM (α := Int) Try.underlying22 Try.sizeOf3 rfl b92 rfl i3) ?_
    refine L_nil fun z4 z5 hall => ?_
    have hs := hall.1
    have hfr := hfr.ext hs
    have b92 := b92.ext hs
    have n0 := n0.ext hs
    clear hs hall
    refine EL_do .plain rfl (D_storeM (g := z4) (α := Int) (a' := ((bit64 .xor z2 d2))) Try.sizeOf3 rfl b92 i3 rfl (RV_int.2 rfl) fun c5 a6 hs b131 => ?_)
    have hfr := hfr.stp hs
    have n0 := n0.stp hs
    refine EL_nil (blk_n ?_)
    obtain rfl := sinj h
    exact hQ _ _ ⟨c5, hfr, j2, b131, i2, n0, s2, z1⟩
   ·refine E_cf d3 rfl ?_
    refine E_skip (blk_n ?_)
    obtain rfl := sinj h
    exact hQ _ _ ⟨s3, hfr, j2, b92, i2, n0, s2, z1⟩
  ·clear hx
   obtain ⟨d5, hfr, z3, c4, d4, i4, j3, o3⟩ := hR
   refine E_region (EL_in (.int .i64 ((w64 (j0 + (1 : Int))))) o3 rfl rfl rfl ?_)
   refine EL_mw (.int .i64 ((w64 (j0 + (1 : Int))))) rfl rfl ?_
   exact EL_nil (thn_n (hk3 (y0, (w64 (j0 + (1 : Int)))) _ _ ⟨d5, hfr, z3, c4, d4, i4, j3, rfl⟩ h))
 ·refine E_cf hc5 rfl ?_
  refine E_exit ?_
  refine thn_e ?_
  refine thn_e ?_
  refine blk_hit ?_
  obtain rfl := sinj h
  exact end0n rfl rfl ⟨_, hfr, rfl, j4.back u0⟩
/-- griffe/fault.changes$3 -/
def f99 (x0 : FaultFaultLoom) (x1 : FaultDamage) (x2 : List Int) : Option ((List Int)) :=
 Option.bind (α := Int) (
  lp (σ := Int × Int) (fun q4 (z1, j0) =>
   bif (decide (j0 < (((x0).FaultLoom).Design).Hooks)) then
    Option.bind (α := Int) (
     (shl64 z1 (1 : Int)).bind fun j2 =>
     (idx x2 (x1).Pick).bind fun u4 =>
     (shr64 u4 j0).bind fun j1 =>
     some ((bit64 .or j2 (bit64 .and j1 (1 : Int))))
     ) fun n0 =>
    q4 (n0, (w64 (j0 + (1 : Int))))
   else
    some (z1)
   ) big ((0 : Int), (0 : Int))
  ) fun o0 =>
 (idx x2 (x1).Pick).bind fun _l5 =>
 some ((List.set x2 (Int.toNat (x1).Pick) o0))
theorem en99 : Enters Try.prog 99 := enters_of Try.func99 (by kernel_rfl) rfl
theorem wk99 {iI : Nat} {gI : Gh} {wI : World} {x0 : FaultFaultLoom} {x1 : FaultDamage} {x2 : List Int} {up0 : Value} (rp0 : RV gI.m wI x0 up0) {up1 : Value} (rp1 : RV gI.m wI x1 up1) {up2 : Value} (mp2 : OM iI gI wI 3 x2 up2) {up3 : Value} {r : (List Int)} (h : f99 x0 x1 x2 = some r) : FnM Try.prog 99 #[up0, up1, up2, up3] iI gI wI (fun g w v => v = .tuple #[] ∧ OM iI g w 3 r up2) := by
 unfold f99 at h
 refine fnM_of_E Try.func99 rfl (Nat.le_of_ble_eq_true rfl) fun g0 hm hfr => ?_
 have z3 := mp2
 replace mp2 := mp2.enter
 rw [← hm] at mp2
 replace hm : g0.m = gI.m := by rw [hm]
 have rp0 : RV g0.m wI x0 up0 := hm ▸ rp0
 have rp1 : RV g0.m wI x1 up1 := hm ▸ rp1
 show E _ 34 none _ _ _ _ _
 refine E_seq (E_region (EL_do .plain rfl (D_box (g := g0) rfl rp0 fun g1 w1 p1 hs q1 => ?_)))
 have hfr := hfr.ext hs
 have rp1 := rp1.ext hs
 have mp2 := mp2.ext hs
 refine EL_do .plain rfl (D_box (g := g1) rfl rp1 fun g2 w2 p2 hs q2 => ?_)
 have hfr := hfr.ext hs
 have mp2 := mp2.ext hs
 have q1 := q1.ext hs
 refine EL_nil (thn_n (E_seq (E_region (EL_at (.int .i64 (0)) rfl rfl ?_))))
 refine EL_nil (thn_n ?_)
 obtain ⟨o0, hx, h⟩ := bsome h
 refine E_join (fun e w => ∃ (g : Gh) , FrM iI gI wI g w ∧ e 2 = up2 ∧ OM 1 g w 3 (x2 : List Int) up2 ∧ e 5 = p2 ∧ PT g.m w (x1 : FaultDamage) p2 ∧ e 8 = .int .i64 (o0)) (fun Q' hQ => ?_) (fun y5 b6 hR => ?_)
 ·replace h := hx
  clear hx
  refine E_seq (E_region (EL_pur (v := fPtr p1 0) (P_fieldAddr at_98_0 rfl (PT.ptr q1)) .plain rfl ?_))
  have x4 := PT_field (part_FaultFaultLoom_0).1 q1
  refine EL_pur (v := fPtr (fPtr p1 0) 2) (P_fieldAddr at_28_1 rfl (PT.ptr x4)) .plain rfl ?_
  have z4 := PT_field (part_FaultLoom_1).1 x4
  refine EL_pur (v := fPtr (fPtr (fPtr p1 0) 2) 0) (P_fieldAddr at_26_0 rfl (PT.ptr z4)) .plain rfl ?_
  have m5 := PT_field (part_Design_0).1 z4
  refine EL_do .plain rfl (D_load (g := g2) Try.isAgg3 Try.sizeOf3 rfl m5 fun c6 n5 => ?_)
  obtain rfl := RV_int.1 n5
  refine EL_mw (.int .i64 (0)) rfl rfl ?_
  refine EL_nil (thn_n (E_block ?_))
  refine E_lp h (fun (s : Int × Int) e w => ∃ (g : Gh) , FrM iI gI wI g w ∧ e 2 = up2 ∧ OM 1 g w 3 (x2 : List Int) up2 ∧ e 5 = p2 ∧ PT g.m w (x1 : FaultDamage) p2 ∧ e 8 = .int .i64 (s.1) ∧ e 13 = .int .i64 ((((x0).FaultLoom).Design).Hooks) ∧ e 14 = .int .i64 (s.2)) ⟨g2, hfr, rfl, mp2, rfl, q2, rfl, rfl, rfl⟩ (fun X27 q4 d5 => ?_)
  rintro ⟨z1, j0⟩ z5 d6 ⟨d3, hfr, d2, u0, i2, y0, i3, s2, i1⟩ h
  refine E_seq (E_region (EL_pur (v := .bool ((decide (j0 < (((x0).FaultLoom).Design).Hooks)))) (P_int i1 s2 rfl) .plain rfl ?_))
  refine EL_nil (thn_n (E_seq ?_))
  rcases csome h with ⟨z2, h⟩ | ⟨z2, h⟩
  ·refine E_ct z2 rfl ?_
   refine E_skip (thn_n ?_)
   obtain ⟨n0, hx, h⟩ := bsome h
   refine E_join (fun e w => ∃ (g : Gh) , FrM iI gI wI g w ∧ e 2 = up2 ∧ OM 1 g w 3 (x2 : List Int) up2 ∧ e 5 = p2 ∧ PT g.m w (x1 : FaultDamage) p2 ∧ e 8 = .int .i64 (n0) ∧ e 13 = .int .i64 ((((x0).FaultLoom).Design).Hooks) ∧ e 14 = .int .i64 (j0)) (fun Q' hQ => ?_) (fun a6 e6 hR => ?_)
   ·replace h := hx
    clear hx
    refine E_block ?_
    refine E_seq (E_region (EL_mv i1 rfl ?_))
    refine EL_at (.int .i64 (j0)) rfl rfl ?_
    refine EL_nil (thn_n (E_region (EL_mv i3 rfl ?_)))
    obtain ⟨j2, i5, h⟩ := bsome h
    refine EL_pur (v := .int .i64 (j2)) (P_shlu rfl rfl i5) .plain rfl ?_
    refine EL_mv d2 rfl ?_
    refine EL_pur (v := fPtr p2 1) (P_fieldAddr at_62_1 i2 (PT.ptr y0)) .plain rfl ?_
    have o5 := PT_field (part_FaultDamage_1).1 y0
    refine EL_do .plain rfl (D_load (g := d3) Try.isAgg3 Try.sizeOf3 rfl o5 fun i6 p5 => ?_)
    obtain rfl := RV_int.1 p5
    obtain ⟨u4, p3, h⟩ := bsome h
    refine EL_pur (v := ePtr up2 (x1).Pick 1) (P_indexAddrM (α := Int) Try.underlying22 Try.sizeOf3 rfl u0 rfl p3) .plain rfl ?_
    refine EL_do .plain rfl (D_loadM (g := d3) Try.isAgg3 Try.sizeOf3 rfl u0 p3 fun j6 q5 => ?_)
    obtain rfl := RV_int.1 q5
    refine EL_mw (.int .i64 (j0)) rfl rfl ?_
    obtain ⟨j1, j5, h⟩ := bsome h
    refine EL_pur (v := .int .i64 (j1)) (P_int rfl rfl (congrArg (Option.map (Value.int .i64)) j5)) .plain rfl ?_
    refine EL_in (.int .i64 ((bit64 .and j1 (1 : Int)))) rfl rfl rfl rfl ?_
    refine EL_in (.int .i64 ((bit64 .or j2 (bit64 .and j1 (1 : Int))))) rfl rfl rfl rfl ?_
    refine EL_at (.int .i64 ((bit64 .or j2 (bit64 .and j1 (1 : Int))))) rfl rfl ?_
    refine EL_nil (blk_n ?_)
    obtain rfl := sinj h
    exact hQ _ _ ⟨d3, hfr, d2, u0, i2, y0, rfl, s2, i1⟩
   ·clear hx
    obtain ⟨t5, hfr, c4, d4, i4, j4, m4, q3, s3⟩ := hR
    refine E_region (EL_in (.int .i64 ((w64 (j0 + (1 : Int))))) s3 rfl rfl rfl ?_)
    refine EL_mw (.int .i64 ((w64 (j0 + (1 : Int))))) rfl rfl ?_
    exact EL_nil (thn_n (d5 (n0, (w64 (j0 + (1 : Int)))) _ _ ⟨t5, hfr, c4, d4, i4, j4, m4, q3, rfl⟩ h))
  ·refine E_cf z2 rfl ?_
   refine E_exit ?_
   refine thn_e ?_
   refine thn_e ?_
   refine blk_hit ?_
   obtain rfl := sinj h
   exact hQ _ _ ⟨d3, hfr, d2, u0, i2, y0, i3⟩
 ·clear hx
  obtain ⟨c5, hfr, n4, j3, o4, o3, p4⟩ := hR
  refine E_region (EL_mv n4 rfl ?_)
  refine EL_pur (v := fPtr p2 1) (P_fieldAddr at_62_1 o4 (PT.ptr o3)) .plain rfl ?_
  have u5 := PT_field (part_FaultDamage_1).1 o3
  refine EL_do .plain rfl (D_load (g := c5) Try.isAgg3 Try.sizeOf3 rfl u5 fun k6 x5 => ?_)
  obtain rfl := RV_int.1 x5
  refine EL_mv p4 rfl ?_
  obtain ⟨l5, u3, h⟩ := bsome h
  refine EL_pur (v := ePtr up2 (x1).Pick 1) (P_indexAddrM (α := Int) Try.underlying22 Try.sizeOf3 rfl j3 rfl u3) .plain rfl ?_
  refine EL_do .plain rfl (D_storeM (g := c5) (α := Int) (a' := o0) Try.sizeOf3 rfl j3 u3 rfl (RV_int.2 rfl) fun l6 m6 hs b47 => ?_)
  have hfr := hfr.stp hs
  refine EL_nil ?_
  obtain rfl := sinj h
  exact end0n rfl rfl ⟨_, hfr, rfl, z3.back b47⟩
/-- griffe/fault.changes$4 -/
def f100 (_x0 : FaultFaultLoom) (x1 : FaultDamage) (x2 : List Int) : Option ((List Int)) :=
 (rem64 (w64 ((x1).Pick + (1 : Int))) ((x2).length : Int)).bind fun y5 =>
 (idx x2 (x1).Pick).bind fun y8 =>
 (idx x2 y5).bind fun j0 =>
 (idx x2 (x1).Pick).bind fun _d2 =>
 (idx ((List.set x2 (Int.toNat (x1).Pick) j0)) y5).bind fun _i2 =>
 some ((List.set ((List.set x2 (Int.toNat (x1).Pick) j0)) (Int.toNat y5) y8))
theorem en100 : Enters Try.prog 100 := enters_of Try.func100 (by kernel_rfl) rfl
theorem wk100 {iI : Nat} {gI : Gh} {wI : World} {x0 : FaultFaultLoom} {x1 : FaultDamage} {x2 : List Int} {up0 : Value} (rp0 : RV gI.m wI x0 up0) {up1 : Value} (rp1 : RV gI.m wI x1 up1) {up2 : Value} (mp2 : OM iI gI wI 3 x2 up2) {up3 : Value} {r : (List Int)} (h : f100 x0 x1 x2 = some r) : FnM Try.prog 100 #[up0, up1, up2, up3] iI gI wI (fun g w v => v = .tuple #[] ∧ OM iI g w 3 r up2) := by
 unfold f100 at h
 refine fnM_of_E Try.func100 rfl (Nat.le_of_ble_eq_true rfl) fun g0 hm hfr => ?_
 have y0 := mp2
 replace mp2 := mp2.enter
 rw [← hm] at mp2
 replace hm : g0.m = gI.m := by rw [hm]
 have rp0 : RV g0.m wI x0 up0 := hm ▸ rp0
 have rp1 : RV g0.m wI x1 up1 := hm ▸ rp1
 show E _ 35 none _ _ _ _ _
 refine E_seq (E_region (EL_do .plain rfl (D_box (g := g0) rfl rp0 fun g1 w1 p1 hs q1 => ?_)))
 have hfr := hfr.ext hs
 have rp1 := rp1.ext hs
 have mp2 := mp2.ext hs
 refine EL_do .plain rfl (D_box (g := g1) rfl rp1 fun g2 w2 p2 hs q2 => ?_)
 have hfr := hfr.ext hs
 have mp2 := mp2.ext hs
 refine EL_nil (thn_n (E_seq (E_region (EL_pur (v := fPtr p2 1) (P_fieldAddr at_62_1 rfl (PT.ptr q2)) .plain rfl ?_))))
 have q3 := PT_field (part_FaultDamage_1).1 q2
 refine EL_do .plain rfl (D_load (g := g2) Try.isAgg3 Try.sizeOf3 rfl q3 fun v4 r4 => ?_)
 obtain rfl := RV_int.1 r4
 refine EL_in (.int .i64 ((w64 ((x1).Pick + (1 : Int))))) rfl rfl rfl rfl ?_
 refine EL_mw up2 rfl rfl ?_
 refine EL_pur (v := .int .i64 ((x2).length : Int)) (P_lenM Try.underlying22 rfl mp2) .plain rfl ?_
 obtain ⟨y5, j2, h⟩ := bsome h
 refine EL_pur (v := .int .i64 (y5)) (P_int rfl rfl (congrArg (Option.map (Value.int .i64)) j2)) .plain rfl ?_
 refine EL_at (.int .i64 (y5)) rfl rfl ?_
 refine EL_nil (thn_n (E_seq ?_))
 have q6 := PT_field (part_FaultDamage_1).1 q2
 refine L_load (x := .tmp 18) Try.isAgg3 Try.sizeOf3 q6 fun v7 r7 s2 => ?_
 obtain rfl := RV_int.1 r7
 obtain ⟨y8, i1, h⟩ := bsome h
 refine L_loadM (x := .tmp 20) Try.isAgg3 Try.sizeOf3 mp2 i1 fun v9 r9 z2 => ?_
 obtain rfl := RV_int.1 r9
 obtain ⟨j0, n0, h⟩ := bsome h
 refine L_loadM (x := .tmp 24) Try.isAgg3 Try.sizeOf3 mp2 n0 fun p3 d3 z1 => ?_
 obtain rfl := RV_int.1 d3
 refine E_drawL (g := g2) (n := 11) [] [0, 1, 2, 3, 4, 5, 6, 7, 8, 9, 10] rfl mixed (by kernel_rfl) trivial ?_
 refine L_pur (c := up2) rfl rfl .plain (fun _ _ hd => P_move rfl) ?_
 refine L_pur (c := fPtr p2 1) rfl rfl .plain (fun _ _ hd => P_fieldAddr at_62_1 rfl (PT.ptr q2)) ?_
 refine L_ld (c := .int .i64 ((x1).Pick)) rfl rfl .plain (fun _ _ h => h.ch) s2 rfl ?_
 refine L_pur (c := ePtr up2 (x1).Pick 1) rfl rfl .plain (fun _ _ hd => P_indexAddrM (α := Int) Try.underlying22 Try.sizeOf3 rfl mp2 rfl i1) ?_
 refine L_ld (c := .int .i64 (y8)) rfl rfl .plain (fun _ _ h => ⟨h.ch, fun b hb _ => h.below.block b hb⟩) z2 rfl ?_
 refine L_pur (c := up2) rfl rfl .plain (fun _ _ hd => P_move rfl) ?_
 refine L_pur (c := .int .i64 (y5)) rfl rfl .plain (fun _ _ hd => P_move rfl) ?_
 refine L_pur (c := ePtr up2 y5 1) rfl rfl .plain (fun _ _ hd => P_indexAddrM (α := Int) Try.underlying22 Try.sizeOf3 rfl mp2 rfl n0) ?_
 refine L_ld (c := .int .i64 (j0)) rfl rfl .plain (fun _ _ h => ⟨h.ch, fun b hb _ => h.below.block b hb⟩) z1 rfl ?_
 refine L_pur (c := .int .i64 (y8)) rfl rfl .plain (fun _ _ hd => P_assign rfl) ?_
 refine L_pur (c := .int .i64 (j0)) rfl rfl .plain (fun _ _ hd => P_assign rfl) ?_
 refine L_nil fun j1 s3 hall => ?_
 have hs := hall.1
 have hfr := hfr.ext hs
 have mp2 := mp2.ext hs
 have q2 := q2.ext hs
 clear hs hall
 refine EL_nil (thn_n (E_seq (E_region (EL_mw up2 rfl rfl ?_))))
 refine EL_pur (v := fPtr p2 1) (P_fieldAddr at_62_1 rfl (PT.ptr q2)) .plain rfl ?_
 have i3 := PT_field (part_FaultDamage_1).1 q2
 refine EL_do .plain rfl (D_load (g := j1) Try.isAgg3 Try.sizeOf3 rfl i3 fun u3 j3 => ?_)
 obtain rfl := RV_int.1 j3
 refine EL_mw (.int .i64 (j0)) rfl rfl ?_
 obtain ⟨d2, o0, h⟩ := bsome h
 refine EL_pur (v := ePtr up2 (x1).Pick 1) (P_indexAddrM (α := Int) Try.underlying22 Try.sizeOf3 rfl mp2 rfl o0) .plain rfl ?_
 refine EL_do .plain rfl (D_storeM (g := j1) (α := Int) (a' := j0) Try.sizeOf3 rfl mp2 o0 rfl (RV_int.2 rfl) fun o3 z3 hs b40 => ?_)
 have hfr := hfr.stp hs
 refine EL_nil (thn_n (E_region (EL_mw up2 rfl rfl ?_)))
 refine EL_mw (.int .i64 (y5)) rfl rfl ?_
 refine EL_mw (.int .i64 (y8)) rfl rfl ?_
 obtain ⟨i2, u0, h⟩ := bsome h
 refine EL_pur (v := ePtr up2 y5 1) (P_indexAddrM (α := Int) Try.underlying22 Try.sizeOf3 rfl b40 rfl u0) .plain rfl ?_
 refine EL_do .plain rfl (D_storeM (g := o3) (α := Int) (a' := y8) Try.sizeOf3 rfl b40 u0 rfl (RV_int.2 rfl) fun c4 d4 hs b42 => ?_)
 have hfr := hfr.stp hs
 refine EL_nil ?_
 obtain rfl := sinj h
 exact end0n rfl rfl ⟨_, hfr, rfl, y0.back b42⟩
/-- griffe/fault.changes$5 -/
def f101 (_x0 : FaultFaultLoom) (x1 : FaultDamage) (x3 : List (Int × Bool)) : Option ((List (Int × Bool))) :=
 some ((mset x3 ((x1).Warp) true))
theorem en101 : Enters Try.prog 101 := enters_of Try.func101 (by kernel_rfl) rfl
theorem wk101 {iI : Nat} {gI : Gh} {wI : World} {x0 : FaultFaultLoom} {x1 : FaultDamage} {x3 : List (Int × Bool)} {up0 : Value} (rp0 : RV gI.m wI x0 up0) {up1 : Value} (rp1 : RV gI.m wI x1 up1) {up2 : Value} {up3 : Value} (mp3 : MP (Value.int .i64) iI gI wI x3 up3) {r : (List (Int × Bool))} (h : f101 x0 x1 x3 = some r) : FnM Try.prog 101 #[up0, up1, up2, up3] iI gI wI (fun g w v => v = .tuple #[] ∧ MP (Value.int .i64) iI g w r up3) := by
 unfold f101 at h
 refine fnM_of_E Try.func101 rfl (Nat.le_of_ble_eq_true rfl) fun g0 hm hfr => ?_
 have j0 := mp3
 replace mp3 := mp3.enter
 rw [← hm] at mp3
 replace hm : g0.m = gI.m := by rw [hm]
 have rp0 : RV g0.m wI x0 up0 := hm ▸ rp0
 have rp1 : RV g0.m wI x1 up1 := hm ▸ rp1
 show E _ 11 none _ _ _ _ _
 refine E_seq (E_region (EL_do .plain rfl (D_box (g := g0) rfl rp0 fun g1 w1 p1 hs q1 => ?_)))
 have hfr := hfr.ext hs
 have rp1 := rp1.ext hs
 have mp3 := mp3.ext hs
 refine EL_do .plain rfl (D_box (g := g1) rfl rp1 fun g2 w2 p2 hs q2 => ?_)
 have hfr := hfr.ext hs
 have mp3 := mp3.ext hs
 refine EL_nil (thn_n (E_region (EL_mw up3 rfl rfl ?_)))
 refine EL_pur (v := fPtr p2 3) (P_fieldAddr at_62_3 rfl (PT.ptr q2)) .plain rfl ?_
 have q3 := PT_field (part_FaultDamage_3).1 q2
 refine EL_do .plain rfl (D_load (g := g2) Try.isAgg3 Try.sizeOf3 rfl q3 fun v4 r4 => ?_)
 obtain rfl := RV_int.1 r4
 refine EL_do .plain rfl (D_mapUpdate (g := g2) Try.underlying126 key_3 rfl mp3 rfl rfl (RV_bool.2 rfl) fun g5 w5 hs m5 => ?_)
 have hfr := hfr.stp hs
 refine EL_nil ?_
 obtain rfl := sinj h
 exact end0n rfl rfl ⟨_, hfr, rfl, j0.back m5⟩
def fvF (f : Nat) : Fv := ⟨.func (.func f) #[] #[], rfl⟩
def fv0 : Fv := ⟨.nilFunc, rfl⟩
def chgM : List (Int × Fv) := [(1, fvF 97), (2, fvF 98), (3, fvF 99), (4, fvF 100), (5, fvF 101)]
def fchg (k : Int) (l : FaultFaultLoom) (d : FaultDamage) (rows : List Int) (br : List (Int × Bool)) : Option (List Int × List (Int × Bool)) :=
 if k = 1 then (f97 l d rows).map (fun r => (r, br)) else if k = 2 then (f98 l d rows).map (fun r => (r, br)) else if k = 3 then (f99 l d rows).map (fun r => (r, br)) else if k = 4 then (f100 l d rows).map (fun r => (r, br))
 else if k = 5 then (f101 l d br).map (fun b => (rows, b)) else none
theorem en81 : Enters Try.prog 81 := enters_of Try.func81 (by kernel_rfl) rfl
theorem key_60 : KeyLaw Try.prog 60 (Value.int .i64) := keyLaw_int Try.underlying60
theorem wk81 {i : Nat} {gI : Gh} {wI : World} : FnG Try.prog 81 #[] gI wI (fun g w v => MP (Value.int .i64) i g w chgM v) := by
 refine fnG_of_E Try.func81 rfl (Nat.le_of_ble_eq_true rfl) fun g0 hm hfr => ?_
 show E _ 3 none _ _ _ _ _
 refine E_seq (E_region (EL_at (.map none) rfl rfl (EL_nil (thn_n ?_))))
 refine E_seq (E_region (EL_do .plain rfl (D_makeMap (g := g0) (Value.int .i64) Fv 5 fun g1 w1 v1 hs1 m1 => ?_)))
 refine EL_do .plain rfl (D_insert (v := fvF 97) Try.underlying130 key_60 rfl m1 rfl rfl (RV_fv.2 rfl) fun g2 w2 hs2 m2 => ?_)
 refine EL_do .plain rfl (D_insert (v := fvF 98) Try.underlying130 key_60 rfl m2 rfl rfl (RV_fv.2 rfl) fun g3 w3 hs3 m3 => ?_)
 refine EL_do .plain rfl (D_insert (v := fvF 99) Try.underlying130 key_60 rfl m3 rfl rfl (RV_fv.2 rfl) fun g4 w4 hs4 m4 => ?_)
 refine EL_do .plain rfl (D_insert (v := fvF 100) Try.underlying130 key_60 rfl m4 rfl rfl (RV_fv.2 rfl) fun g5 w5 hs5 m5 => ?_)
 refine EL_do .plain rfl (D_insert (v := fvF 101) Try.underlying130 key_60 rfl m5 rfl rfl (RV_fv.2 rfl) fun g6 w6 hs6 m6 => ?_)
 refine EL_mw v1 rfl rfl ?_
 refine EL_at v1 rfl rfl (EL_nil (thn_n ?_))
 have hfr := (((((hfr.stp hs1).stp hs2).stp hs3).stp hs4).stp hs5).stp hs6
 obtain ⟨g', hx, hmp⟩ := MP.hand (i := i) hfr m6
 exact E_ret (end1 rfl rfl (show _ = v1 from rfl) ⟨g', hx, hmp⟩)
theorem D_chg {e : Env} {g : Gh} {w : World} {K : Value → World → Prop} {c x1 x2 x3 x4 : Operand} {ats : Array TypeId} {k : Int} {l : FaultFaultLoom} {d : FaultDamage} {rows rows' : List Int} {br br' : List (Int × Bool)} {i j : Nat} {lv dv rv bv : Value}
  (hf : fchg k l d rows br = some (rows', br')) (hc : ev e c = ((mget chgM k).getD fv0).v) (h1 : ev e x1 = lv) (h2 : ev e x2 = dv) (h3 : ev e x3 = rv) (h4 : ev e x4 = bv) (r1 : RV g.m w l lv) (r2 : RV g.m w d dv) (hom : OM i g w 3 rows rv) (hmp : MP (Value.int .i64) j g w br bv) (hij : Nat.beq i j = false) (hji : Nat.beq j i = false)
  (h : ∀ g1 w1 g' w' v, Stp i g w g1 w1 → Stp j g1 w1 g' w' → OM i g' w' 3 rows' rv → MP (Value.int .i64) j g' w' br' bv → K v w') : Doe Try.prog (.call { callee := .value c, args := #[x1, x2, x3, x4], argTypes := ats }) e w K := by
 unfold fchg at hf
 have ha : Args e [x1, x2, x3, x4] [lv, dv, rv, bv] := .cons h1 (.cons h2 (.cons h3 (.cons h4 .nil)))
 have one : ∀ (f : Nat) (fF : FaultFaultLoom → FaultDamage → List Int → Option (List Int)), ev e c = .func (.func f) #[] #[] → Enters Try.prog f → (fF l d rows).map (fun r => (r, br)) = some (rows', br') →
   (∀ r, fF l d rows = some r → FnM Try.prog f #[lv, dv, rv, bv] i g w (fun g w v => v = .tuple #[] ∧ OM i g w 3 r rv)) → Doe Try.prog (.call { callee := .value c, args := #[x1, x2, x3, x4], argTypes := ats }) e w K := by
  intro f fF hcf hen hmap hw
  obtain ⟨r, hr, he⟩ := Option.map_eq_some_iff.1 hmap
  obtain ⟨rfl, rfl⟩ : r = rows' ∧ br = br' := by simpa using he
  exact D_callMv (g := g) (i := i) hcf hen ha (hw r hr) fun g' w' v hs hR => h g' w' g' w' v hs (stp_refl _ _ _) hR.2 (hmp.stp hs hji)
 split at hf
 ·rename_i hk; subst hk; exact one 97 f97 hc en97 hf fun r hr => wk97 r1 r2 hom hr
 split at hf
 ·rename_i hk; subst hk; exact one 98 f98 hc en98 hf fun r hr => wk98 r1 r2 hom hr
 split at hf
 ·rename_i hk; subst hk; exact one 99 f99 hc en99 hf fun r hr => wk99 r1 r2 hom hr
 split at hf
 ·rename_i hk; subst hk; exact one 100 f100 hc en100 hf fun r hr => wk100 r1 r2 hom hr
 split at hf
 ·rename_i hk; subst hk
  obtain ⟨r, hr, he⟩ := Option.map_eq_some_iff.1 hf
  obtain ⟨rfl, rfl⟩ : rows = rows' ∧ r = br' := by simpa using he
  exact D_callMv (g := g) (i := j) (f := 101) hc en101 ha (wk101 r1 r2 hmp hr) fun g' w' v hs hR => h g w g' w' v (stp_refl _ _ _) hs (hom.stp hs hij) hR.2
 ·cases hf
/-- griffe/grifferef01.Points -/
def f103 (x0 : Int) (x1 : Int) : Option ((List Bool)) :=
 Option.bind (α := (List Bool)) (
  lp (σ := Int × (List Bool) × Int) (fun k19 (u0, n0, j0) =>
   jn (σ := Unit) (fun (_ : Unit) =>
    Option.bind (α := Int × (List Bool)) (
     (rem64 u0 (2 : Int)).bind fun z1 =>
     (apnd 1 n0 (([(z1 == (1 : Int))] : List Bool))).bind fun u4 =>
     (quo64 u0 (2 : Int)).bind fun q2 =>
     some (q2, u4)
     ) fun (y0, o0) =>
    k19 (y0, o0, (w64 (j0 + (1 : Int))))
    ) fun x4 =>
   bif (decide (j0 < x1)) then
    x4 ()
   else
    some (n0)
   ) big (x0, ([] : List Bool), (0 : Int))
  ) fun i1 =>
 some (i1)
theorem en103 : Enters Try.prog 103 := enters_of Try.func103 (by kernel_rfl) rfl
/-- slices.IndexFunc[[]int,int] -/
def f104 (x0 : List Int) (x1 : Int → Option Bool) : Option (Int) :=
 jn (σ := Unit) (fun (_ : Unit) =>
  some ((-1 : Int))
  ) fun k18 =>
 lp (σ := Int) (fun k19 j0 =>
  bif (decide (j0 < ((x0).length : Int))) then
   jn (σ := Unit) (fun (_ : Unit) =>
    k19 ((w64 (j0 + (1 : Int))))
    ) fun k28 =>
   (idx x0 j0).bind fun d2 =>
   (x1 d2).bind fun j3 =>
   bif j3 then
    some (j0)
   else
    k28 ()
  else
   k18 ()
  ) big ((0 : Int))
theorem en104 : Enters Try.prog 104 := enters_of Try.func104 (by kernel_rfl) rfl
theorem wk104 {gI : Gh} {wI : World} {x0 : List Int} {x1 : Int → Option Bool} {up0 : Value} (rp0 : RV gI.m wI x0 up0) {up1 : Value} (rp1 : FnV1 Try.prog x1 up1 gI wI) {r : Int} (h : f104 x0 x1 = some r) : Fn Try.prog 104 #[up0, up1] gI wI (fun _ _ v => v = .int .i64 (r)) := by
 unfold f104 at h
 refine fn_of_E Try.func104 rfl (Nat.le_of_ble_eq_true rfl) fun g0 hm hfr => ?_
 have rp0 : RV g0.m wI x0 up0 := hm ▸ rp0
 obtain ⟨ff1, fa1, fc1, rfl, fen1, fcl1⟩ := rp1
 show E _ 19 none _ _ _ _ _
 refine E_seq (E_region (EL_at (.int .i64 (0)) rfl rfl ?_))
 refine EL_nil (thn_n (E_joinC h (fun (s : Unit) e w => ∃ (g : Gh) , Fr gI wI g w) (fun X18 k18 o3 h => ?_) ?_))
 ·refine E_seq (E_region (EL_mw up0 rfl rfl ?_))
  refine EL_pur (v := .int .i64 ((x0).length : Int)) (P_len Try.underlying22 rfl rp0) .plain rfl ?_
  refine EL_mw (.int .i64 (0)) rfl rfl ?_
  refine EL_nil (thn_n (E_block ?_))
  refine E_lp h (fun (s : Int) e w => ∃ (g : Gh) , Fr gI wI g w ∧ e 0 = up0 ∧ RV g.m w (x0 : List Int) up0 ∧ e 1 = (.func (.func ff1) fa1 fc1) ∧ e 7 = .int .i64 (((x0).length : Int)) ∧ e 8 = .int .i64 (s)) ⟨g0, hfr, rfl, rp0, rfl, rfl, rfl⟩ (fun X19 k19 p3 => ?_)
  rintro j0 i4 n4 ⟨i2, hfr, i1, n0, j1, z1, o0⟩ h
  refine E_seq (E_region (EL_in (.bool ((decide (j0 < ((x0).length : Int))))) o0 z1 rfl rfl ?_))
  refine EL_nil (thn_n (E_seq ?_))
  rcases csome h with ⟨u0, h⟩ | ⟨u0, h⟩
  ·refine E_ct u0 rfl ?_
   refine E_skip (thn_n (E_joinC h (fun (s : Unit) e w => ∃ (g : Gh) , Fr gI wI g w ∧ e 0 = up0 ∧ RV g.m w (x0 : List Int) up0 ∧ e 1 = (.func (.func ff1) fa1 fc1) ∧ e 7 = .int .i64 (((x0).length : Int)) ∧ e 8 = .int .i64 (j0)) (fun X28 k28 q3 h => ?_) ?_))
   ·refine E_block ?_
    refine E_seq (E_region (EL_mv o0 rfl ?_))
    refine EL_at (.int .i64 (j0)) rfl rfl ?_
    refine EL_nil (thn_n (E_seq (E_region (EL_mv j1 rfl ?_))))
    refine EL_mv i1 rfl ?_
    refine EL_mw (.int .i64 (j0)) rfl rfl ?_
    obtain ⟨d2, j2, h⟩ := bsome h
    refine EL_pur (v := ePtr up0 j0 1) (P_indexAddr (α := Int) Try.underlying22 Try.sizeOf3 rfl n0 rfl j2) .plain rfl ?_
    have u3 := PT_idx n0 j2
    refine EL_do .plain rfl (D_load (g := i2) Try.isAgg3 Try.sizeOf3 rfl u3 fun o4 z3 => ?_)
    obtain rfl := RV_int.1 z3
    obtain ⟨j3, s3, h⟩ := bsome h
    refine EL_do .plain rfl (D_callv (g := i2) (vs := [.int .i64 (d2)]) rfl fen1 (.cons rfl .nil) (fcl1 _ _ hfr.ch _ _ _  (RV_int.2 rfl) s3) fun c4 p4 q4 hs hr => ?_)
    have hfr := hfr.ext hs
    have n0 := n0.ext hs
    obtain rfl := RV_bool.1 hr
    refine EL_nil (thn_n ?_)
    rcases csome h with ⟨y0, h⟩ | ⟨y0, h⟩
    ·refine E_ct y0 rfl ?_
     refine E_seq (E_region (EL_mw (.int .i64 (j0)) rfl rfl ?_))
     refine EL_at (.int .i64 (j0)) rfl rfl ?_
     refine EL_nil (thn_n (E_ret (blk_r ?_)))
     refine thn_r ?_
     refine thn_r ?_
     refine blk_r ?_
     refine thn_r ?_
     obtain rfl := sinj h
     exact end1 rfl rfl (show _ = .int .i64 (j0) from rfl) ⟨_, hfr, rfl⟩
    ·refine E_cf y0 rfl ?_
     exact E_skip (blk_n (thn_n (q3 () _ _ ⟨c4, hfr, i1, n0, j1, z1, o0⟩ h)))
   ·rintro _ j4 u4 ⟨d4, hfr, q2, s2, z2, d3, i3⟩ h
    refine E_region (EL_in (.int .i64 ((w64 (j0 + (1 : Int))))) i3 rfl rfl rfl ?_)
    refine EL_mw (.int .i64 ((w64 (j0 + (1 : Int))))) rfl rfl ?_
    exact EL_nil (thn_n (p3 ((w64 (j0 + (1 : Int)))) _ _ ⟨d4, hfr, q2, s2, z2, d3, rfl⟩ h))
  ·refine E_cf u0 rfl ?_
   refine E_exit ?_
   refine thn_e ?_
   refine thn_e ?_
   refine blk_hit ?_
   exact thn_n (o3 () _ _ ⟨i2, hfr⟩ h)
 ·rintro _ m4 x4 ⟨z4, hfr⟩ h
  refine E_seq (E_region (EL_at (.int .i64 (-1)) rfl rfl ?_))
  refine EL_nil (thn_n (E_ret ?_))
  obtain rfl := sinj h
  exact end1 rfl rfl (show _ = .int .i64 (-1) from rfl) ⟨_, hfr, rfl⟩
/-- griffe/tie.within$1 -/
def f105 (x0 : Int) (z0 : Int) (z1 : Int) : Option (Bool) :=
 Option.bind (α := Bool) (
  bif (decide (x0 < z0)) then
   some (true)
  else
   some ((decide (x0 > z1)))
  ) fun j0 =>
 some (j0)
theorem en105 : Enters Try.prog 105 := enters_of Try.func105 (by kernel_rfl) rfl
theorem wk105 {gI : Gh} {wI : World} {x0 : Int} {z0 : Int} {z1 : Int} {pf0 : Value} (qf0 : PT gI.m wI z0 pf0) {pf1 : Value} (qf1 : PT gI.m wI z1 pf1) {r : Bool} (h : f105 x0 z0 z1 = some r) : Fn Try.prog 105 #[.int .i64 (x0), pf0, pf1] gI wI (fun _ _ v => v = .bool (r)) := by
 unfold f105 at h
 refine fn_of_E Try.func105 rfl (Nat.le_of_ble_eq_true rfl) fun g0 hm hfr => ?_
 have qf0 : PT g0.m wI z0 pf0 := hm ▸ qf0
 have qf1 : PT g0.m wI z1 pf1 := hm ▸ qf1
 show E _ 13 none _ _ _ _ _
 refine E_seq (E_region (EL_at (.bool false) rfl rfl ?_))
 refine EL_nil (thn_n ?_)
 obtain ⟨j0, hx, h⟩ := bsome h
 refine E_join (fun e w => ∃ (g : Gh) , Fr gI wI g w ∧ e 4 = .bool (j0)) (fun Q' hQ => ?_) (fun o0 w7 hR => ?_)
 ·replace h := hx
  clear hx
  refine E_region (EL_mw (.int .i64 (x0)) rfl rfl ?_)
  refine EL_do .plain rfl (D_load (g := g0) Try.isAgg3 Try.sizeOf3 rfl qf0 fun v4 r4 => ?_)
  obtain rfl := RV_int.1 r4
  refine EL_in (.bool ((decide (x0 < z0)))) rfl rfl rfl rfl ?_
  refine EL_mw (.bool ((decide (x0 < z0)))) rfl rfl ?_
  rcases csome h with ⟨hc5, h⟩ | ⟨hc5, h⟩
  ·refine EL_skip (.no2 rfl rfl hc5 rfl) rfl ?_
   refine EL_skip (.no2 rfl rfl hc5 rfl) rfl ?_
   refine EL_skip (.no2 rfl rfl hc5 rfl) rfl ?_
   refine EL_pur (v := .bool true) (P_pick (b := (decide (x0 < z0))) rfl (pick_t hc5 rfl)) .plain rfl ?_
   refine EL_at (.bool true) rfl rfl ?_
   refine EL_nil ?_
   obtain rfl := sinj h
   exact hQ _ _ ⟨g0, hfr, rfl⟩
  ·refine EL_pur (v := .int .i64 (x0)) (P_move rfl) (.yes2 rfl rfl hc5) rfl ?_
   refine EL_do (.yes2 rfl rfl hc5) rfl (D_load (g := g0) Try.isAgg3 Try.sizeOf3 rfl qf1 fun v6 r6 => ?_)
   obtain rfl := RV_int.1 r6
   refine EL_pur (v := .bool ((decide (x0 > z1)))) (P_int rfl rfl rfl) (.yes2 rfl rfl hc5) rfl ?_
   refine EL_pur (v := .bool ((decide (x0 > z1)))) (P_pick (b := (decide (x0 < z0))) rfl (pick_f hc5 rfl)) .plain rfl ?_
   refine EL_at (.bool ((decide (x0 > z1)))) rfl rfl ?_
   refine EL_nil ?_
   obtain rfl := sinj h
   exact hQ _ _ ⟨g0, hfr, rfl⟩
 ·clear hx
  obtain ⟨g7, hfr, n0⟩ := hR
  refine E_ret ?_
  obtain rfl := sinj h
  exact end1 rfl rfl (show _ = .bool (j0) from n0) ⟨_, hfr, rfl⟩
/-- griffe/point.within$1 -/
def f106 (x0 : Int) (z0 : Int) (z1 : Int) : Option (Bool) :=
 Option.bind (α := Bool) (
  bif (decide (x0 < z0)) then
   some (true)
  else
   some ((decide (x0 > z1)))
  ) fun j0 =>
 some (j0)
theorem en106 : Enters Try.prog 106 := enters_of Try.func106 (by kernel_rfl) rfl
theorem wk106 {gI : Gh} {wI : World} {x0 : Int} {z0 : Int} {z1 : Int} {pf0 : Value} (qf0 : PT gI.m wI z0 pf0) {pf1 : Value} (qf1 : PT gI.m wI z1 pf1) {r : Bool} (h : f106 x0 z0 z1 = some r) : Fn Try.prog 106 #[.int .i64 (x0), pf0, pf1] gI wI (fun _ _ v => v = .bool (r)) := by
 unfold f106 at h
 refine fn_of_E Try.func106 rfl (Nat.le_of_ble_eq_true rfl) fun g0 hm hfr => ?_
 have qf0 : PT g0.m wI z0 pf0 := hm ▸ qf0
 have qf1 : PT g0.m wI z1 pf1 := hm ▸ qf1
 show E _ 13 none _ _ _ _ _
 refine E_seq (E_region (EL_at (.bool false) rfl rfl ?_))
 refine EL_nil (thn_n ?_)
 obtain ⟨j0, hx, h⟩ := bsome h
 refine E_join (fun e w => ∃ (g : Gh) , Fr gI wI g w ∧ e 4 = .bool (j0)) (fun Q' hQ => ?_) (fun o0 w7 hR => ?_)
 ·replace h := hx
  clear hx
  refine E_region (EL_mw (.int .i64 (x0)) rfl rfl ?_)
  refine EL_do .plain rfl (D_load (g := g0) Try.isAgg3 Try.sizeOf3 rfl qf0 fun v4 r4 => ?_)
  obtain rfl := RV_int.1 r4
  refine EL_in (.bool ((decide (x0 < z0)))) rfl rfl rfl rfl ?_
  refine EL_mw (.bool ((decide (x0 < z0)))) rfl rfl ?_
  rcases csome h with ⟨hc5, h⟩ | ⟨hc5, h⟩
  ·refine EL_skip (.no2 rfl rfl hc5 rfl) rfl ?_
   refine EL_skip (.no2 rfl rfl hc5 rfl) rfl ?_
   refine EL_skip (.no2 rfl rfl hc5 rfl) rfl ?_
   refine EL_pur (v := .bool true) (P_pick (b := (decide (x0 < z0))) rfl (pick_t hc5 rfl)) .plain rfl ?_
   refine EL_at (.bool true) rfl rfl ?_
   refine EL_nil ?_
   obtain rfl := sinj h
   exact hQ _ _ ⟨g0, hfr, rfl⟩
  ·refine EL_pur (v := .int .i64 (x0)) (P_move rfl) (.yes2 rfl rfl hc5) rfl ?_
   refine EL_do (.yes2 rfl rfl hc5) rfl (D_load (g := g0) Try.isAgg3 Try.sizeOf3 rfl qf1 fun v6 r6 => ?_)
   obtain rfl := RV_int.1 r6
   refine EL_pur (v := .bool ((decide (x0 > z1)))) (P_int rfl rfl rfl) (.yes2 rfl rfl hc5) rfl ?_
   refine EL_pur (v := .bool ((decide (x0 > z1)))) (P_pick (b := (decide (x0 < z0))) rfl (pick_f hc5 rfl)) .plain rfl ?_
   refine EL_at (.bool ((decide (x0 > z1)))) rfl rfl ?_
   refine EL_nil ?_
   obtain rfl := sinj h
   exact hQ _ _ ⟨g0, hfr, rfl⟩
 ·clear hx
  obtain ⟨g7, hfr, n0⟩ := hR
  refine E_ret ?_
  obtain rfl := sinj h
  exact end1 rfl rfl (show _ = .bool (j0) from n0) ⟨_, hfr, rfl⟩
/-- slices.insertionSortCmpFunc[griffe/api.FaultDamage] -/
def f107 (x0 : List FaultDamage) (x1 : Int) (x2 : Int) (x3 : FaultDamage → FaultDamage → Option Int) : Option ((List FaultDamage)) :=
 lp (σ := (List FaultDamage) × Int) (fun k1 (p3, y0) =>
  jn (σ := Unit) (fun (_ : Unit) =>
   Option.bind (α := (List FaultDamage)) (
    lp (σ := (List FaultDamage) × Int) (fun i5 (o0, j0) =>
     jn (σ := Unit) (fun (_ : Unit) =>
      Option.bind (α := (List FaultDamage)) (
       (idx o0 (w64 (j0 - (1 : Int)))).bind fun q3 =>
       (idx o0 j0).bind fun o4 =>
       (idx o0 j0).bind fun _e7 =>
       (idx ((List.set o0 (Int.toNat j0) q3)) (w64 (j0 - (1 : Int)))).bind fun _g7 =>
       some ((List.set ((List.set o0 (Int.toNat j0) q3)) (Int.toNat (w64 (j0 - (1 : Int)))) o4))
       ) fun j2 =>
      i5 (j2, (w64 (j0 - (1 : Int))))
      ) fun j5 =>
     Option.bind (α := Bool) (
      bif (decide (j0 > x1)) then
       (idx o0 j0).bind fun l5 =>
       (idx o0 (w64 (j0 - (1 : Int)))).bind fun m5 =>
       (x3 l5 m5).bind fun d3 =>
       some ((decide (d3 < (0 : Int))))
      else
       some (false)
      ) fun j1 =>
     bif j1 then
      j5 ()
     else
      some (o0)
     ) big (p3, y0)
    ) fun q2 =>
   k1 (q2, (w64 (y0 + (1 : Int))))
   ) fun k4 =>
  bif (decide (y0 < x2)) then
   k4 ()
  else
   some (p3)
  ) big (x0, (w64 (x1 + (1 : Int))))
theorem en107 : Enters Try.prog 107 := enters_of Try.func107 (by kernel_rfl) rfl
theorem wk107 {iI : Nat} {gI : Gh} {wI : World} {x0 : List FaultDamage} {x1 : Int} {x2 : Int} {x3 : FaultDamage → FaultDamage → Option Int} {up0 : Value} (mp0 : OM iI gI wI 62 x0 up0) {up3 : Value} (rp3 : FnV2 Try.prog x3 up3 gI wI) {r : (List FaultDamage)} (h : f107 x0 x1 x2 x3 = some r) : FnM Try.prog 107 #[up0, .int .i64 (x1), .int .i64 (x2), up3] iI gI wI (fun g w v => v = .tuple #[] ∧ OM iI g w 62 r up0) := by
 unfold f107 at h
 refine fnM_of_E Try.func107 rfl (Nat.le_of_ble_eq_true rfl) fun g0 hm hfr => ?_
 have v6 := mp0
 replace mp0 := mp0.enter
 rw [← hm] at mp0
 replace hm : g0.m = gI.m := by rw [hm]
 obtain ⟨ff3, fa3, fc3, rfl, fen3, fcl3⟩ := rp3
 show E _ 53 none _ _ _ _ _
 refine E_seq (E_region (EL_mw (.int .i64 (x1)) rfl rfl ?_))
 refine EL_in (.int .i64 ((w64 (x1 + (1 : Int))))) rfl rfl rfl rfl ?_
 refine EL_at (.int .i64 ((w64 (x1 + (1 : Int))))) rfl rfl ?_
 refine EL_nil (thn_n (E_block ?_))
 refine E_lp h (fun (s : (List FaultDamage) × Int) e w => ∃ (g : Gh) , FrM iI gI wI g w ∧ e 0 = up0 ∧ OM 1 g w 62 (s.1 : List FaultDamage) up0 ∧ e 1 = .int .i64 (x1) ∧ e 2 = .int .i64 (x2) ∧ e 3 = (.func (.func ff3) fa3 fc3) ∧ e 8 = .int .i64 (s.2)) ⟨g0, hfr, rfl, mp0, rfl, rfl, rfl, rfl⟩ (fun X1 k1 hk1 => ?_)
 rintro ⟨p3, y0⟩ a9 w2 ⟨g2, hfr, i7, n5, j7, o5, l7, p5⟩ h
 refine E_joinC h (fun (s : Unit) e w => ∃ (g : Gh) , FrM iI gI wI g w ∧ e 0 = up0 ∧ OM 1 g w 62 (p3 : List FaultDamage) up0 ∧ e 1 = .int .i64 (x1) ∧ e 2 = .int .i64 (x2) ∧ e 3 = (.func (.func ff3) fa3 fc3) ∧ e 8 = .int .i64 (y0)) (fun X4 k4 hk4 h => ?_) ?_
 ·refine E_seq (E_region (EL_mv p5 rfl ?_))
  refine EL_mv o5 rfl ?_
  refine EL_in (.bool ((decide (y0 < x2)))) rfl rfl rfl rfl ?_
  refine EL_nil (thn_n ?_)
  rcases csome h with ⟨hc5, h⟩ | ⟨hc5, h⟩
  ·refine E_ct hc5 rfl ?_
   exact E_skip (thn_n (hk4 () _ _ ⟨g2, hfr, i7, n5, j7, o5, l7, p5⟩ h))
  ·refine E_cf hc5 rfl ?_
   refine E_exit ?_
   refine thn_e ?_
   refine thn_e ?_
   refine blk_hit ?_
   obtain rfl := sinj h
   exact end0n rfl rfl ⟨_, hfr, rfl, v6.back n5⟩
 ·rintro _ b9 w6 ⟨g6, hfr, m7, n7, o7, p7, q7, q5⟩ h
  obtain ⟨q2, hx, h⟩ := bsome h
  refine E_join (fun e w => ∃ (g : Gh) , FrM iI gI wI g w ∧ e 0 = up0 ∧ OM 1 g w 62 (q2 : List FaultDamage) up0 ∧ e 1 = .int .i64 (x1) ∧ e 2 = .int .i64 (x2) ∧ e 3 = (.func (.func ff3) fa3 fc3) ∧ e 8 = .int .i64 (y0)) (fun Q' hQ => ?_) (fun g8 m8 hR => ?_)
  ·replace h := hx
   clear hx
   refine E_block ?_
   refine E_seq (E_region (EL_mv q5 rfl ?_))
   refine EL_at (.int .i64 (y0)) rfl rfl ?_
   refine EL_nil (thn_n (E_block ?_))
   refine E_lp h (fun (s : (List FaultDamage) × Int) e w => ∃ (g : Gh) , FrM iI gI wI g w ∧ e 0 = up0 ∧ OM 1 g w 62 (s.1 : List FaultDamage) up0 ∧ e 1 = .int .i64 (x1) ∧ e 2 = .int .i64 (x2) ∧ e 3 = (.func (.func ff3) fa3 fc3) ∧ e 8 = .int .i64 (y0) ∧ e 9 = .int .i64 (s.2)) ⟨g6, hfr, m7, n7, o7, p7, q7, q5, rfl⟩ (fun X296 i5 x6 => ?_)
   rintro ⟨o0, j0⟩ i8 n8 ⟨t5, hfr, s2, u0, z2, u3, i3, z3, z1⟩ h
   refine E_joinC h (fun (s : Unit) e w => ∃ (g : Gh) , FrM iI gI wI g w ∧ e 0 = up0 ∧ OM 1 g w 62 (o0 : List FaultDamage) up0 ∧ e 1 = .int .i64 (x1) ∧ e 2 = .int .i64 (x2) ∧ e 3 = (.func (.func ff3) fa3 fc3) ∧ e 8 = .int .i64 (y0) ∧ e 9 = .int .i64 (j0)) (fun X410 j5 y6 h => ?_) ?_
   ·obtain ⟨j1, hx, h⟩ := bsome h
    refine E_join (fun e w => ∃ (g : Gh) , FrM iI gI wI g w ∧ e 0 = up0 ∧ OM 1 g w 62 (o0 : List FaultDamage) up0 ∧ e 1 = .int .i64 (x1) ∧ e 2 = .int .i64 (x2) ∧ e 3 = (.func (.func ff3) fa3 fc3) ∧ e 8 = .int .i64 (y0) ∧ e 9 = .int .i64 (j0) ∧ e 34 = .bool (j1)) (fun Q' hQ => ?_) (fun j8 o8 hR => ?_)
    ·replace h := hx
     clear hx
     rcases csome h with ⟨n0, h⟩ | ⟨n0, h⟩
     ·obtain ⟨l5, q4, h⟩ := bsome h
      refine L_loadM (x := .tmp 25) Try.isAgg62 Try.sizeOf62 u0 q4 fun u5 r7 z6 => ?_
      obtain ⟨m5, u4, h⟩ := bsome h
      refine L_loadM (x := .tmp 30) Try.isAgg62 Try.sizeOf62 u0 u4 fun x5 t7 a7 => ?_
      obtain ⟨d3, b7, h⟩ := bsome h
      refine E_drawL (g := t5) (n := 17) [(14, (fun v g w => v = .int .i64 (d3)))] [0, 1, 2, 3, 4, 5, 6, 7, 8, 9, 10, 11, 12, 13, 14, 15, 16] rfl mixed (by kernel_rfl) (⟨fun _ => up_eq _, trivial⟩) ?_
      refine L_pur (c := .int .i64 (j0)) rfl rfl .plain (fun _ _ hd => P_move z1) ?_
      refine L_pur (c := .int .i64 (x1)) rfl rfl .plain (fun _ _ hd => P_move z2) ?_
      refine L_pur (c := .bool ((decide (j0 > x1)))) rfl rfl .plain (fun _ _ hd => P_int rfl rfl rfl) ?_
      refine L_pur (c := .bool ((decide (j0 > x1)))) rfl rfl .plain (fun _ _ hd => P_move rfl) ?_
      refine L_pur (c := (.func (.func ff3) fa3 fc3)) rfl rfl (.yes2 rfl rfl n0) (fun _ _ hd => P_move i3) ?_
      refine L_pur (c := up0) rfl rfl (.yes2 rfl rfl n0) (fun _ _ hd => P_move s2) ?_
      refine L_pur (c := .int .i64 (j0)) rfl rfl (.yes2 rfl rfl n0) (fun _ _ hd => P_move z1) ?_
      refine L_pur (c := ePtr up0 j0 5) rfl rfl (.yes2 rfl rfl n0) (fun _ _ hd => P_indexAddrM (α := FaultDamage) Try.underlying29 Try.sizeOf62 rfl u0 rfl q4) ?_
      refine L_ld (c := u5) rfl rfl (.yes2 rfl rfl n0) (fun _ _ h => ⟨h.ch, fun b hb _ => h.below.block b hb⟩) z6 rfl ?_
      refine L_pur (c := up0) rfl rfl (.yes2 rfl rfl n0) (fun _ _ hd => P_move s2) ?_
      refine L_pur (c := .int .i64 (j0)) rfl rfl (.yes2 rfl rfl n0) (fun _ _ hd => P_move z1) ?_
      refine L_pur (c := .int .i64 ((w64 (j0 - (1 : Int))))) rfl rfl (.yes2 rfl rfl n0) (fun _ _ hd => P_int rfl rfl rfl) ?_
      refine L_pur (c := ePtr up0 (w64 (j0 - (1 : Int))) 5) rfl rfl (.yes2 rfl rfl n0) (fun _ _ hd => P_indexAddrM (α := FaultDamage) Try.underlying29 Try.sizeOf62 rfl u0 rfl u4) ?_
      refine L_ld (c := x5) rfl rfl (.yes2 rfl rfl n0) (fun _ _ h => ⟨h.ch, fun b hb _ => h.below.block b hb⟩) a7 rfl ?_
      refine L_do (φ := fun v g w => v = .int .i64 (d3)) rfl rfl (.yes2 rfl rfl n0) (fun g w hd => D_callv (g := g) (vs := [u5, x5]) rfl fen3 (.cons rfl (.cons rfl .nil)) (fcl3 _ _ (hfr.ext hd.1).ch _ _ _ _ _  (r7.ext hd.1) (t7.ext hd.1) b7) fun g' w' v hs hr => ⟨g', hs, RV_int.1 hr⟩) (fun p8 hv => ?_)
      obtain ⟨_, _, _, rfl⟩ := hv
      refine L_pur (c := .bool ((decide (d3 < (0 : Int))))) rfl rfl (.yes2 rfl rfl n0) (fun _ _ hd => P_int rfl rfl rfl) ?_
      refine L_pur (c := .bool ((decide (d3 < (0 : Int))))) rfl rfl .plain (fun _ _ hd => P_pick (b := (decide (j0 > x1))) rfl (pick_t n0 rfl)) ?_
      refine L_nil fun u7 q8 hall => ?_
      have hs := hall.1
      have hfr := hfr.ext hs
      have u0 := u0.ext hs
      clear hs hall
      refine EL_nil ?_
      obtain rfl := sinj h
      exact hQ _ _ ⟨u7, hfr, s2, u0, z2, u3, i3, z3, z1, rfl⟩
     ·refine E_drawL (g := t5) (n := 17) [] [0, 1, 2, 3, 4, 5, 6, 7, 8, 9, 10, 11, 12, 13, 14, 15, 16] rfl mixed (by kernel_rfl) trivial ?_
      refine L_pur (c := .int .i64 (j0)) rfl rfl .plain (fun _ _ hd => P_move z1) ?_
      refine L_pur (c := .int .i64 (x1)) rfl rfl .plain (fun _ _ hd => P_move z2) ?_
      refine L_pur (c := .bool ((decide (j0 > x1)))) rfl rfl .plain (fun _ _ hd => P_int rfl rfl rfl) ?_
      refine L_pur (c := .bool ((decide (j0 > x1)))) rfl rfl .plain (fun _ _ hd => P_move rfl) ?_
      refine L_skip rfl (.no2 rfl rfl n0 rfl) ?_
      refine L_skip rfl (.no2 rfl rfl n0 rfl) ?_
      refine L_skip rfl (.no2 rfl rfl n0 rfl) ?_
      refine L_skip rfl (.no2 rfl rfl n0 rfl) ?_
      refine L_skip rfl (.no2 rfl rfl n0 rfl) ?_
      refine L_skip rfl (.no2 rfl rfl n0 rfl) ?_
      refine L_skip rfl (.no2 rfl rfl n0 rfl) ?_
      refine L_skip rfl (.no2 rfl rfl n0 rfl) ?_
      refine L_skip rfl (.no2 rfl rfl n0 rfl) ?_
      refine L_skip rfl (.no2 rfl rfl n0 rfl) ?_
      refine L_skip rfl (.no2 rfl rfl n0 rfl) ?_
      refine L_skip rfl (.no2 rfl rfl n0 rfl) ?_
      refine L_pur (c := .bool false) rfl rfl .plain (fun _ _ hd => P_pick (b := (decide (j0 > x1))) rfl (pick_f n0 rfl)) ?_
      refine L_nil fun v7 r8 hall => ?_
      have hs := hall.1
      have hfr := hfr.ext hs
      have u0 := u0.ext hs
      clear hs hall
      refine EL_nil ?_
      obtain rfl := sinj h
      exact hQ _ _ ⟨v7, hfr, s2, u0, z2, u3, i3, z3, z1, rfl⟩
    ·clear hx
     obtain ⟨y5, hfr, c4, d4, i4, j4, m4, n4, z5, o3⟩ := hR
     rcases csome h with ⟨s3, h⟩ | ⟨s3, h⟩
     ·refine E_cond_true (Eq.trans (show ev _ _ = .bool (j1) from o3) (congrArg Value.bool s3)) ?_
      exact E_skip (thn_n (y6 () _ _ ⟨y5, hfr, c4, d4, i4, j4, m4, n4, z5⟩ h))
     ·refine E_cond_false (Eq.trans (show ev _ _ = .bool (j1) from o3) (congrArg Value.bool s3)) ?_
      refine E_exit ?_
      refine thn_e ?_
      refine thn_e ?_
      refine blk_hit ?_
      refine blk_n ?_
      obtain rfl := sinj h
      exact hQ _ _ ⟨y5, hfr, c4, d4, i4, j4, m4, n4⟩
   ·rintro _ k8 t8 ⟨x7, hfr, d2, i1, a6, b6, c6, d6, i2⟩ h
    obtain ⟨j2, hx, h⟩ := bsome h
    refine E_join (fun e w => ∃ (g : Gh) , FrM iI gI wI g w ∧ e 0 = up0 ∧ OM 1 g w 62 (j2 : List FaultDamage) up0 ∧ e 1 = .int .i64 (x1) ∧ e 2 = .int .i64 (x2) ∧ e 3 = (.func (.func ff3) fa3 fc3) ∧ e 8 = .int .i64 (y0) ∧ e 9 = .int .i64 (j0)) (fun Q' hQ => ?_) (fun l8 v8 hR => ?_)
    ·replace h := hx
     clear hx
     refine E_block ?_
     obtain ⟨q3, x4, h⟩ := bsome h
     refine L_loadM (x := .tmp 45) Try.isAgg62 Try.sizeOf62 i1 x4 fun y7 p4 c7 => ?_
     obtain ⟨o4, z4, h⟩ := bsome h
     refine L_loadM (x := .tmp 49) Try.isAgg62 Try.sizeOf62 i1 z4 fun z7 j3 d7 => ?_
     obtain ⟨e7, c5, h⟩ := bsome h
     refine E_drawTL (g := x7) (n := 15) [2, 3, 4] [] [0, 1, 2, 3, 4, 5, 6, 7, 8, 9, 10, 11, 12, 13, 14] rfl mixed (by kernel_rfl) trivial rfl ?_
     refine L_pur (c := up0) rfl rfl .plain (fun _ _ hd => P_move d2) ?_
     refine L_pur (c := .int .i64 (j0)) rfl rfl .plain (fun _ _ hd => P_move i2) ?_
     refine L_purL (c := up0) rfl rfl .plain (P_move d2) ?_
     refine L_purL (c := .int .i64 (j0)) rfl rfl .plain (P_move i2) ?_
     refine L_purL (c := .int .i64 ((w64 (j0 - (1 : Int))))) rfl rfl .plain (P_int rfl rfl rfl) ?_
     refine L_pur (c := up0) rfl rfl .plain (fun _ _ hd => P_move d2) ?_
     refine L_pur (c := .int .i64 (j0)) rfl rfl .plain (fun _ _ hd => P_move i2) ?_
     refine L_pur (c := .int .i64 ((w64 (j0 - (1 : Int))))) rfl rfl .plain (fun _ _ hd => P_int rfl rfl rfl) ?_
     refine L_pur (c := ePtr up0 (w64 (j0 - (1 : Int))) 5) rfl rfl .plain (fun _ _ hd => P_indexAddrM (α := FaultDamage) Try.underlying29 Try.sizeOf62 rfl i1 rfl x4) ?_
     refine L_ld (c := y7) rfl rfl .plain (fun _ _ h => ⟨h.ch, fun b hb _ => h.below.block b hb⟩) c7 rfl ?_
     refine L_pur (c := up0) rfl rfl .plain (fun _ _ hd => P_move d2) ?_
     refine L_pur (c := .int .i64 (j0)) rfl rfl .plain (fun _ _ hd => P_move i2) ?_
     refine L_pur (c := ePtr up0 j0 5) rfl rfl .plain (fun _ _ hd => P_indexAddrM (α := FaultDamage) Try.underlying29 Try.sizeOf62 rfl i1 rfl z4) ?_
     refine L_ld (c := z7) rfl rfl .plain (fun _ _ h => ⟨h.ch, fun b hb _ => h.below.block b hb⟩) d7 rfl ?_
     refine L_pur (c := ePtr up0 j0 5) rfl rfl .plain (fun _ _ hd => P_indexAddrM (α := FaultDamage) Try.underlying29 Try.sizeOf62 rfl i1 rfl c5) ?_
     refine L_nil fun a8 x8 hall => ?_
     have hs := hall.1
     have hfr := hfr.ext hs
     have i1 := i1.ext hs
     have p4 := p4.ext hs
     have j3 := j3.ext hs
     clear hs hall
     refine TL_do .plain rfl (D_storeM (g := a8) (α := FaultDamage) (a' := q3) Try.sizeOf62 rfl i1 c5 rfl p4 fun b8 y8 hs b581 => ?_)
     have hfr := hfr.stp hs
     have j3 := j3.stp hs
     obtain ⟨g7, d5, h⟩ := bsome h
     refine TL_pur (v := ePtr up0 (w64 (j0 - (1 : Int))) 5) (P_indexAddrM (α := FaultDamage) Try.underlying29 Try.sizeOf62 rfl b581 rfl d5) .plain rfl ?_
     refine TL_do .plain rfl (D_storeM (g := b8) (α := FaultDamage) (a' := o4) Try.sizeOf62 rfl b581 d5 rfl j3 fun c8 z8 hs b583 => ?_)
     have hfr := hfr.stp hs
     refine TL_nil ?_
     refine blk_n ?_
     obtain rfl := sinj h
     exact hQ _ _ ⟨c8, hfr, d2, b583, a6, b6, c6, d6, i2⟩
    ·clear hx
     obtain ⟨d8, hfr, e6, i6, j6, k6, l6, m6, n6⟩ := hR
     refine E_region (EL_mv n6 rfl ?_)
     refine EL_in (.int .i64 ((w64 (j0 - (1 : Int))))) rfl rfl rfl rfl ?_
     refine EL_at (.int .i64 ((w64 (j0 - (1 : Int))))) rfl rfl ?_
     exact EL_nil (thn_n (x6 (j2, (w64 (j0 - (1 : Int)))) _ _ ⟨d8, hfr, e6, i6, j6, k6, l6, m6, rfl⟩ h))
  ·clear hx
   obtain ⟨e8, hfr, o6, p6, q6, r6, t6, u6⟩ := hR
   refine E_region (EL_mv u6 rfl ?_)
   refine EL_in (.int .i64 ((w64 (y0 + (1 : Int))))) rfl rfl rfl rfl ?_
   refine EL_at (.int .i64 ((w64 (y0 + (1 : Int))))) rfl rfl ?_
   exact EL_nil (thn_n (hk1 (q2, (w64 (y0 + (1 : Int)))) _ _ ⟨e8, hfr, o6, p6, q6, r6, t6, rfl⟩ h))
/-- griffe/tie.mark -/
def f110 (x0 : Bool) : Option (UInt8) :=
 jn (σ := Unit) (fun (_ : Unit) =>
  some ((46 : UInt8))
  ) fun k2 =>
 bif x0 then
  some ((120 : UInt8))
 else
  k2 ()
theorem en110 : Enters Try.prog 110 := enters_of Try.func110 (by kernel_rfl) rfl
theorem wk110 {gI : Gh} {wI : World} {x0 : Bool}  {r : UInt8} (h : f110 x0 = some r) : Fn Try.prog 110 #[.bool (x0)] gI wI (fun _ _ v => v = .int .u8 (UInt8.toNat (r))) := by
 unfold f110 at h
 refine fn_of_E Try.func110 rfl (Nat.le_of_ble_eq_true rfl) fun g0 hm hfr => ?_
 show E _ 4 none _ _ _ _ _
 refine E_seq (E_region (EL_at (.int .u8 (UInt8.toNat 0)) rfl rfl ?_))
 refine EL_nil (thn_n (E_joinC h (fun (s : Unit) e w => ∃ (g : Gh) , Fr gI wI g w) (fun X2 k2 hk2 h => ?_) ?_))
 ·refine E_seq (E_region (EL_mw (.bool (x0)) rfl rfl ?_))
  refine EL_nil (thn_n ?_)
  rcases csome h with ⟨hc3, h⟩ | ⟨hc3, h⟩
  ·refine E_ct hc3 rfl ?_
   refine E_seq (E_region (EL_at (.int .u8 (UInt8.toNat 120)) rfl rfl ?_))
   refine EL_nil (thn_n (E_ret (thn_r ?_)))
   obtain rfl := sinj h
   exact end1 rfl rfl (show _ = .int .u8 (UInt8.toNat 120) from rfl) ⟨_, hfr, rfl⟩
  ·refine E_cf hc3 rfl ?_
   exact E_skip (thn_n (hk2 () _ _ ⟨g0, hfr⟩ h))
 ·rintro _ j0 w4 ⟨g4, hfr⟩ h
  refine E_seq (E_region (EL_at (.int .u8 (UInt8.toNat 46)) rfl rfl ?_))
  refine EL_nil (thn_n (E_ret ?_))
  obtain rfl := sinj h
  exact end1 rfl rfl (show _ = .int .u8 (UInt8.toNat 46) from rfl) ⟨_, hfr, rfl⟩
/-- (griffe/tie.harness).lifted -/
def f111 (x0 : TieTieHarness) (x1 : Int) (x2 : Int) : Option (Bool) :=
 (idx (((x0).TieHarness).Warps) x2).bind fun y5 =>
 (shr64 x1 y5).bind fun y8 =>
 some (((bit64 .and y8 (1 : Int)) == (1 : Int)))
theorem en111 : Enters Try.prog 111 := enters_of Try.func111 (by kernel_rfl) rfl
theorem wk111 {gI : Gh} {wI : World} {x0 : TieTieHarness} {x1 : Int} {x2 : Int} {up0 : Value} (rp0 : RV gI.m wI x0 up0) {r : Bool} (h : f111 x0 x1 x2 = some r) : Fn Try.prog 111 #[up0, .int .i64 (x1), .int .i64 (x2)] gI wI (fun _ _ v => v = .bool (r)) := by
 unfold f111 at h
 refine fn_of_E Try.func111 rfl (Nat.le_of_ble_eq_true rfl) fun g0 hm hfr => ?_
 have rp0 : RV g0.m wI x0 up0 := hm ▸ rp0
 show E _ 17 none _ _ _ _ _
 refine E_seq (E_region (EL_do .plain rfl (D_box (g := g0) rfl rp0 fun g1 w1 p1 hs q1 => ?_)))
 have hfr := hfr.ext hs
 refine EL_at (.bool false) rfl rfl ?_
 refine EL_nil (thn_n (E_seq (E_region (EL_mw (.int .i64 (x1)) rfl rfl ?_))))
 refine EL_pur (v := fPtr p1 0) (P_fieldAddr at_145_0 rfl (PT.ptr q1)) .plain rfl ?_
 have q2 := PT_field (part_TieTieHarness_0).1 q1
 refine EL_pur (v := fPtr (fPtr p1 0) 1) (P_fieldAddr at_24_1 rfl (PT.ptr q2)) .plain rfl ?_
 have q3 := PT_field (part_TieHarness_1).1 q2
 refine EL_do .plain rfl (D_load (g := g1) Try.isAgg22 Try.sizeOf22 rfl q3 fun v4 r4 => ?_)
 refine EL_mw (.int .i64 (x2)) rfl rfl ?_
 obtain ⟨y5, j0, h⟩ := bsome h
 refine EL_pur (v := ePtr v4 x2 1) (P_indexAddr (α := Int) Try.underlying22 Try.sizeOf3 rfl r4 rfl j0) .plain rfl ?_
 have q6 := PT_idx r4 j0
 refine EL_do .plain rfl (D_load (g := g1) Try.isAgg3 Try.sizeOf3 rfl q6 fun v7 r7 => ?_)
 obtain rfl := RV_int.1 r7
 obtain ⟨y8, n0, h⟩ := bsome h
 refine EL_pur (v := .int .i64 (y8)) (P_int rfl rfl (congrArg (Option.map (Value.int .i64)) n0)) .plain rfl ?_
 refine EL_in (.int .i64 ((bit64 .and y8 (1 : Int)))) rfl rfl rfl rfl ?_
 refine EL_in (.bool (((bit64 .and y8 (1 : Int)) == (1 : Int)))) rfl rfl rfl rfl ?_
 refine EL_at (.bool (((bit64 .and y8 (1 : Int)) == (1 : Int)))) rfl rfl ?_
 refine EL_nil (thn_n (E_ret ?_))
 obtain rfl := sinj h
 exact end1 rfl rfl (show _ = .bool (((bit64 .and y8 (1 : Int)) == (1 : Int))) from rfl) ⟨_, hfr, rfl⟩
/-- slices.swapRangeCmpFunc[griffe/api.FaultDamage] -/
def f115 (x0 : List FaultDamage) (x1 : Int) (x2 : Int) (x3 : Int) (_x4 : FaultDamage → FaultDamage → Option Int) : Option ((List FaultDamage)) :=
 lp (σ := (List FaultDamage) × Int) (fun k1 (n0, j0) =>
  jn (σ := Unit) (fun (_ : Unit) =>
   Option.bind (α := (List FaultDamage)) (
    (idx n0 (w64 (x2 + j0))).bind fun i2 =>
    (idx n0 (w64 (x1 + j0))).bind fun y44 =>
    (idx n0 (w64 (x1 + j0))).bind fun _q4 =>
    (idx ((List.set n0 (Int.toNat (w64 (x1 + j0))) i2)) (w64 (x2 + j0))).bind fun _u4 =>
    some ((List.set ((List.set n0 (Int.toNat (w64 (x1 + j0))) i2)) (Int.toNat (w64 (x2 + j0))) y44))
    ) fun y0 =>
   k1 (y0, (w64 (j0 + (1 : Int))))
   ) fun k4 =>
  bif (decide (j0 < x3)) then
   k4 ()
  else
   some (n0)
  ) big (x0, (0 : Int))
theorem en115 : Enters Try.prog 115 := enters_of Try.func115 (by kernel_rfl) rfl
theorem wk115 {iI : Nat} {gI : Gh} {wI : World} {x0 : List FaultDamage} {x1 : Int} {x2 : Int} {x3 : Int} {x4 : FaultDamage → FaultDamage → Option Int} {up0 : Value} (mp0 : OM iI gI wI 62 x0 up0) {up4 : Value} (rp4 : FnV2 Try.prog x4 up4 gI wI) {r : (List FaultDamage)} (h : f115 x0 x1 x2 x3 x4 = some r) : FnM Try.prog 115 #[up0, .int .i64 (x1), .int .i64 (x2), .int .i64 (x3), up4] iI gI wI (fun g w v => v = .tuple #[] ∧ OM iI g w 62 r up0) := by
 unfold f115 at h
 refine fnM_of_E Try.func115 rfl (Nat.le_of_ble_eq_true rfl) fun g0 hm hfr => ?_
 have q3 := mp0
 replace mp0 := mp0.enter
 rw [← hm] at mp0
 replace hm : g0.m = gI.m := by rw [hm]
 obtain ⟨ff4, fa4, fc4, rfl, fen4, fcl4⟩ := rp4
 show E _ 38 none _ _ _ _ _
 refine E_seq (E_region (EL_at (.int .i64 (0)) rfl rfl ?_))
 refine EL_nil (thn_n (E_block ?_))
 refine E_lp h (fun (s : (List FaultDamage) × Int) e w => ∃ (g : Gh) , FrM iI gI wI g w ∧ e 0 = up0 ∧ OM 1 g w 62 (s.1 : List FaultDamage) up0 ∧ e 1 = .int .i64 (x1) ∧ e 2 = .int .i64 (x2) ∧ e 3 = .int .i64 (x3) ∧ e 10 = .int .i64 (s.2)) ⟨g0, hfr, rfl, mp0, rfl, rfl, rfl, rfl⟩ (fun X1 k1 hk1 => ?_)
 rintro ⟨n0, j0⟩ n5 w2 ⟨g2, hfr, i4, q2, j4, m4, s2, j2⟩ h
 refine E_joinC h (fun (s : Unit) e w => ∃ (g : Gh) , FrM iI gI wI g w ∧ e 0 = up0 ∧ OM 1 g w 62 (n0 : List FaultDamage) up0 ∧ e 1 = .int .i64 (x1) ∧ e 2 = .int .i64 (x2) ∧ e 3 = .int .i64 (x3) ∧ e 10 = .int .i64 (j0)) (fun X4 k4 hk4 h => ?_) ?_
 ·refine E_seq (E_region (EL_mv j2 rfl ?_))
  refine EL_mv s2 rfl ?_
  refine EL_in (.bool ((decide (j0 < x3)))) rfl rfl rfl rfl ?_
  refine EL_nil (thn_n ?_)
  rcases csome h with ⟨hc5, h⟩ | ⟨hc5, h⟩
  ·refine E_ct hc5 rfl ?_
   exact E_skip (thn_n (hk4 () _ _ ⟨g2, hfr, i4, q2, j4, m4, s2, j2⟩ h))
  ·refine E_cf hc5 rfl ?_
   refine E_exit ?_
   refine thn_e ?_
   refine thn_e ?_
   refine blk_hit ?_
   obtain rfl := sinj h
   exact end0n rfl rfl ⟨_, hfr, rfl, q3.back q2⟩
 ·rintro _ o5 w6 ⟨g6, hfr, i1, o0, z1, d2, n4, u0⟩ h
  obtain ⟨y0, hx, h⟩ := bsome h
  refine E_join (fun e w => ∃ (g : Gh) , FrM iI gI wI g w ∧ e 0 = up0 ∧ OM 1 g w 62 (y0 : List FaultDamage) up0 ∧ e 1 = .int .i64 (x1) ∧ e 2 = .int .i64 (x2) ∧ e 3 = .int .i64 (x3) ∧ e 10 = .int .i64 (j0)) (fun Q' hQ => ?_) (fun m5 p5 hR => ?_)
  ·replace h := hx
   clear hx
   refine E_block ?_
   obtain ⟨i2, z2, h⟩ := bsome h
   refine L_loadM (x := .tmp 28) Try.isAgg62 Try.sizeOf62 o0 z2 fun z4 d3 o4 => ?_
   obtain ⟨y44, i3, h⟩ := bsome h
   refine L_loadM (x := .tmp 34) Try.isAgg62 Try.sizeOf62 o0 i3 fun c5 j1 p4 => ?_
   obtain ⟨q4, j3, h⟩ := bsome h
   refine E_drawTL (g := g6) (n := 21) [4, 5, 6, 7] [] [0, 1, 2, 3, 4, 5, 6, 7, 8, 9, 10, 11, 12, 13, 14, 15, 16, 17, 18, 19, 20] rfl mixed (by kernel_rfl) trivial rfl ?_
   refine L_pur (c := up0) rfl rfl .plain (fun _ _ hd => P_move i1) ?_
   refine L_pur (c := .int .i64 (x1)) rfl rfl .plain (fun _ _ hd => P_move z1) ?_
   refine L_pur (c := .int .i64 (j0)) rfl rfl .plain (fun _ _ hd => P_move u0) ?_
   refine L_pur (c := .int .i64 ((w64 (x1 + j0)))) rfl rfl .plain (fun _ _ hd => P_int rfl rfl rfl) ?_
   refine L_purL (c := up0) rfl rfl .plain (P_move i1) ?_
   refine L_purL (c := .int .i64 (x2)) rfl rfl .plain (P_move d2) ?_
   refine L_purL (c := .int .i64 (j0)) rfl rfl .plain (P_move u0) ?_
   refine L_purL (c := .int .i64 ((w64 (x2 + j0)))) rfl rfl .plain (P_int rfl rfl rfl) ?_
   refine L_pur (c := up0) rfl rfl .plain (fun _ _ hd => P_move i1) ?_
   refine L_pur (c := .int .i64 (x2)) rfl rfl .plain (fun _ _ hd => P_move d2) ?_
   refine L_pur (c := .int .i64 (j0)) rfl rfl .plain (fun _ _ hd => P_move u0) ?_
   refine L_pur (c := .int .i64 ((w64 (x2 + j0)))) rfl rfl .plain (fun _ _ hd => P_int rfl rfl rfl) ?_
   refine L_pur (c := ePtr up0 (w64 (x2 + j0)) 5) rfl rfl .plain (fun _ _ hd => P_indexAddrM (α := FaultDamage) Try.underlying29 Try.sizeOf62 rfl o0 rfl z2) ?_
   refine L_ld (c := z4) rfl rfl .plain (fun _ _ h => ⟨h.ch, fun b hb _ => h.below.block b hb⟩) o4 rfl ?_
   refine L_pur (c := up0) rfl rfl .plain (fun _ _ hd => P_move i1) ?_
   refine L_pur (c := .int .i64 (x1)) rfl rfl .plain (fun _ _ hd => P_move z1) ?_
   refine L_pur (c := .int .i64 (j0)) rfl rfl .plain (fun _ _ hd => P_move u0) ?_
   refine L_pur (c := .int .i64 ((w64 (x1 + j0)))) rfl rfl .plain (fun _ _ hd => P_int rfl rfl rfl) ?_
   refine L_pur (c := ePtr up0 (w64 (x1 + j0)) 5) rfl rfl .plain (fun _ _ hd => P_indexAddrM (α := FaultDamage) Try.underlying29 Try.sizeOf62 rfl o0 rfl i3) ?_
   refine L_ld (c := c5) rfl rfl .plain (fun _ _ h => ⟨h.ch, fun b hb _ => h.below.block b hb⟩) p4 rfl ?_
   refine L_pur (c := ePtr up0 (w64 (x1 + j0)) 5) rfl rfl .plain (fun _ _ hd => P_indexAddrM (α := FaultDamage) Try.underlying29 Try.sizeOf62 rfl o0 rfl j3) ?_
   refine L_nil fun d5 q5 hall => ?_
   have hs := hall.1
   have hfr := hfr.ext hs
   have o0 := o0.ext hs
   have d3 := d3.ext hs
   have j1 := j1.ext hs
   clear hs hall
   refine TL_do .plain rfl (D_storeM (g := d5) (α := FaultDamage) (a' := i2) Try.sizeOf62 rfl o0 j3 rfl d3 fun i5 t5 hs b74 => ?_)
   have hfr := hfr.stp hs
   have j1 := j1.stp hs
   obtain ⟨u4, o3, h⟩ := bsome h
   refine TL_pur (v := ePtr up0 (w64 (x2 + j0)) 5) (P_indexAddrM (α := FaultDamage) Try.underlying29 Try.sizeOf62 rfl b74 rfl o3) .plain rfl ?_
   refine TL_do .plain rfl (D_storeM (g := i5) (α := FaultDamage) (a' := y44) Try.sizeOf62 rfl b74 o3 rfl j1 fun j5 u5 hs b76 => ?_)
   have hfr := hfr.stp hs
   refine TL_nil ?_
   refine blk_n ?_
   obtain rfl := sinj h
   exact hQ _ _ ⟨j5, hfr, i1, b76, z1, d2, n4, u0⟩
  ·clear hx
   obtain ⟨l5, hfr, s3, u3, z3, c4, d4, p3⟩ := hR
   refine E_region (EL_mv p3 rfl ?_)
   refine EL_in (.int .i64 ((w64 (j0 + (1 : Int))))) rfl rfl rfl rfl ?_
   refine EL_at (.int .i64 ((w64 (j0 + (1 : Int))))) rfl rfl ?_
   exact EL_nil (thn_n (hk1 (y0, (w64 (j0 + (1 : Int)))) _ _ ⟨l5, hfr, s3, u3, z3, c4, d4, rfl⟩ h))
/-- slices.ContainsFunc[[]griffe/api.FaultDamage,griffe/api.FaultDamage] -/
def f53 (x0 : List FaultDamage) (x1 : FaultDamage → Option Bool) : Option (Bool) :=
 (f75 x0 x1).bind fun y2 =>
 some ((decide (y2 ≥ (0 : Int))))
theorem en53 : Enters Try.prog 53 := enters_of Try.func53 (by kernel_rfl) rfl
theorem wk53 {gI : Gh} {wI : World} {x0 : List FaultDamage} {x1 : FaultDamage → Option Bool} {up0 : Value} (rp0 : RV gI.m wI x0 up0) {up1 : Value} (rp1 : FnV1 Try.prog x1 up1 gI wI) {r : Bool} (h : f53 x0 x1 = some r) : Fn Try.prog 53 #[up0, up1] gI wI (fun _ _ v => v = .bool (r)) := by
 unfold f53 at h
 refine fn_of_E Try.func53 rfl (Nat.le_of_ble_eq_true rfl) fun g0 hm hfr => ?_
 have rp0 : RV g0.m wI x0 up0 := hm ▸ rp0
 obtain ⟨ff1, fa1, fc1, rfl, fen1, fcl1⟩ := rp1
 show E _ 9 none _ _ _ _ _
 refine E_seq (E_region (EL_at (.bool false) rfl rfl ?_))
 refine EL_nil (thn_n (E_seq (E_region (EL_mw up0 rfl rfl ?_))))
 refine EL_mw ((.func (.func ff1) fa1 fc1)) rfl rfl ?_
 obtain ⟨y2, j0, h⟩ := bsome h
 refine EL_do .plain rfl (D_call (g := g0) (vs := [up0, (.func (.func ff1) fa1 fc1)]) en75 (.cons rfl (.cons rfl .nil)) (wk75 rp0 (FnV1.ch ⟨_, _, _, rfl, fen1, fcl1⟩ hfr.ch) j0) fun g1 w1_ v1 hs hr => ?_)
 have hfr := hfr.ext hs
 subst hr
 refine EL_in (.bool ((decide (y2 ≥ (0 : Int))))) rfl rfl rfl rfl ?_
 refine EL_at (.bool ((decide (y2 ≥ (0 : Int))))) rfl rfl ?_
 refine EL_nil (thn_n (E_ret ?_))
 obtain rfl := sinj h
 exact end1 rfl rfl (show _ = .bool ((decide (y2 ≥ (0 : Int)))) from rfl) ⟨_, hfr, rfl⟩
/-- griffe/fault.differ -/
def f56 (x0 : List Str) (x1 : List Str) : Option (It (Int × Int)) :=
 some ((fun σ cons s => f83 x0 x1 σ cons s))
theorem en56 : Enters Try.prog 56 := enters_of Try.func56 (by kernel_rfl) rfl
theorem wk56 {gI : Gh} {wI : World} {x0 : List Str} {x1 : List Str} {up0 : Value} (rp0 : RV gI.m wI x0 up0) {up1 : Value} (rp1 : RV gI.m wI x1 up1) {r : It (Int × Int)} (h : f56 x0 x1 = some r) : Fn Try.prog 56 #[up0, up1] gI wI (fun m w v => ItV Try.prog (RA2 (α := Int) (β := Int)) (r) v m w) := by
 unfold f56 at h
 refine fn_of_E Try.func56 rfl (Nat.le_of_ble_eq_true rfl) fun g0 hm hfr => ?_
 have rp0 : RV g0.m wI x0 up0 := hm ▸ rp0
 have rp1 : RV g0.m wI x1 up1 := hm ▸ rp1
 show E _ 6 none _ _ _ _ _
 refine E_seq (E_region (EL_do .plain rfl (D_box (g := g0) rfl rp0 fun g1 w1 p1 hs q1 => ?_)))
 have hfr := hfr.ext hs
 have rp1 := rp1.ext hs
 refine EL_do .plain rfl (D_box (g := g1) rfl rp1 fun g2 w2 p2 hs q2 => ?_)
 have hfr := hfr.ext hs
 have q1 := q1.ext hs
 refine EL_at (.nilFunc) rfl rfl ?_
 refine EL_nil (thn_n (E_seq (E_region (EL_pur (v := (.func (.func 83) #[] #[p1, p2])) (P_makeFunc (capf_0_2 (show ev _ _ = p1 from rfl) (show ev _ _ = p2 from rfl))) .plain rfl ?_))))
 refine EL_at ((.func (.func 83) #[] #[p1, p2])) rfl rfl ?_
 refine EL_nil (thn_n (E_ret ?_))
 obtain rfl := sinj h
 exact end1 rfl rfl (show _ = (.func (.func 83) #[] #[p1, p2]) from rfl) ⟨_, hfr, (show ItV Try.prog (RA2 (α := Int) (β := Int)) (fun σ cons s => f83 x0 x1 σ cons s) ((.func (.func 83) #[] #[p1, p2])) g2.m w2 from ⟨83, #[], #[p1, p2], rfl, en83, fun g' w' hch σ cons s s' h => wk83  (q1.ch hch) (q2.ch hch) h⟩)⟩
/-- griffe/grifferef01.Same -/
def f58 (x0 : Design) (x1 : Design) : Option (Bool) :=
 jn (σ := Unit) (fun (_ : Unit) =>
  jn (σ := Unit) (fun (_ : Unit) =>
   some (true)
   ) fun m5 =>
  lp (σ := Int) (fun n5 j0 =>
   jn (σ := Unit) (fun (_ : Unit) =>
    jn (σ := Unit) (fun (_ : Unit) =>
     n5 ((w64 (j0 + (1 : Int))))
     ) fun o3 =>
    (idx ((x0).Rows) j0).bind fun u0 =>
    (idx ((x1).Rows) j0).bind fun y0 =>
    bif (u0 != y0) then
     some (false)
    else
     o3 ()
    ) fun o5 =>
   bif (decide (j0 < (((x0).Rows).length : Int))) then
    o5 ()
   else
    m5 ()
   ) big ((0 : Int))
  ) fun k8 =>
 (f84 x0 x1).bind fun p3 =>
 bif (!p3) then
  some (false)
 else
  k8 ()
theorem en58 : Enters Try.prog 58 := enters_of Try.func58 (by kernel_rfl) rfl
theorem wk58 {gI : Gh} {wI : World} {x0 : Design} {x1 : Design} {up0 : Value} (rp0 : RV gI.m wI x0 up0) {up1 : Value} (rp1 : RV gI.m wI x1 up1) {r : Bool} (h : f58 x0 x1 = some r) : Fn Try.prog 58 #[up0, up1] gI wI (fun _ _ v => v = .bool (r)) := by
 unfold f58 at h
 refine fn_of_E Try.func58 rfl (Nat.le_of_ble_eq_true rfl) fun g0 hm hfr => ?_
 have rp0 : RV g0.m wI x0 up0 := hm ▸ rp0
 have rp1 : RV g0.m wI x1 up1 := hm ▸ rp1
 show E _ 28 none _ _ _ _ _
 refine E_seq (E_region (EL_do .plain rfl (D_box (g := g0) rfl rp0 fun g1 w1 p1 hs q1 => ?_)))
 have hfr := hfr.ext hs
 have rp1 := rp1.ext hs
 refine EL_do .plain rfl (D_box (g := g1) rfl rp1 fun g2 w2 p2 hs q2 => ?_)
 have hfr := hfr.ext hs
 have q1 := q1.ext hs
 refine EL_at (.bool false) rfl rfl ?_
 refine EL_nil (thn_n (E_joinC h (fun (s : Unit) e w => ∃ (g : Gh) , Fr gI wI g w ∧ e 2 = p1 ∧ PT g.m w (x0 : Design) p1 ∧ e 3 = p2 ∧ PT g.m w (x1 : Design) p2) (fun X8 k8 i6 h => ?_) ?_))
 ·refine E_seq (E_region (EL_do .plain rfl (D_load (g := g2) Try.isAgg26 Try.sizeOf26 rfl q1 fun v9 r9 => ?_)))
  refine EL_do .plain rfl (D_load (g := g2) Try.isAgg26 Try.sizeOf26 rfl q2 fun j6 k6 => ?_)
  obtain ⟨p3, p5, h⟩ := bsome h
  refine EL_do .plain rfl (D_call (g := g2) (vs := [v9, j6]) en84 (.cons rfl (.cons rfl .nil)) (wk84 r9 k6 p5) fun l6 t6 e7 hs hr => ?_)
  have hfr := hfr.ext hs
  have q1 := q1.ext hs
  have q2 := q2.ext hs
  subst hr
  refine EL_pur (v := .bool (!p3)) (P_not rfl) .plain rfl ?_
  refine EL_nil (thn_n ?_)
  rcases csome h with ⟨d2, h⟩ | ⟨d2, h⟩
  ·refine E_ct d2 rfl ?_
   refine E_seq (E_region (EL_at (.bool false) rfl rfl ?_))
   refine EL_nil (thn_n (E_ret (thn_r ?_)))
   obtain rfl := sinj h
   exact end1 rfl rfl (show _ = .bool false from rfl) ⟨_, hfr, rfl⟩
  ·refine E_cf d2 rfl ?_
   exact E_skip (thn_n (i6 () _ _ ⟨l6, hfr, rfl, q1, rfl, q2⟩ h))
 ·rintro _ u6 g7 ⟨m6, hfr, o4, p4, q4, u4⟩ h
  refine E_joinC h (fun (s : Unit) e w => ∃ (g : Gh) , Fr gI wI g w) (fun X79 m5 q5 h => ?_) ?_
  ·refine E_seq (E_region (EL_at (.int .i64 (0)) rfl rfl ?_))
   refine EL_nil (thn_n (E_block ?_))
   refine E_lp h (fun (s : Int) e w => ∃ (g : Gh) , Fr gI wI g w ∧ e 2 = p1 ∧ PT g.m w (x0 : Design) p1 ∧ e 3 = p2 ∧ PT g.m w (x1 : Design) p2 ∧ e 5 = .int .i64 (s)) ⟨m6, hfr, o4, p4, q4, u4, rfl⟩ (fun X80 n5 t5 => ?_)
   rintro j0 v6 i7 ⟨q3, hfr, j2, i1, x4, z4, s2⟩ h
   refine E_joinC h (fun (s : Unit) e w => ∃ (g : Gh) , Fr gI wI g w ∧ e 2 = p1 ∧ PT g.m w (x0 : Design) p1 ∧ e 3 = p2 ∧ PT g.m w (x1 : Design) p2 ∧ e 5 = .int .i64 (j0)) (fun X85 o5 u5 h => ?_) ?_
   ·refine E_seq (E_region (EL_mv s2 rfl ?_))
    refine EL_pur (v := fPtr p1 1) (P_fieldAddr at_26_1 j2 (PT.ptr i1)) .plain rfl ?_
    have n6 := PT_field (part_Design_1).1 i1
    refine EL_do .plain rfl (D_load (g := q3) Try.isAgg22 Try.sizeOf22 rfl n6 fun j7 o6 => ?_)
    refine EL_pur (v := .int .i64 (((x0).Rows).length : Int)) (P_len Try.underlying22 rfl o6) .plain rfl ?_
    refine EL_pur (v := .bool ((decide (j0 < (((x0).Rows).length : Int))))) (P_int rfl rfl rfl) .plain rfl ?_
    refine EL_nil (thn_n ?_)
    rcases csome h with ⟨i2, h⟩ | ⟨i2, h⟩
    ·refine E_ct i2 rfl ?_
     exact E_skip (thn_n (u5 () _ _ ⟨q3, hfr, j2, i1, x4, z4, s2⟩ h))
    ·refine E_cf i2 rfl ?_
     refine E_exit ?_
     refine thn_e ?_
     refine thn_e ?_
     refine blk_hit ?_
     exact thn_n (q5 () _ _ ⟨q3, hfr⟩ h)
   ·rintro _ x6 l7 ⟨p6, hfr, z2, n0, d3, o0, j1⟩ h
    refine E_joinC h (fun (s : Unit) e w => ∃ (g : Gh) , Fr gI wI g w ∧ e 2 = p1 ∧ PT g.m w (x0 : Design) p1 ∧ e 3 = p2 ∧ PT g.m w (x1 : Design) p2 ∧ e 5 = .int .i64 (j0)) (fun X116 o3 c5 h => ?_) ?_
    ·refine E_block ?_
     refine E_seq ?_
     have x5 := PT_field (part_Design_1).1 n0
     refine L_load (x := .tmp 17) Try.isAgg22 Try.sizeOf22 x5 fun s3 u3 d5 => ?_
     obtain ⟨u0, i3, h⟩ := bsome h
     have y5 := PT_idx u3 i3
     refine L_load (x := .tmp 20) Try.isAgg3 Try.sizeOf3 y5 fun y6 z5 i5 => ?_
     obtain rfl := RV_int.1 z5
     have a6 := PT_field (part_Design_1).1 o0
     refine L_load (x := .tmp 22) Try.isAgg22 Try.sizeOf22 a6 fun z3 c4 j5 => ?_
     obtain ⟨y0, j3, h⟩ := bsome h
     have b6 := PT_idx c4 j3
     refine L_load (x := .tmp 25) Try.isAgg3 Try.sizeOf3 b6 fun z6 c6 l5 => ?_
     obtain rfl := RV_int.1 c6
     refine E_drawL (g := p6) (n := 11) [] [0, 1, 2, 3, 4, 5, 6, 7, 8, 9, 10] rfl mixed (by kernel_rfl) trivial ?_
     refine L_pur (c := fPtr p1 1) rfl rfl .plain (fun _ _ hd => P_fieldAddr at_26_1 z2 (PT.ptr n0)) ?_
     refine L_ld (c := s3) rfl rfl .plain (fun _ _ h => h.ch) d5 rfl ?_
     refine L_pur (c := .int .i64 (j0)) rfl rfl .plain (fun _ _ hd => P_move j1) ?_
     refine L_pur (c := ePtr s3 j0 1) rfl rfl .plain (fun _ _ hd => P_indexAddr (α := Int) Try.underlying22 Try.sizeOf3 rfl u3 rfl i3) ?_
     refine L_ld (c := .int .i64 (u0)) rfl rfl .plain (fun _ _ h => h.ch) i5 rfl ?_
     refine L_pur (c := fPtr p2 1) rfl rfl .plain (fun _ _ hd => P_fieldAddr at_26_1 d3 (PT.ptr o0)) ?_
     refine L_ld (c := z3) rfl rfl .plain (fun _ _ h => h.ch) j5 rfl ?_
     refine L_pur (c := .int .i64 (j0)) rfl rfl .plain (fun _ _ hd => P_move j1) ?_
     refine L_pur (c := ePtr z3 j0 1) rfl rfl .plain (fun _ _ hd => P_indexAddr (α := Int) Try.underlying22 Try.sizeOf3 rfl c4 rfl j3) ?_
     refine L_ld (c := .int .i64 (y0)) rfl rfl .plain (fun _ _ h => h.ch) l5 rfl ?_
     refine L_pur (c := .bool ((u0 != y0))) rfl rfl .plain (fun _ _ hd => P_int rfl rfl rfl) ?_
     refine L_nil fun d6 a7 hall => ?_
     have hs := hall.1
     have hfr := hfr.ext hs
     have n0 := n0.ext hs
     have o0 := o0.ext hs
     clear hs hall
     refine EL_nil (thn_n ?_)
     rcases csome h with ⟨z1, h⟩ | ⟨z1, h⟩
     ·refine E_ct z1 rfl ?_
      refine E_seq (E_region (EL_at (.bool false) rfl rfl ?_))
      refine EL_nil (thn_n (E_ret (blk_r ?_)))
      refine thn_r ?_
      refine thn_r ?_
      refine blk_r ?_
      refine thn_r ?_
      obtain rfl := sinj h
      exact end1 rfl rfl (show _ = .bool false from rfl) ⟨_, hfr, rfl⟩
     ·refine E_cf z1 rfl ?_
      exact E_skip (blk_n (thn_n (c5 () _ _ ⟨d6, hfr, z2, n0, d3, o0, j1⟩ h)))
    ·rintro _ q6 b7 ⟨e6, hfr, d4, i4, j4, m4, n4⟩ h
     refine E_region (EL_mv n4 rfl ?_)
     refine EL_in (.int .i64 ((w64 (j0 + (1 : Int))))) rfl rfl rfl rfl ?_
     refine EL_at (.int .i64 ((w64 (j0 + (1 : Int))))) rfl rfl ?_
     exact EL_nil (thn_n (t5 ((w64 (j0 + (1 : Int)))) _ _ ⟨e6, hfr, d4, i4, j4, m4, rfl⟩ h))
  ·rintro _ r6 c7 ⟨d7, hfr⟩ h
   refine E_seq (E_region (EL_at (.bool true) rfl rfl ?_))
   refine EL_nil (thn_n (E_ret ?_))
   obtain rfl := sinj h
   exact end1 rfl rfl (show _ = .bool true from rfl) ⟨_, hfr, rfl⟩
/-- slices.ContainsFunc[[]griffe/api.FaultSight,griffe/api.FaultSight] -/
def f63 (x0 : List FaultSight) (x1 : FaultSight → Option Bool) : Option (Bool) :=
 (f89 x0 x1).bind fun y2 =>
 some ((decide (y2 ≥ (0 : Int))))
theorem en63 : Enters Try.prog 63 := enters_of Try.func63 (by kernel_rfl) rfl
theorem wk63 {gI : Gh} {wI : World} {x0 : List FaultSight} {x1 : FaultSight → Option Bool} {up0 : Value} (rp0 : RV gI.m wI x0 up0) {up1 : Value} (rp1 : FnV1 Try.prog x1 up1 gI wI) {r : Bool} (h : f63 x0 x1 = some r) : Fn Try.prog 63 #[up0, up1] gI wI (fun _ _ v => v = .bool (r)) := by
 unfold f63 at h
 refine fn_of_E Try.func63 rfl (Nat.le_of_ble_eq_true rfl) fun g0 hm hfr => ?_
 have rp0 : RV g0.m wI x0 up0 := hm ▸ rp0
 obtain ⟨ff1, fa1, fc1, rfl, fen1, fcl1⟩ := rp1
 show E _ 9 none _ _ _ _ _
 refine E_seq (E_region (EL_at (.bool false) rfl rfl ?_))
 refine EL_nil (thn_n (E_seq (E_region (EL_mw up0 rfl rfl ?_))))
 refine EL_mw ((.func (.func ff1) fa1 fc1)) rfl rfl ?_
 obtain ⟨y2, j0, h⟩ := bsome h
 refine EL_do .plain rfl (D_call (g := g0) (vs := [up0, (.func (.func ff1) fa1 fc1)]) en89 (.cons rfl (.cons rfl .nil)) (wk89 rp0 (FnV1.ch ⟨_, _, _, rfl, fen1, fcl1⟩ hfr.ch) j0) fun g1 w1_ v1 hs hr => ?_)
 have hfr := hfr.ext hs
 subst hr
 refine EL_in (.bool ((decide (y2 ≥ (0 : Int))))) rfl rfl rfl rfl ?_
 refine EL_at (.bool ((decide (y2 ≥ (0 : Int))))) rfl rfl ?_
 refine EL_nil (thn_n (E_ret ?_))
 obtain rfl := sinj h
 exact end1 rfl rfl (show _ = .bool ((decide (y2 ≥ (0 : Int)))) from rfl) ⟨_, hfr, rfl⟩
/-- griffe/fault.fits -/
def f65 (x0 : List Str) (x1 : List FaultSight) : Option (Bool) :=
 (f63 x1 ((fun a0 => f91 a0 x0))).bind fun y3 =>
 some ((!y3))
theorem en65 : Enters Try.prog 65 := enters_of Try.func65 (by kernel_rfl) rfl
theorem wk65 {gI : Gh} {wI : World} {x0 : List Str} {x1 : List FaultSight} {up0 : Value} (rp0 : RV gI.m wI x0 up0) {up1 : Value} (rp1 : RV gI.m wI x1 up1) {r : Bool} (h : f65 x0 x1 = some r) : Fn Try.prog 65 #[up0, up1] gI wI (fun _ _ v => v = .bool (r)) := by
 unfold f65 at h
 refine fn_of_E Try.func65 rfl (Nat.le_of_ble_eq_true rfl) fun g0 hm hfr => ?_
 have rp0 : RV g0.m wI x0 up0 := hm ▸ rp0
 have rp1 : RV g0.m wI x1 up1 := hm ▸ rp1
 show E _ 9 none _ _ _ _ _
 refine E_seq (E_region (EL_do .plain rfl (D_box (g := g0) rfl rp0 fun g1 w1 p1 hs q1 => ?_)))
 have hfr := hfr.ext hs
 have rp1 := rp1.ext hs
 refine EL_at (.bool false) rfl rfl ?_
 refine EL_nil (thn_n (E_seq (E_region (EL_mw up1 rfl rfl ?_))))
 refine EL_pur (v := (.func (.func 91) #[] #[p1])) (P_makeFunc (capf_0_1 (show ev _ _ = p1 from rfl))) .plain rfl ?_
 obtain ⟨y3, j0, h⟩ := bsome h
 refine EL_do .plain rfl (D_call (g := g1) (vs := [up1, (.func (.func 91) #[] #[p1])]) en63 (.cons rfl (.cons rfl .nil)) (wk63 rp1 ⟨91, #[], #[p1], rfl, en91, fun g' w' hch a0 b0 r hu0 hr => by exact Fn.mono (wk91 hu0 (q1.ch hch) hr) fun _ _ _ h => RV_bool.2 h⟩ j0) fun g2 w2_ v2 hs hr => ?_)
 have hfr := hfr.ext hs
 subst hr
 refine EL_pur (v := .bool (!y3)) (P_not rfl) .plain rfl ?_
 refine EL_at (.bool (!y3)) rfl rfl ?_
 refine EL_nil (thn_n (E_ret ?_))
 obtain rfl := sinj h
 exact end1 rfl rfl (show _ = .bool (!y3) from rfl) ⟨_, hfr, rfl⟩
/-- griffe/grifferef03.Check -/
def f66 (x0 : TieHarness) : Option (Int) :=
 jn (σ := Unit) (fun (_ : Unit) =>
  jn (σ := Unit) (fun (_ : Unit) =>
   jn (σ := Unit) (fun (_ : Unit) =>
    jn (σ := Unit) (fun (_ : Unit) =>
     some ((0 : Int))
     ) fun x4 =>
    lp (σ := Int) (fun z4 j0 =>
     jn (σ := Unit) (fun (_ : Unit) =>
      jn (σ := Unit) (fun (_ : Unit) =>
       z4 ((w64 (j0 + (1 : Int))))
       ) fun q3 =>
      (idx ((x0).Warps) j0).bind fun u0 =>
      (f92 u0 ((0 : Int)) ((w64 ((x0).Hooks - (1 : Int))))).bind fun o0 =>
      bif (!o0) then
       some ((2 : Int))
      else
       q3 ()
      ) fun c5 =>
     bif (decide (j0 < (((x0).Warps).length : Int))) then
      c5 ()
     else
      x4 ()
     ) big ((0 : Int))
    ) fun d5 =>
   bif ((((x0).Warps).length : Int) == (0 : Int)) then
    some ((7 : Int))
   else
    d5 ()
   ) fun i5 =>
  bif (decide ((((x0).Warps).length : Int) > (96 : Int))) then
   some ((5 : Int))
  else
   i5 ()
  ) fun k7 =>
 (f92 ((x0).Hooks) ((1 : Int)) ((24 : Int))).bind fun y11 =>
 bif (!y11) then
  some ((2 : Int))
 else
  k7 ()
theorem en66 : Enters Try.prog 66 := enters_of Try.func66 (by kernel_rfl) rfl
theorem wk66 {gI : Gh} {wI : World} {x0 : TieHarness} {up0 : Value} (rp0 : RV gI.m wI x0 up0) {r : Int} (h : f66 x0 = some r) : Fn Try.prog 66 #[up0] gI wI (fun _ _ v => v = .int .i64 (r)) := by
 unfold f66 at h
 refine fn_of_E Try.func66 rfl (Nat.le_of_ble_eq_true rfl) fun g0 hm hfr => ?_
 have rp0 : RV g0.m wI x0 up0 := hm ▸ rp0
 show E _ 33 none _ _ _ _ _
 refine E_seq (E_region (EL_do .plain rfl (D_box (g := g0) rfl rp0 fun g1 w1 p1 hs q1 => ?_)))
 have hfr := hfr.ext hs
 refine EL_at (.int .i64 (0)) rfl rfl ?_
 refine EL_nil (thn_n (E_joinC h (fun (s : Unit) e w => ∃ (g : Gh) , Fr gI wI g w ∧ e 1 = p1 ∧ PT g.m w (x0 : TieHarness) p1) (fun X7 k7 d6 h => ?_) ?_))
 ·refine E_seq (E_region (EL_pur (v := fPtr p1 0) (P_fieldAddr at_24_0 rfl (PT.ptr q1)) .plain rfl ?_))
  have q8 := PT_field (part_TieHarness_0).1 q1
  refine EL_do .plain rfl (D_load (g := g1) Try.isAgg3 Try.sizeOf3 rfl q8 fun v9 r9 => ?_)
  obtain rfl := RV_int.1 r9
  obtain ⟨y11, m5, h⟩ := bsome h
  refine EL_do .plain rfl (D_call (g := g1) (vs := [.int .i64 ((x0).Hooks), .int .i64 (1), .int .i64 (24)]) en92 (.cons rfl (.cons rfl (.cons rfl .nil))) (wk92  m5) fun e6 t6 j7 hs hr => ?_)
  have hfr := hfr.ext hs
  have q1 := q1.ext hs
  subst hr
  refine EL_pur (v := .bool (!y11)) (P_not rfl) .plain rfl ?_
  refine EL_nil (thn_n ?_)
  rcases csome h with ⟨i2, h⟩ | ⟨i2, h⟩
  ·refine E_ct i2 rfl ?_
   refine E_seq (E_region (EL_at (.int .i64 (2)) rfl rfl ?_))
   refine EL_nil (thn_n (E_ret (thn_r ?_)))
   obtain rfl := sinj h
   exact end1 rfl rfl (show _ = .int .i64 (2) from rfl) ⟨_, hfr, rfl⟩
  ·refine E_cf i2 rfl ?_
   exact E_skip (thn_n (d6 () _ _ ⟨e6, hfr, rfl, q1⟩ h))
 ·rintro _ u6 l7 ⟨j5, hfr, z2, y0⟩ h
  refine E_joinC h (fun (s : Unit) e w => ∃ (g : Gh) , Fr gI wI g w ∧ e 1 = p1 ∧ PT g.m w (x0 : TieHarness) p1) (fun X17 i5 n5 h => ?_) ?_
  ·refine E_seq (E_region (EL_pur (v := fPtr p1 1) (P_fieldAddr at_24_1 z2 (PT.ptr y0)) .plain rfl ?_))
   have i6 := PT_field (part_TieHarness_1).1 y0
   refine EL_do .plain rfl (D_load (g := j5) Try.isAgg22 Try.sizeOf22 rfl i6 fun m7 j6 => ?_)
   refine EL_pur (v := .int .i64 (((x0).Warps).length : Int)) (P_len Try.underlying22 rfl j6) .plain rfl ?_
   refine EL_pur (v := .bool ((decide ((((x0).Warps).length : Int) > (96 : Int))))) (P_int rfl rfl rfl) .plain rfl ?_
   refine EL_nil (thn_n ?_)
   rcases csome h with ⟨j2, h⟩ | ⟨j2, h⟩
   ·refine E_ct j2 rfl ?_
    refine E_seq (E_region (EL_at (.int .i64 (5)) rfl rfl ?_))
    refine EL_nil (thn_n (E_ret (thn_r ?_)))
    obtain rfl := sinj h
    exact end1 rfl rfl (show _ = .int .i64 (5) from rfl) ⟨_, hfr, rfl⟩
   ·refine E_cf j2 rfl ?_
    exact E_skip (thn_n (n5 () _ _ ⟨j5, hfr, z2, y0⟩ h))
  ·rintro _ v6 n7 ⟨l5, hfr, d3, i1⟩ h
   refine E_joinC h (fun (s : Unit) e w => ∃ (g : Gh) , Fr gI wI g w ∧ e 1 = p1 ∧ PT g.m w (x0 : TieHarness) p1) (fun X25 d5 o5 h => ?_) ?_
   ·refine E_seq (E_region (EL_pur (v := fPtr p1 1) (P_fieldAddr at_24_1 d3 (PT.ptr i1)) .plain rfl ?_))
    have k6 := PT_field (part_TieHarness_1).1 i1
    refine EL_do .plain rfl (D_load (g := l5) Try.isAgg22 Try.sizeOf22 rfl k6 fun o7 l6 => ?_)
    refine EL_pur (v := .int .i64 (((x0).Warps).length : Int)) (P_len Try.underlying22 rfl l6) .plain rfl ?_
    refine EL_in (.bool (((((x0).Warps).length : Int) == (0 : Int)))) rfl rfl rfl rfl ?_
    refine EL_nil (thn_n ?_)
    rcases csome h with ⟨q2, h⟩ | ⟨q2, h⟩
    ·refine E_ct q2 rfl ?_
     refine E_seq (E_region (EL_at (.int .i64 (7)) rfl rfl ?_))
     refine EL_nil (thn_n (E_ret (thn_r ?_)))
     obtain rfl := sinj h
     exact end1 rfl rfl (show _ = .int .i64 (7) from rfl) ⟨_, hfr, rfl⟩
    ·refine E_cf q2 rfl ?_
     exact E_skip (thn_n (o5 () _ _ ⟨l5, hfr, d3, i1⟩ h))
   ·rintro _ x6 p7 ⟨m6, hfr, j4, m4⟩ h
    refine E_joinC h (fun (s : Unit) e w => ∃ (g : Gh) , Fr gI wI g w) (fun X88 x4 p5 h => ?_) ?_
    ·refine E_seq (E_region (EL_at (.int .i64 (0)) rfl rfl ?_))
     refine EL_nil (thn_n (E_block ?_))
     refine E_lp h (fun (s : Int) e w => ∃ (g : Gh) , Fr gI wI g w ∧ e 1 = p1 ∧ PT g.m w (x0 : TieHarness) p1 ∧ e 3 = .int .i64 (s)) ⟨m6, hfr, j4, m4, rfl⟩ (fun X89 z4 q5 => ?_)
     rintro j0 y6 q7 ⟨s3, hfr, i3, j1, j3⟩ h
     refine E_joinC h (fun (s : Unit) e w => ∃ (g : Gh) , Fr gI wI g w ∧ e 1 = p1 ∧ PT g.m w (x0 : TieHarness) p1 ∧ e 3 = .int .i64 (j0)) (fun X94 c5 t5 h => ?_) ?_
     ·refine E_seq (E_region (EL_mv j3 rfl ?_))
      refine EL_pur (v := fPtr p1 1) (P_fieldAddr at_24_1 i3 (PT.ptr j1)) .plain rfl ?_
      have n6 := PT_field (part_TieHarness_1).1 j1
      refine EL_do .plain rfl (D_load (g := s3) Try.isAgg22 Try.sizeOf22 rfl n6 fun r7 o6 => ?_)
      refine EL_pur (v := .int .i64 (((x0).Warps).length : Int)) (P_len Try.underlying22 rfl o6) .plain rfl ?_
      refine EL_pur (v := .bool ((decide (j0 < (((x0).Warps).length : Int))))) (P_int rfl rfl rfl) .plain rfl ?_
      refine EL_nil (thn_n ?_)
      rcases csome h with ⟨s2, h⟩ | ⟨s2, h⟩
      ·refine E_ct s2 rfl ?_
       exact E_skip (thn_n (t5 () _ _ ⟨s3, hfr, i3, j1, j3⟩ h))
      ·refine E_cf s2 rfl ?_
       refine E_exit ?_
       refine thn_e ?_
       refine thn_e ?_
       refine blk_hit ?_
       exact thn_n (p5 () _ _ ⟨s3, hfr⟩ h)
     ·rintro _ z6 t7 ⟨p6, hfr, z1, n0, o3⟩ h
      refine E_joinC h (fun (s : Unit) e w => ∃ (g : Gh) , Fr gI wI g w ∧ e 1 = p1 ∧ PT g.m w (x0 : TieHarness) p1 ∧ e 3 = .int .i64 (j0)) (fun X122 q3 n4 h => ?_) ?_
      ·refine E_block ?_
       refine E_seq ?_
       have u5 := PT_field (part_TieHarness_1).1 n0
       refine L_load (x := .tmp 23) Try.isAgg22 Try.sizeOf22 u5 fun u3 z3 o4 => ?_
       obtain ⟨u0, p3, h⟩ := bsome h
       have x5 := PT_idx z3 p3
       refine L_load (x := .tmp 26) Try.isAgg3 Try.sizeOf3 x5 fun a7 y5 p4 => ?_
       obtain rfl := RV_int.1 y5
       have z5 := PT_field (part_TieHarness_0).1 n0
       refine L_load (x := .tmp 28) Try.isAgg3 Try.sizeOf3 z5 fun b7 a6 q4 => ?_
       obtain rfl := RV_int.1 a6
       obtain ⟨o0, u4, h⟩ := bsome h
       refine E_drawL (g := p6) (n := 10) [(8, (fun v g w => v = .bool (o0)))] [0, 1, 2, 3, 4, 5, 6, 7, 8, 9] rfl mixed (by kernel_rfl) (⟨fun _ => up_eq _, trivial⟩) ?_
       refine L_pur (c := fPtr p1 1) rfl rfl .plain (fun _ _ hd => P_fieldAddr at_24_1 z1 (PT.ptr n0)) ?_
       refine L_ld (c := u3) rfl rfl .plain (fun _ _ h => h.ch) o4 rfl ?_
       refine L_pur (c := .int .i64 (j0)) rfl rfl .plain (fun _ _ hd => P_move o3) ?_
       refine L_pur (c := ePtr u3 j0 1) rfl rfl .plain (fun _ _ hd => P_indexAddr (α := Int) Try.underlying22 Try.sizeOf3 rfl z3 rfl p3) ?_
       refine L_ld (c := .int .i64 (u0)) rfl rfl .plain (fun _ _ h => h.ch) p4 rfl ?_
       refine L_pur (c := fPtr p1 0) rfl rfl .plain (fun _ _ hd => P_fieldAddr at_24_0 z1 (PT.ptr n0)) ?_
       refine L_ld (c := .int .i64 ((x0).Hooks)) rfl rfl .plain (fun _ _ h => h.ch) q4 rfl ?_
       refine L_pur (c := .int .i64 ((w64 ((x0).Hooks - (1 : Int))))) rfl rfl .plain (fun _ _ hd => P_int rfl rfl rfl) ?_
       refine L_do (φ := fun v g w => v = .bool (o0)) rfl rfl .plain (fun g w hd => D_call (g := g) (vs := [.int .i64 (u0), .int .i64 (0), .int .i64 ((w64 ((x0).Hooks - (1 : Int))))]) en92 (.cons rfl (.cons rfl (.cons rfl .nil))) (wk92  u4) fun g' w' v hs hr => ⟨g', hs, hr⟩) (fun c7 hv => ?_)
       obtain ⟨_, _, _, rfl⟩ := hv
       refine L_pur (c := .bool (!o0)) rfl rfl .plain (fun _ _ hd => P_not rfl) ?_
       refine L_nil fun b6 d7 hall => ?_
       have hs := hall.1
       have hfr := hfr.ext hs
       have n0 := n0.ext hs
       clear hs hall
       refine EL_nil (thn_n ?_)
       rcases csome h with ⟨d2, h⟩ | ⟨d2, h⟩
       ·refine E_ct d2 rfl ?_
        refine E_seq (E_region (EL_at (.int .i64 (2)) rfl rfl ?_))
        refine EL_nil (thn_n (E_ret (blk_r ?_)))
        refine thn_r ?_
        refine thn_r ?_
        refine blk_r ?_
        refine thn_r ?_
        obtain rfl := sinj h
        exact end1 rfl rfl (show _ = .int .i64 (2) from rfl) ⟨_, hfr, rfl⟩
       ·refine E_cf d2 rfl ?_
        exact E_skip (blk_n (thn_n (n4 () _ _ ⟨b6, hfr, z1, n0, o3⟩ h)))
      ·rintro _ q6 e7 ⟨c6, hfr, c4, d4, i4⟩ h
       refine E_region (EL_mv i4 rfl ?_)
       refine EL_in (.int .i64 ((w64 (j0 + (1 : Int))))) rfl rfl rfl rfl ?_
       refine EL_at (.int .i64 ((w64 (j0 + (1 : Int))))) rfl rfl ?_
       exact EL_nil (thn_n (q5 ((w64 (j0 + (1 : Int)))) _ _ ⟨c6, hfr, c4, d4, rfl⟩ h))
    ·rintro _ r6 g7 ⟨i7, hfr⟩ h
     refine E_seq (E_region (EL_at (.int .i64 (0)) rfl rfl ?_))
     refine EL_nil (thn_n (E_ret ?_))
     obtain rfl := sinj h
     exact end1 rfl rfl (show _ = .int .i64 (0) from rfl) ⟨_, hfr, rfl⟩
/-- griffe/grifferef01.Check -/
def f67 (x0 : Design) : Option (Int) :=
 jn (σ := Unit) (fun (_ : Unit) =>
  jn (σ := Unit) (fun (_ : Unit) =>
   jn (σ := Unit) (fun (_ : Unit) =>
    jn (σ := Unit) (fun (_ : Unit) =>
     some ((0 : Int))
     ) fun i5 =>
    lp (σ := Int) (fun j5 j0 =>
     jn (σ := Unit) (fun (_ : Unit) =>
      jn (σ := Unit) (fun (_ : Unit) =>
       j5 ((w64 (j0 + (1 : Int))))
       ) fun s3 =>
      (idx ((x0).Rows) j0).bind fun i1 =>
      (shl64 (1 : Int) (wu64 (x0).Hooks)).bind fun o0 =>
      (f93 i1 ((0 : Int)) ((w64 (o0 - (1 : Int))))).bind fun u0 =>
      bif (!u0) then
       some ((2 : Int))
      else
       s3 ()
      ) fun u3 =>
     bif (decide (j0 < (((x0).Rows).length : Int))) then
      u3 ()
     else
      i5 ()
     ) big ((0 : Int))
    ) fun l5 =>
   bif ((((x0).Rows).length : Int) == (0 : Int)) then
    some ((7 : Int))
   else
    l5 ()
   ) fun m5 =>
  bif (decide ((((x0).Rows).length : Int) > (60 : Int))) then
   some ((5 : Int))
  else
   m5 ()
  ) fun k7 =>
 (f93 ((x0).Hooks) ((1 : Int)) ((24 : Int))).bind fun y11 =>
 bif (!y11) then
  some ((2 : Int))
 else
  k7 ()
theorem en67 : Enters Try.prog 67 := enters_of Try.func67 (by kernel_rfl) rfl
theorem wk67 {gI : Gh} {wI : World} {x0 : Design} {up0 : Value} (rp0 : RV gI.m wI x0 up0) {r : Int} (h : f67 x0 = some r) : Fn Try.prog 67 #[up0] gI wI (fun _ _ v => v = .int .i64 (r)) := by
 unfold f67 at h
 refine fn_of_E Try.func67 rfl (Nat.le_of_ble_eq_true rfl) fun g0 hm hfr => ?_
 have rp0 : RV g0.m wI x0 up0 := hm ▸ rp0
 show E _ 35 none _ _ _ _ _
 refine E_seq (E_region (EL_do .plain rfl (D_box (g := g0) rfl rp0 fun g1 w1 p1 hs q1 => ?_)))
 have hfr := hfr.ext hs
 refine EL_at (.int .i64 (0)) rfl rfl ?_
 refine EL_nil (thn_n (E_joinC h (fun (s : Unit) e w => ∃ (g : Gh) , Fr gI wI g w ∧ e 1 = p1 ∧ PT g.m w (x0 : Design) p1) (fun X7 k7 l6 h => ?_) ?_))
 ·refine E_seq (E_region (EL_pur (v := fPtr p1 0) (P_fieldAddr at_26_0 rfl (PT.ptr q1)) .plain rfl ?_))
  have q8 := PT_field (part_Design_0).1 q1
  refine EL_do .plain rfl (D_load (g := g1) Try.isAgg3 Try.sizeOf3 rfl q8 fun v9 r9 => ?_)
  obtain rfl := RV_int.1 r9
  obtain ⟨y11, p5, h⟩ := bsome h
  refine EL_do .plain rfl (D_call (g := g1) (vs := [.int .i64 ((x0).Hooks), .int .i64 (1), .int .i64 (24)]) en93 (.cons rfl (.cons rfl (.cons rfl .nil))) (wk93  p5) fun m6 x6 o7 hs hr => ?_)
  have hfr := hfr.ext hs
  have q1 := q1.ext hs
  subst hr
  refine EL_pur (v := .bool (!y11)) (P_not rfl) .plain rfl ?_
  refine EL_nil (thn_n ?_)
  rcases csome h with ⟨s2, h⟩ | ⟨s2, h⟩
  ·refine E_ct s2 rfl ?_
   refine E_seq (E_region (EL_at (.int .i64 (2)) rfl rfl ?_))
   refine EL_nil (thn_n (E_ret (thn_r ?_)))
   obtain rfl := sinj h
   exact end1 rfl rfl (show _ = .int .i64 (2) from rfl) ⟨_, hfr, rfl⟩
  ·refine E_cf s2 rfl ?_
   exact E_skip (thn_n (l6 () _ _ ⟨m6, hfr, rfl, q1⟩ h))
 ·rintro _ y6 p7 ⟨n5, hfr, i3, j1⟩ h
  refine E_joinC h (fun (s : Unit) e w => ∃ (g : Gh) , Fr gI wI g w ∧ e 1 = p1 ∧ PT g.m w (x0 : Design) p1) (fun X17 m5 q5 h => ?_) ?_
  ·refine E_seq (E_region (EL_pur (v := fPtr p1 1) (P_fieldAddr at_26_1 i3 (PT.ptr j1)) .plain rfl ?_))
   have n6 := PT_field (part_Design_1).1 j1
   refine EL_do .plain rfl (D_load (g := n5) Try.isAgg22 Try.sizeOf22 rfl n6 fun q7 o6 => ?_)
   refine EL_pur (v := .int .i64 (((x0).Rows).length : Int)) (P_len Try.underlying22 rfl o6) .plain rfl ?_
   refine EL_pur (v := .bool ((decide ((((x0).Rows).length : Int) > (60 : Int))))) (P_int rfl rfl rfl) .plain rfl ?_
   refine EL_nil (thn_n ?_)
   rcases csome h with ⟨z2, h⟩ | ⟨z2, h⟩
   ·refine E_ct z2 rfl ?_
    refine E_seq (E_region (EL_at (.int .i64 (5)) rfl rfl ?_))
    refine EL_nil (thn_n (E_ret (thn_r ?_)))
    obtain rfl := sinj h
    exact end1 rfl rfl (show _ = .int .i64 (5) from rfl) ⟨_, hfr, rfl⟩
   ·refine E_cf z2 rfl ?_
    exact E_skip (thn_n (q5 () _ _ ⟨n5, hfr, i3, j1⟩ h))
  ·rintro _ z6 r7 ⟨o5, hfr, j3, z1⟩ h
   refine E_joinC h (fun (s : Unit) e w => ∃ (g : Gh) , Fr gI wI g w ∧ e 1 = p1 ∧ PT g.m w (x0 : Design) p1) (fun X25 l5 t5 h => ?_) ?_
   ·refine E_seq (E_region (EL_pur (v := fPtr p1 1) (P_fieldAddr at_26_1 j3 (PT.ptr z1)) .plain rfl ?_))
    have p6 := PT_field (part_Design_1).1 z1
    refine EL_do .plain rfl (D_load (g := o5) Try.isAgg22 Try.sizeOf22 rfl p6 fun t7 q6 => ?_)
    refine EL_pur (v := .int .i64 (((x0).Rows).length : Int)) (P_len Try.underlying22 rfl q6) .plain rfl ?_
    refine EL_in (.bool (((((x0).Rows).length : Int) == (0 : Int)))) rfl rfl rfl rfl ?_
    refine EL_nil (thn_n ?_)
    rcases csome h with ⟨d3, h⟩ | ⟨d3, h⟩
    ·refine E_ct d3 rfl ?_
     refine E_seq (E_region (EL_at (.int .i64 (7)) rfl rfl ?_))
     refine EL_nil (thn_n (E_ret (thn_r ?_)))
     obtain rfl := sinj h
     exact end1 rfl rfl (show _ = .int .i64 (7) from rfl) ⟨_, hfr, rfl⟩
    ·refine E_cf d3 rfl ?_
     exact E_skip (thn_n (t5 () _ _ ⟨o5, hfr, j3, z1⟩ h))
   ·rintro _ a7 u7 ⟨r6, hfr, n4, o4⟩ h
    refine E_joinC h (fun (s : Unit) e w => ∃ (g : Gh) , Fr gI wI g w) (fun X94 i5 u5 h => ?_) ?_
    ·refine E_seq (E_region (EL_at (.int .i64 (0)) rfl rfl ?_))
     refine EL_nil (thn_n (E_block ?_))
     refine E_lp h (fun (s : Int) e w => ∃ (g : Gh) , Fr gI wI g w ∧ e 1 = p1 ∧ PT g.m w (x0 : Design) p1 ∧ e 3 = .int .i64 (s)) ⟨r6, hfr, n4, o4, rfl⟩ (fun X95 j5 x5 => ?_)
     rintro j0 b7 v7 ⟨z3, hfr, o3, d2, p3⟩ h
     refine E_joinC h (fun (s : Unit) e w => ∃ (g : Gh) , Fr gI wI g w ∧ e 1 = p1 ∧ PT g.m w (x0 : Design) p1 ∧ e 3 = .int .i64 (j0)) (fun X100 u3 p4 h => ?_) ?_
     ·refine E_seq (E_region (EL_mv p3 rfl ?_))
      refine EL_pur (v := fPtr p1 1) (P_fieldAddr at_26_1 o3 (PT.ptr d2)) .plain rfl ?_
      have y5 := PT_field (part_Design_1).1 d2
      refine EL_do .plain rfl (D_load (g := z3) Try.isAgg22 Try.sizeOf22 rfl y5 fun c7 z5 => ?_)
      refine EL_pur (v := .int .i64 (((x0).Rows).length : Int)) (P_len Try.underlying22 rfl z5) .plain rfl ?_
      refine EL_pur (v := .bool ((decide (j0 < (((x0).Rows).length : Int))))) (P_int rfl rfl rfl) .plain rfl ?_
      refine EL_nil (thn_n ?_)
      rcases csome h with ⟨i2, h⟩ | ⟨i2, h⟩
      ·refine E_ct i2 rfl ?_
       exact E_skip (thn_n (p4 () _ _ ⟨z3, hfr, o3, d2, p3⟩ h))
      ·refine E_cf i2 rfl ?_
       refine E_exit ?_
       refine thn_e ?_
       refine thn_e ?_
       refine blk_hit ?_
       exact thn_n (u5 () _ _ ⟨z3, hfr⟩ h)
     ·rintro _ t6 d7 ⟨a6, hfr, y0, n0, q2⟩ h
      refine E_joinC h (fun (s : Unit) e w => ∃ (g : Gh) , Fr gI wI g w ∧ e 1 = p1 ∧ PT g.m w (x0 : Design) p1 ∧ e 3 = .int .i64 (j0)) (fun X131 s3 q4 h => ?_) ?_
      ·refine E_block ?_
       refine E_seq ?_
       have b6 := PT_field (part_Design_1).1 n0
       refine L_load (x := .tmp 23) Try.isAgg22 Try.sizeOf22 b6 fun c4 d4 u4 => ?_
       obtain ⟨i1, q3, h⟩ := bsome h
       have c6 := PT_idx d4 q3
       refine L_load (x := .tmp 26) Try.isAgg3 Try.sizeOf3 c6 fun e7 d6 x4 => ?_
       obtain rfl := RV_int.1 d6
       have e6 := PT_field (part_Design_0).1 n0
       refine L_load (x := .tmp 28) Try.isAgg3 Try.sizeOf3 e6 fun g7 i6 z4 => ?_
       obtain rfl := RV_int.1 i6
       obtain ⟨o0, c5, h⟩ := bsome h
       obtain ⟨u0, d5, h⟩ := bsome h
       refine E_drawL (g := a6) (n := 12) [(10, (fun v g w => v = .bool (u0)))] [0, 1, 2, 3, 4, 5, 6, 7, 8, 9, 10, 11] rfl mixed (by kernel_rfl) (⟨fun _ => up_eq _, trivial⟩) ?_
       refine L_pur (c := fPtr p1 1) rfl rfl .plain (fun _ _ hd => P_fieldAddr at_26_1 y0 (PT.ptr n0)) ?_
       refine L_ld (c := c4) rfl rfl .plain (fun _ _ h => h.ch) u4 rfl ?_
       refine L_pur (c := .int .i64 (j0)) rfl rfl .plain (fun _ _ hd => P_move q2) ?_
       refine L_pur (c := ePtr c4 j0 1) rfl rfl .plain (fun _ _ hd => P_indexAddr (α := Int) Try.underlying22 Try.sizeOf3 rfl d4 rfl q3) ?_
       refine L_ld (c := .int .i64 (i1)) rfl rfl .plain (fun _ _ h => h.ch) x4 rfl ?_
       refine L_pur (c := fPtr p1 0) rfl rfl .plain (fun _ _ hd => P_fieldAddr at_26_0 y0 (PT.ptr n0)) ?_
       refine L_ld (c := .int .i64 ((x0).Hooks)) rfl rfl .plain (fun _ _ h => h.ch) z4 rfl ?_
       refine L_pur (c := .int .u64 (wu64 (x0).Hooks)) rfl rfl .plain (fun _ _ hd => P_intu64 Try.underlying3 Try.underlying121 rfl) ?_
       refine L_pur (c := .int .i64 (o0)) rfl rfl .plain (fun _ _ hd => P_shlu rfl rfl c5) ?_
       refine L_pur (c := .int .i64 ((w64 (o0 - (1 : Int))))) rfl rfl .plain (fun _ _ hd => P_int rfl rfl rfl) ?_
       refine L_do (φ := fun v g w => v = .bool (u0)) rfl rfl .plain (fun g w hd => D_call (g := g) (vs := [.int .i64 (i1), .int .i64 (0), .int .i64 ((w64 (o0 - (1 : Int))))]) en93 (.cons rfl (.cons rfl (.cons rfl .nil))) (wk93  d5) fun g' w' v hs hr => ⟨g', hs, hr⟩) (fun i7 hv => ?_)
       obtain ⟨_, _, _, rfl⟩ := hv
       refine L_pur (c := .bool (!u0)) rfl rfl .plain (fun _ _ hd => P_not rfl) ?_
       refine L_nil fun j6 j7 hall => ?_
       have hs := hall.1
       have hfr := hfr.ext hs
       have n0 := n0.ext hs
       clear hs hall
       refine EL_nil (thn_n ?_)
       rcases csome h with ⟨j2, h⟩ | ⟨j2, h⟩
       ·refine E_ct j2 rfl ?_
        refine E_seq (E_region (EL_at (.int .i64 (2)) rfl rfl ?_))
        refine EL_nil (thn_n (E_ret (blk_r ?_)))
        refine thn_r ?_
        refine thn_r ?_
        refine blk_r ?_
        refine thn_r ?_
        obtain rfl := sinj h
        exact end1 rfl rfl (show _ = .int .i64 (2) from rfl) ⟨_, hfr, rfl⟩
       ·refine E_cf j2 rfl ?_
        exact E_skip (blk_n (thn_n (q4 () _ _ ⟨j6, hfr, y0, n0, q2⟩ h)))
      ·rintro _ u6 l7 ⟨k6, hfr, i4, j4, m4⟩ h
       refine E_region (EL_mv m4 rfl ?_)
       refine EL_in (.int .i64 ((w64 (j0 + (1 : Int))))) rfl rfl rfl rfl ?_
       refine EL_at (.int .i64 ((w64 (j0 + (1 : Int))))) rfl rfl ?_
       exact EL_nil (thn_n (x5 ((w64 (j0 + (1 : Int)))) _ _ ⟨k6, hfr, i4, j4, rfl⟩ h))
    ·rintro _ v6 m7 ⟨n7, hfr⟩ h
     refine E_seq (E_region (EL_at (.int .i64 (0)) rfl rfl ?_))
     refine EL_nil (thn_n (E_ret ?_))
     obtain rfl := sinj h
     exact end1 rfl rfl (show _ = .int .i64 (0) from rfl) ⟨_, hfr, rfl⟩
/-- griffe/fault.Groups$1 -/
def f70 (x0 : List Int) (z0 : List (List Str)) (z1 : List Str) : Option (Bool) :=
 (idx x0 (0 : Int)).bind fun y2 =>
 (idx z0 y2).bind fun y5 =>
 (f71 y5 z1).bind fun j0 =>
 some (j0)
theorem en70 : Enters Try.prog 70 := enters_of Try.func70 (by kernel_rfl) rfl
theorem wk70 {gI : Gh} {wI : World} {x0 : List Int} {z0 : List (List Str)} {z1 : List Str} {up0 : Value} (rp0 : RV gI.m wI x0 up0) {pf0 : Value} (qf0 : PT gI.m wI z0 pf0) {pf1 : Value} (qf1 : PT gI.m wI z1 pf1) {r : Bool} (h : f70 x0 z0 z1 = some r) : Fn Try.prog 70 #[up0, pf0, pf1] gI wI (fun _ _ v => v = .bool (r)) := by
 unfold f70 at h
 refine fn_of_E Try.func70 rfl (Nat.le_of_ble_eq_true rfl) fun g0 hm hfr => ?_
 have qf0 : PT g0.m wI z0 pf0 := hm ▸ qf0
 have qf1 : PT g0.m wI z1 pf1 := hm ▸ qf1
 have rp0 : RV g0.m wI x0 up0 := hm ▸ rp0
 show E _ 13 none _ _ _ _ _
 refine E_seq (E_region (EL_at (.bool false) rfl rfl ?_))
 refine EL_nil (thn_n (E_seq (L_load (x := .tmp 1) Try.isAgg78 Try.sizeOf78 qf0 fun v1 r1 hl1 => ?_)))
 obtain ⟨y2, n0, h⟩ := bsome h
 have q3 := PT_idx rp0 n0
 refine L_load (x := .tmp 7) Try.isAgg3 Try.sizeOf3 q3 fun v4 r4 y0 => ?_
 obtain rfl := RV_int.1 r4
 obtain ⟨y5, o0, h⟩ := bsome h
 have q6 := PT_idx r1 o0
 refine L_load (x := .tmp 9) Try.isAgg36 Try.sizeOf36 q6 fun v7 r7 i1 => ?_
 refine L_load (x := .tmp 2) Try.isAgg36 Try.sizeOf36 qf1 fun v8 r8 j1 => ?_
 obtain ⟨j0, u0, h⟩ := bsome h
 refine E_drawL (g := g0) (n := 9) [(7, (fun v g w => v = .bool (j0)))] [0, 1, 2, 3, 4, 5, 6, 7, 8] rfl mixed (by kernel_rfl) (⟨fun _ => up_eq _, trivial⟩) ?_
 refine L_ld (c := v1) rfl rfl .plain (fun _ _ h => h.ch) hl1 rfl ?_
 refine L_pur (c := up0) rfl rfl .plain (fun _ _ hd => P_move rfl) ?_
 refine L_pur (c := ePtr up0 (0 : Int) 1) rfl rfl .plain (fun _ _ hd => P_indexAddr (α := Int) Try.underlying22 Try.sizeOf3 rfl rp0 rfl n0) ?_
 refine L_ld (c := .int .i64 (y2)) rfl rfl .plain (fun _ _ h => h.ch) y0 rfl ?_
 refine L_pur (c := ePtr v1 y2 1) rfl rfl .plain (fun _ _ hd => P_indexAddr (α := List Str) Try.underlying78 Try.sizeOf36 rfl r1 rfl o0) ?_
 refine L_ld (c := v7) rfl rfl .plain (fun _ _ h => h.ch) i1 rfl ?_
 refine L_ld (c := v8) rfl rfl .plain (fun _ _ h => h.ch) j1 rfl ?_
 refine L_do (φ := fun v g w => v = .bool (j0)) rfl rfl .plain (fun g w hd => D_call (g := g) (vs := [v7, v8]) en71 (.cons rfl (.cons rfl .nil)) (wk71 (r7.ext hd.1) (r8.ext hd.1) u0) fun g' w' v hs hr => ⟨g', hs, hr⟩) (fun v9 hv => ?_)
 obtain ⟨_, _, _, rfl⟩ := hv
 refine L_pur (c := .bool (j0)) rfl rfl .plain (fun _ _ hd => P_assign rfl) ?_
 refine L_nil fun d2 i2 hall => ?_
 have hs := hall.1
 have hfr := hfr.ext hs
 clear hs hall
 refine EL_nil (thn_n (E_ret ?_))
 obtain rfl := sinj h
 exact end1 rfl rfl (show _ = .bool (j0) from rfl) ⟨_, hfr, rfl⟩
/-- (griffe/fault.loom).round$1 -/
def f79 (x0 : FaultDamage) (x1 : FaultDamage) : Option (Int) :=
 (f80 ((x0).Kind)).bind fun y6 =>
 (f80 ((x1).Kind)).bind fun j0 =>
 some ((w64 (y6 - j0)))
theorem en79 : Enters Try.prog 79 := enters_of Try.func79 (by kernel_rfl) rfl
theorem wk79 {gI : Gh} {wI : World} {x0 : FaultDamage} {x1 : FaultDamage} {up0 : Value} (rp0 : RV gI.m wI x0 up0) {up1 : Value} (rp1 : RV gI.m wI x1 up1) {r : Int} (h : f79 x0 x1 = some r) : Fn Try.prog 79 #[up0, up1] gI wI (fun _ _ v => v = .int .i64 (r)) := by
 unfold f79 at h
 refine fn_of_E Try.func79 rfl (Nat.le_of_ble_eq_true rfl) fun g0 hm hfr => ?_
 have rp0 : RV g0.m wI x0 up0 := hm ▸ rp0
 have rp1 : RV g0.m wI x1 up1 := hm ▸ rp1
 show E _ 12 none _ _ _ _ _
 refine E_seq (E_region (EL_do .plain rfl (D_box (g := g0) rfl rp0 fun g1 w1 p1 hs q1 => ?_)))
 have hfr := hfr.ext hs
 have rp1 := rp1.ext hs
 refine EL_do .plain rfl (D_box (g := g1) rfl rp1 fun g2 w2 p2 hs q2 => ?_)
 have hfr := hfr.ext hs
 have q1 := q1.ext hs
 refine EL_at (.int .i64 (0)) rfl rfl ?_
 refine EL_nil (thn_n (E_seq ?_))
 have q3 := PT_field (part_FaultDamage_0).1 q1
 refine L_load (x := .tmp 5) Try.isAgg60 Try.sizeOf60 q3 fun v4 r4 o0 => ?_
 obtain rfl := RV_int.1 r4
 obtain ⟨y6, u0, h⟩ := bsome h
 have q7 := PT_field (part_FaultDamage_0).1 q2
 refine L_load (x := .tmp 8) Try.isAgg60 Try.sizeOf60 q7 fun v8 r8 y0 => ?_
 obtain rfl := RV_int.1 r8
 obtain ⟨j0, n0, h⟩ := bsome h
 refine E_drawL (g := g2) (n := 8) [(2, (fun v g w => v = .int .i64 (y6))), (5, (fun v g w => v = .int .i64 (j0)))] [0, 1, 2, 3, 4, 5, 6, 7] rfl mixed (by kernel_rfl) (⟨fun _ => up_eq _, fun _ => up_eq _, trivial⟩) ?_
 refine L_pur (c := fPtr p1 0) rfl rfl .plain (fun _ _ hd => P_fieldAddr at_62_0 rfl (PT.ptr q1)) ?_
 refine L_ld (c := .int .i64 ((x0).Kind)) rfl rfl .plain (fun _ _ h => h.ch) o0 rfl ?_
 refine L_do (φ := fun v g w => v = .int .i64 (y6)) rfl rfl .plain (fun g w hd => D_call (g := g) (vs := [.int .i64 ((x0).Kind)]) en80 (.cons rfl .nil) (wk80  u0) fun g' w' v hs hr => ⟨g', hs, hr⟩) (fun v5 hv => ?_)
 obtain ⟨_, _, _, rfl⟩ := hv
 refine L_pur (c := fPtr p2 0) rfl rfl .plain (fun _ _ hd => P_fieldAddr at_62_0 rfl (PT.ptr q2)) ?_
 refine L_ld (c := .int .i64 ((x1).Kind)) rfl rfl .plain (fun _ _ h => h.ch) y0 rfl ?_
 refine L_do (φ := fun v g w => v = .int .i64 (j0)) rfl rfl .plain (fun g w hd => D_call (g := g) (vs := [.int .i64 ((x1).Kind)]) en80 (.cons rfl .nil) (wk80  n0) fun g' w' v hs hr => ⟨g', hs, hr⟩) (fun v9 hv => ?_)
 obtain ⟨_, _, _, rfl⟩ := hv
 refine L_pur (c := .int .i64 ((w64 (y6 - j0)))) rfl rfl .plain (fun _ _ hd => P_int rfl rfl rfl) ?_
 refine L_pur (c := .int .i64 ((w64 (y6 - j0)))) rfl rfl .plain (fun _ _ hd => P_assign rfl) ?_
 refine L_nil fun i1 j1 hall => ?_
 have hs := hall.1
 have hfr := hfr.ext hs
 clear hs hall
 refine EL_nil (thn_n (E_ret ?_))
 obtain rfl := sinj h
 exact end1 rfl rfl (show _ = .int .i64 ((w64 (y6 - j0))) from rfl) ⟨_, hfr, rfl⟩
/-- griffe/grifferef01.Table -/
def f85 (x0 : Design) : Option ((List (List Bool))) :=
 Option.bind (α := (List (List Bool))) (
  lp (σ := (List (List Bool)) × Int) (fun o5 (y0, j0) =>
   jn (σ := Unit) (fun (_ : Unit) =>
    Option.bind (α := (List (List Bool))) (
     (idx ((x0).Rows) j0).bind fun y104 =>
     (f103 y104 ((x0).Hooks)).bind fun n0 =>
     (apnd 24 y0 (([n0] : List (List Bool)))).bind fun z3 =>
     some (z3)
     ) fun u0 =>
    o5 (u0, (w64 (j0 + (1 : Int))))
    ) fun p5 =>
   bif (decide (j0 < (((x0).Rows).length : Int))) then
    p5 ()
   else
    some (y0)
   ) big (([] : List (List Bool)), (0 : Int))
  ) fun i1 =>
 some (i1)
theorem en85 : Enters Try.prog 85 := enters_of Try.func85 (by kernel_rfl) rfl
/-- slices.ContainsFunc[[]int,int] -/
def f87 (x0 : List Int) (x1 : Int → Option Bool) : Option (Bool) :=
 (f104 x0 x1).bind fun y2 =>
 some ((decide (y2 ≥ (0 : Int))))
theorem en87 : Enters Try.prog 87 := enters_of Try.func87 (by kernel_rfl) rfl
theorem wk87 {gI : Gh} {wI : World} {x0 : List Int} {x1 : Int → Option Bool} {up0 : Value} (rp0 : RV gI.m wI x0 up0) {up1 : Value} (rp1 : FnV1 Try.prog x1 up1 gI wI) {r : Bool} (h : f87 x0 x1 = some r) : Fn Try.prog 87 #[up0, up1] gI wI (fun _ _ v => v = .bool (r)) := by
 unfold f87 at h
 refine fn_of_E Try.func87 rfl (Nat.le_of_ble_eq_true rfl) fun g0 hm hfr => ?_
 have rp0 : RV g0.m wI x0 up0 := hm ▸ rp0
 obtain ⟨ff1, fa1, fc1, rfl, fen1, fcl1⟩ := rp1
 show E _ 9 none _ _ _ _ _
 refine E_seq (E_region (EL_at (.bool false) rfl rfl ?_))
 refine EL_nil (thn_n (E_seq (E_region (EL_mw up0 rfl rfl ?_))))
 refine EL_mw ((.func (.func ff1) fa1 fc1)) rfl rfl ?_
 obtain ⟨y2, j0, h⟩ := bsome h
 refine EL_do .plain rfl (D_call (g := g0) (vs := [up0, (.func (.func ff1) fa1 fc1)]) en104 (.cons rfl (.cons rfl .nil)) (wk104 rp0 (FnV1.ch ⟨_, _, _, rfl, fen1, fcl1⟩ hfr.ch) j0) fun g1 w1_ v1 hs hr => ?_)
 have hfr := hfr.ext hs
 subst hr
 refine EL_in (.bool ((decide (y2 ≥ (0 : Int))))) rfl rfl rfl rfl ?_
 refine EL_at (.bool ((decide (y2 ≥ (0 : Int))))) rfl rfl ?_
 refine EL_nil (thn_n (E_ret ?_))
 obtain rfl := sinj h
 exact end1 rfl rfl (show _ = .bool ((decide (y2 ≥ (0 : Int)))) from rfl) ⟨_, hfr, rfl⟩
/-- griffe/tie.within -/
def f94 (x0 : Int) (x1 : Int) (x2 : List Int) : Option (Bool) :=
 (f87 x2 ((fun a0 => f105 a0 x0 x1))).bind fun y4 =>
 some ((!y4))
theorem en94 : Enters Try.prog 94 := enters_of Try.func94 (by kernel_rfl) rfl
theorem wk94 {gI : Gh} {wI : World} {x0 : Int} {x1 : Int} {x2 : List Int} {up2 : Value} (rp2 : RV gI.m wI x2 up2) {r : Bool} (h : f94 x0 x1 x2 = some r) : Fn Try.prog 94 #[.int .i64 (x0), .int .i64 (x1), up2] gI wI (fun _ _ v => v = .bool (r)) := by
 unfold f94 at h
 refine fn_of_E Try.func94 rfl (Nat.le_of_ble_eq_true rfl) fun g0 hm hfr => ?_
 have rp2 : RV g0.m wI x2 up2 := hm ▸ rp2
 show E _ 11 none _ _ _ _ _
 refine E_seq (E_region (EL_do .plain rfl (D_box (g := g0) rfl (RV_int.2 rfl) fun g1 w1 p1 hs q1 => ?_)))
 have hfr := hfr.ext hs
 have rp2 := rp2.ext hs
 refine EL_do .plain rfl (D_box (g := g1) rfl (RV_int.2 rfl) fun g2 w2 p2 hs q2 => ?_)
 have hfr := hfr.ext hs
 have rp2 := rp2.ext hs
 have q1 := q1.ext hs
 refine EL_at (.bool false) rfl rfl ?_
 refine EL_nil (thn_n (E_seq (E_region (EL_mw up2 rfl rfl ?_))))
 refine EL_pur (v := (.func (.func 105) #[] #[p1, p2])) (P_makeFunc (capf_0_2 (show ev _ _ = p1 from rfl) (show ev _ _ = p2 from rfl))) .plain rfl ?_
 obtain ⟨y4, j0, h⟩ := bsome h
 refine EL_do .plain rfl (D_call (g := g2) (vs := [up2, (.func (.func 105) #[] #[p1, p2])]) en87 (.cons rfl (.cons rfl .nil)) (wk87 rp2 ⟨105, #[], #[p1, p2], rfl, en105, fun g' w' hch a0 b0 r hu0 hr => by obtain rfl := RV_int.1 hu0; exact Fn.mono (wk105  (q1.ch hch) (q2.ch hch) hr) fun _ _ _ h => RV_bool.2 h⟩ j0) fun g3 w3_ v3 hs hr => ?_)
 have hfr := hfr.ext hs
 subst hr
 refine EL_pur (v := .bool (!y4)) (P_not rfl) .plain rfl ?_
 refine EL_at (.bool (!y4)) rfl rfl ?_
 refine EL_nil (thn_n (E_ret ?_))
 obtain rfl := sinj h
 exact end1 rfl rfl (show _ = .bool (!y4) from rfl) ⟨_, hfr, rfl⟩
/-- griffe/point.within -/
def f95 (x0 : Int) (x1 : Int) (x2 : List Int) : Option (Bool) :=
 (f87 x2 ((fun a0 => f106 a0 x0 x1))).bind fun y4 =>
 some ((!y4))
theorem en95 : Enters Try.prog 95 := enters_of Try.func95 (by kernel_rfl) rfl
theorem wk95 {gI : Gh} {wI : World} {x0 : Int} {x1 : Int} {x2 : List Int} {up2 : Value} (rp2 : RV gI.m wI x2 up2) {r : Bool} (h : f95 x0 x1 x2 = some r) : Fn Try.prog 95 #[.int .i64 (x0), .int .i64 (x1), up2] gI wI (fun _ _ v => v = .bool (r)) := by
 unfold f95 at h
 refine fn_of_E Try.func95 rfl (Nat.le_of_ble_eq_true rfl) fun g0 hm hfr => ?_
 have rp2 : RV g0.m wI x2 up2 := hm ▸ rp2
 show E _ 11 none _ _ _ _ _
 refine E_seq (E_region (EL_do .plain rfl (D_box (g := g0) rfl (RV_int.2 rfl) fun g1 w1 p1 hs q1 => ?_)))
 have hfr := hfr.ext hs
 have rp2 := rp2.ext hs
 refine EL_do .plain rfl (D_box (g := g1) rfl (RV_int.2 rfl) fun g2 w2 p2 hs q2 => ?_)
 have hfr := hfr.ext hs
 have rp2 := rp2.ext hs
 have q1 := q1.ext hs
 refine EL_at (.bool false) rfl rfl ?_
 refine EL_nil (thn_n (E_seq (E_region (EL_mw up2 rfl rfl ?_))))
 refine EL_pur (v := (.func (.func 106) #[] #[p1, p2])) (P_makeFunc (capf_0_2 (show ev _ _ = p1 from rfl) (show ev _ _ = p2 from rfl))) .plain rfl ?_
 obtain ⟨y4, j0, h⟩ := bsome h
 refine EL_do .plain rfl (D_call (g := g2) (vs := [up2, (.func (.func 106) #[] #[p1, p2])]) en87 (.cons rfl (.cons rfl .nil)) (wk87 rp2 ⟨106, #[], #[p1, p2], rfl, en106, fun g' w' hch a0 b0 r hu0 hr => by obtain rfl := RV_int.1 hu0; exact Fn.mono (wk106  (q1.ch hch) (q2.ch hch) hr) fun _ _ _ h => RV_bool.2 h⟩ j0) fun g3 w3_ v3 hs hr => ?_)
 have hfr := hfr.ext hs
 subst hr
 refine EL_pur (v := .bool (!y4)) (P_not rfl) .plain rfl ?_
 refine EL_at (.bool (!y4)) rfl rfl ?_
 refine EL_nil (thn_n (E_ret ?_))
 obtain rfl := sinj h
 exact end1 rfl rfl (show _ = .bool (!y4) from rfl) ⟨_, hfr, rfl⟩
/-- (griffe/tie.harness).pick -/
def f102 (x0 : TieTieHarness) (x1 : Int) : Option (Str) :=
 Option.bind (α := List UInt8) (
  lp (σ := List UInt8 × Int) (fun i4 (i1, j0) =>
   bif (decide (j0 < ((((x0).TieHarness).Warps).length : Int))) then
    Option.bind (α := List UInt8) (
     (f111 x0 x1 j0).bind fun z2 =>
     (f110 z2).bind fun d3 =>
     (apnd 1 i1 [d3]).bind fun j4 =>
     some (j4)
     ) fun u0 =>
    i4 (u0, (w64 (j0 + (1 : Int))))
   else
    some (i1)
   ) big (([] : List UInt8), (0 : Int))
  ) fun j1 =>
 (sbstr j1).bind fun j2 =>
 some (j2)
theorem en102 : Enters Try.prog 102 := enters_of Try.func102 (by kernel_rfl) rfl
theorem wk102 {gI : Gh} {wI : World} {x0 : TieTieHarness} {x1 : Int} {up0 : Value} (rp0 : RV gI.m wI x0 up0) {r : Str} (h : f102 x0 x1 = some r) : Fn Try.prog 102 #[up0, .int .i64 (x1)] gI wI (fun _ _ v => v = Str.v (r)) := by
 unfold f102 at h
 refine fn_of_E Try.func102 rfl (Nat.le_of_ble_eq_true rfl) fun g0 hm hfr => ?_
 have rp0 : RV g0.m wI x0 up0 := hm ▸ rp0
 show E _ 22 none _ _ _ _ _
 refine E_seq (E_region (EL_do .plain rfl (D_box (g := g0) rfl rp0 fun g1 w1 p1 hs q1 => ?_)))
 have hfr := hfr.ext hs
 refine EL_at (Str.v (⟨[]⟩ : Str)) rfl rfl ?_
 refine EL_nil (thn_n (E_seq (E_region (EL_do .plain rfl (D_allocOc (g := g1) 2005 ((⟨.pointer none, rfl⟩, []) : Fv × List UInt8) Try.zeroValue154 (fun m w => ⟨_, rep_two (show GoT.rep m w (⟨.pointer none, rfl⟩ : Fv) [.pointer none] from rfl) rep_nil, rfl⟩) fun g2 w2 p2 hs b2 cb => ?_)))))
 have hfr := hfr.stp hs
 have q1 := q1.stp hs
 replace b2 : SB 2005 60501 g2 w2 5 154 [] p2 := ⟨_, b2, cb.osf rfl, .inl rfl⟩
 clear cb
 refine EL_nil (thn_n ?_)
 obtain ⟨j1, hx, h⟩ := bsome h
 refine E_join (fun e w => ∃ (g : Gh) , Fr gI wI g w ∧ e 5 = p2 ∧ SB 2005 60501 g w 5 154 (j1) p2) (fun Q' hQ => ?_) (fun m5 t5 hR => ?_)
 ·replace h := hx
  clear hx
  refine E_seq (E_region (EL_pur (v := fPtr p1 0) (P_fieldAddr at_145_0 rfl (PT.ptr q1)) .plain rfl ?_))
  have m4 := PT_field (part_TieTieHarness_0).1 q1
  refine EL_pur (v := fPtr (fPtr p1 0) 1) (P_fieldAddr at_24_1 rfl (PT.ptr m4)) .plain rfl ?_
  have x4 := PT_field (part_TieHarness_1).1 m4
  refine EL_do .plain rfl (D_load (g := g2) Try.isAgg22 Try.sizeOf22 rfl x4 fun u5 z4 => ?_)
  refine EL_pur (v := .int .i64 ((((x0).TieHarness).Warps).length : Int)) (P_len Try.underlying22 rfl z4) .plain rfl ?_
  refine EL_mw (.int .i64 (0)) rfl rfl ?_
  refine EL_nil (thn_n (E_block ?_))
  refine E_lp h (fun (s : List UInt8 × Int) e w => ∃ (g : Gh) , Fr gI wI g w ∧ e 1 = .int .i64 (x1) ∧ e 2 = p1 ∧ PT g.m w (x0 : TieTieHarness) p1 ∧ e 5 = p2 ∧ SB 2005 60501 g w 5 154 (s.1) p2 ∧ e 10 = .int .i64 (((((x0).TieHarness).Warps).length : Int)) ∧ e 11 = .int .i64 (s.2)) ⟨g2, hfr, rfl, rfl, q1, rfl, b2, rfl, rfl⟩ (fun X27 i4 n4 => ?_)
  rintro ⟨i1, j0⟩ n5 x5 ⟨i3, hfr, q2, s2, n0, z1, o0, d2, y0⟩ h
  refine E_seq (E_region (EL_pur (v := .bool ((decide (j0 < ((((x0).TieHarness).Warps).length : Int))))) (P_int y0 d2 rfl) .plain rfl ?_))
  refine EL_nil (thn_n (E_seq ?_))
  rcases csome h with ⟨i2, h⟩ | ⟨i2, h⟩
  ·refine E_ct i2 rfl ?_
   refine E_skip (thn_n ?_)
   obtain ⟨u0, hx, h⟩ := bsome h
   refine E_join (fun e w => ∃ (g : Gh) , Fr gI wI g w ∧ e 1 = .int .i64 (x1) ∧ e 2 = p1 ∧ PT g.m w (x0 : TieTieHarness) p1 ∧ e 5 = p2 ∧ SB 2005 60501 g w 5 154 (u0) p2 ∧ e 10 = .int .i64 (((((x0).TieHarness).Warps).length : Int)) ∧ e 11 = .int .i64 (j0)) (fun Q' hQ => ?_) (fun o5 y5 hR => ?_)
   ·replace h := hx
    clear hx
    refine E_block ?_
    refine E_seq (E_region (EL_mv y0 rfl ?_))
    refine EL_at (.int .i64 (j0)) rfl rfl ?_
    refine EL_nil (thn_n (E_region (EL_do .plain rfl (D_load (g := i3) Try.isAgg145 Try.sizeOf145 s2 n0 fun c5 d5 => ?_))))
    refine EL_mv q2 rfl ?_
    refine EL_mw (.int .i64 (j0)) rfl rfl ?_
    obtain ⟨z2, o4, h⟩ := bsome h
    refine EL_do .plain rfl (D_call (g := i3) (vs := [c5, .int .i64 (x1), .int .i64 (j0)]) en111 (.cons rfl (.cons rfl (.cons rfl .nil))) (wk111 d5 o4) fun i5 p5 z5 hs hr => ?_)
    have hfr := hfr.ext hs
    have n0 := n0.ext hs
    have o0 := o0.ext hs
    subst hr
    obtain ⟨d3, p4, h⟩ := bsome h
    refine EL_do .plain rfl (D_call (g := i5) (vs := [.bool (z2)]) en110 (.cons rfl .nil) (wk110  p4) fun a6 q5 b6 hs hr => ?_)
    have hfr := hfr.ext hs
    have n0 := n0.ext hs
    have o0 := o0.ext hs
    subst hr
    obtain ⟨j4, q4, h⟩ := bsome h
    refine EL_do .plain rfl (D_callC (vs := [p2, .int .u8 (UInt8.toNat (d3))]) en109 (.cons z1 (.cons rfl .nil)) (wk109 (i := 2005) (j := 60501) rfl rfl o0 q4) fun c6 d6 hq => ?_)
    obtain ⟨hv, j5, ⟨_, _, _, _, hs1, hs2, hs3⟩, b42⟩ := hq
    subst hv
    have hfr := hfr.stp hs1
    have n0 := n0.stp hs1
    have hfr := hfr.stp hs2
    have n0 := n0.stp hs2
    have hfr := hfr.stp hs3
    have n0 := n0.stp hs3
    clear hs1 hs2 hs3
    refine EL_nil (blk_n ?_)
    obtain rfl := sinj h
    exact hQ _ _ ⟨j5, hfr, q2, s2, n0, z1, b42, d2, y0⟩
   ·clear hx
    obtain ⟨l5, hfr, p3, q3, s3, u3, z3, j3, o3⟩ := hR
    refine E_region (EL_in (.int .i64 ((w64 (j0 + (1 : Int))))) o3 rfl rfl rfl ?_)
    refine EL_mw (.int .i64 ((w64 (j0 + (1 : Int))))) rfl rfl ?_
    exact EL_nil (thn_n (n4 (u0, (w64 (j0 + (1 : Int)))) _ _ ⟨l5, hfr, p3, q3, s3, u3, z3, j3, rfl⟩ h))
  ·refine E_cf i2 rfl ?_
   refine E_exit ?_
   refine thn_e ?_
   refine thn_e ?_
   refine blk_hit ?_
   obtain rfl := sinj h
   exact hQ _ _ ⟨i3, hfr, z1, o0⟩
 ·clear hx
  obtain ⟨e6, hfr, c4, d4⟩ := hR
  refine E_seq (E_region ?_)
  obtain ⟨j2, u4, h⟩ := bsome h
  obtain ⟨hne46, hye46⟩ := sbstr_h u4
  refine EL_do .plain rfl (D_callC (vs := [p2]) en112 (.cons c4 .nil) (wk112 (i := 2005) (j := 60501) rfl d4 hne46) fun i6 j6 hq => ?_)
  obtain ⟨hv, k6, hs⟩ := hq
  rw [← hye46] at hv
  subst hv
  have hfr := hfr.stp hs
  refine EL_at (Str.v j2) rfl rfl ?_
  refine EL_nil (thn_n (E_ret ?_))
  obtain rfl := sinj h
  exact end1 rfl rfl (show _ = Str.v j2 from rfl) ⟨_, hfr, rfl⟩
/-- slices.rotateCmpFunc[griffe/api.FaultDamage] -/
def f113 (x0 : List FaultDamage) (x1 : Int) (x2 : Int) (x3 : Int) (x4 : FaultDamage → FaultDamage → Option Int) : Option ((List FaultDamage)) :=
 Option.bind (α := (List FaultDamage) × Int) (
  lp (σ := (List FaultDamage) × Int × Int) (fun u3 (j1, j0, n0) =>
   jn (σ := Unit) (fun (_ : Unit) =>
    bif (decide (j0 > n0)) then
     (f115 j1 ((w64 (x2 - j0))) x2 n0 x4).bind fun z3 =>
     u3 (z3, (w64 (j0 - n0)), n0)
    else
     (f115 j1 ((w64 (x2 - j0))) ((w64 ((w64 (x2 + n0)) - j0))) j0 x4).bind fun c4 =>
     u3 (c4, j0, (w64 (n0 - j0)))
    ) fun o4 =>
   bif (j0 != n0) then
    o4 ()
   else
    some (j1, j0)
   ) big (x0, (w64 (x2 - x1)), (w64 (x3 - x2)))
  ) fun (j2, u0) =>
 (f115 j2 ((w64 (x2 - u0))) x2 u0 x4).bind fun p4 =>
 some (p4)
theorem en113 : Enters Try.prog 113 := enters_of Try.func113 (by kernel_rfl) rfl
theorem wk113 {iI : Nat} {gI : Gh} {wI : World} {x0 : List FaultDamage} {x1 : Int} {x2 : Int} {x3 : Int} {x4 : FaultDamage → FaultDamage → Option Int} {up0 : Value} (mp0 : OM iI gI wI 62 x0 up0) {up4 : Value} (rp4 : FnV2 Try.prog x4 up4 gI wI) {r : (List FaultDamage)} (h : f113 x0 x1 x2 x3 x4 = some r) : FnM Try.prog 113 #[up0, .int .i64 (x1), .int .i64 (x2), .int .i64 (x3), up4] iI gI wI (fun g w v => v = .tuple #[] ∧ OM iI g w 62 r up0) := by
 unfold f113 at h
 refine fnM_of_E Try.func113 rfl (Nat.le_of_ble_eq_true rfl) fun g0 hm hfr => ?_
 have i4 := mp0
 replace mp0 := mp0.enter
 rw [← hm] at mp0
 replace hm : g0.m = gI.m := by rw [hm]
 obtain ⟨ff4, fa4, fc4, rfl, fen4, fcl4⟩ := rp4
 show E _ 58 none _ _ _ _ _
 refine E_seq (E_region (EL_mw (.int .i64 (x2)) rfl rfl ?_))
 refine EL_mw (.int .i64 (x1)) rfl rfl ?_
 refine EL_in (.int .i64 ((w64 (x2 - x1)))) rfl rfl rfl rfl ?_
 refine EL_at (.int .i64 ((w64 (x2 - x1)))) rfl rfl ?_
 refine EL_nil (thn_n (E_seq (E_region (EL_mw (.int .i64 (x3)) rfl rfl ?_))))
 refine EL_mw (.int .i64 (x2)) rfl rfl ?_
 refine EL_in (.int .i64 ((w64 (x3 - x2)))) rfl rfl rfl rfl ?_
 refine EL_at (.int .i64 ((w64 (x3 - x2)))) rfl rfl ?_
 refine EL_nil (thn_n ?_)
 obtain ⟨⟨j2, u0⟩, hx, h⟩ := bsome h
 refine E_join (fun e w => ∃ (g : Gh) , FrM iI gI wI g w ∧ e 0 = up0 ∧ OM 1 g w 62 (j2 : List FaultDamage) up0 ∧ e 2 = .int .i64 (x2) ∧ e 4 = (.func (.func ff4) fa4 fc4) ∧ e 10 = .int .i64 (u0)) (fun Q' hQ => ?_) (fun n5 x5 hR => ?_)
 ·replace h := hx
  clear hx
  refine E_block ?_
  refine E_lp h (fun (s : (List FaultDamage) × Int × Int) e w => ∃ (g : Gh) , FrM iI gI wI g w ∧ e 0 = up0 ∧ OM 1 g w 62 (s.1 : List FaultDamage) up0 ∧ e 2 = .int .i64 (x2) ∧ e 4 = (.func (.func ff4) fa4 fc4) ∧ e 10 = .int .i64 (s.2.1) ∧ e 11 = .int .i64 (s.2.2)) ⟨g0, hfr, rfl, mp0, rfl, rfl, rfl, rfl⟩ (fun X12 u3 d4 => ?_)
  rintro ⟨j1, j0, n0⟩ o5 y5 ⟨q4, hfr, i3, j3, o3, p3, i2, q2⟩ h
  refine E_joinC h (fun (s : Unit) e w => ∃ (g : Gh) , FrM iI gI wI g w ∧ e 0 = up0 ∧ OM 1 g w 62 (j1 : List FaultDamage) up0 ∧ e 2 = .int .i64 (x2) ∧ e 4 = (.func (.func ff4) fa4 fc4) ∧ e 10 = .int .i64 (j0) ∧ e 11 = .int .i64 (n0)) (fun X15 o4 z4 h => ?_) ?_
  ·refine E_seq (E_region (EL_mv i2 rfl ?_))
   refine EL_mv q2 rfl ?_
   refine EL_in (.bool ((j0 != n0))) rfl rfl rfl rfl ?_
   refine EL_nil (thn_n ?_)
   rcases csome h with ⟨z2, h⟩ | ⟨z2, h⟩
   ·refine E_ct z2 rfl ?_
    exact E_skip (thn_n (z4 () _ _ ⟨q4, hfr, i3, j3, o3, p3, i2, q2⟩ h))
   ·refine E_cf z2 rfl ?_
    refine E_exit ?_
    refine thn_e ?_
    refine thn_e ?_
    refine blk_hit ?_
    obtain ⟨rfl, rfl⟩ := pairs2 h
    exact hQ _ _ ⟨q4, hfr, i3, j3, o3, p3, i2⟩
  ·rintro _ p5 z5 ⟨u4, hfr, z1, q3, i1, d2, o0, y0⟩ h
   refine E_block ?_
   refine E_seq (E_region (EL_mv o0 rfl ?_))
   refine EL_mv y0 rfl ?_
   refine EL_in (.bool ((decide (j0 > n0)))) rfl rfl rfl rfl ?_
   refine EL_nil (thn_n ?_)
   rcases csome h with ⟨d3, h⟩ | ⟨d3, h⟩
   ·refine E_ct d3 rfl ?_
    refine E_seq (E_region (EL_mv z1 rfl ?_))
    refine EL_mv i1 rfl ?_
    refine EL_mv o0 rfl ?_
    refine EL_in (.int .i64 ((w64 (x2 - j0)))) rfl rfl rfl rfl ?_
    refine EL_mv i1 rfl ?_
    refine EL_mv y0 rfl ?_
    refine EL_mv d2 rfl ?_
    obtain ⟨z3, c5, h⟩ := bsome h
    refine EL_do .plain rfl (D_callM (g := u4) (i := 1) (vs := [up0, .int .i64 ((w64 (x2 - j0))), .int .i64 (x2), .int .i64 (n0), (.func (.func ff4) fa4 fc4)]) en115 (.cons rfl (.cons rfl (.cons rfl (.cons rfl (.cons rfl .nil))))) (wk115 q3 (FnV2.ch ⟨_, _, _, rfl, fen4, fcl4⟩ hfr.ch) c5) fun j5 q5 a6 hs hr => ?_)
    obtain ⟨hrv, b19⟩ := hr
    subst hrv
    have hfr := hfr.stp hs
    refine EL_nil (thn_n (E_region (EL_mv o0 rfl ?_)))
    refine EL_mv y0 rfl ?_
    refine EL_in (.int .i64 ((w64 (j0 - n0)))) rfl rfl rfl rfl ?_
    refine EL_at (.int .i64 ((w64 (j0 - n0)))) rfl rfl ?_
    exact EL_nil (blk_n (thn_n (d4 (z3, (w64 (j0 - n0)), n0) _ _ ⟨j5, hfr, z1, b19, i1, d2, rfl, y0⟩ h)))
   ·refine E_cf d3 rfl ?_
    refine E_seq (E_region (EL_mv z1 rfl ?_))
    refine EL_mv i1 rfl ?_
    refine EL_mv o0 rfl ?_
    refine EL_in (.int .i64 ((w64 (x2 - j0)))) rfl rfl rfl rfl ?_
    refine EL_mv i1 rfl ?_
    refine EL_mv y0 rfl ?_
    refine EL_in (.int .i64 ((w64 (x2 + n0)))) rfl rfl rfl rfl ?_
    refine EL_mv o0 rfl ?_
    refine EL_in (.int .i64 ((w64 ((w64 (x2 + n0)) - j0)))) rfl rfl rfl rfl ?_
    refine EL_mv o0 rfl ?_
    refine EL_mv d2 rfl ?_
    obtain ⟨c4, d5, h⟩ := bsome h
    refine EL_do .plain rfl (D_callM (g := u4) (i := 1) (vs := [up0, .int .i64 ((w64 (x2 - j0))), .int .i64 ((w64 ((w64 (x2 + n0)) - j0))), .int .i64 (j0), (.func (.func ff4) fa4 fc4)]) en115 (.cons rfl (.cons rfl (.cons rfl (.cons rfl (.cons rfl .nil))))) (wk115 q3 (FnV2.ch ⟨_, _, _, rfl, fen4, fcl4⟩ hfr.ch) d5) fun l5 t5 b6 hs hr => ?_)
    obtain ⟨hrv, b21⟩ := hr
    subst hrv
    have hfr := hfr.stp hs
    refine EL_nil (thn_n (E_region (EL_mv y0 rfl ?_)))
    refine EL_mv o0 rfl ?_
    refine EL_in (.int .i64 ((w64 (n0 - j0)))) rfl rfl rfl rfl ?_
    refine EL_at (.int .i64 ((w64 (n0 - j0)))) rfl rfl ?_
    exact EL_nil (blk_n (thn_n (d4 (c4, j0, (w64 (n0 - j0))) _ _ ⟨l5, hfr, z1, b21, i1, d2, o0, rfl⟩ h)))
 ·clear hx
  obtain ⟨m5, hfr, j4, m4, s3, n4, s2⟩ := hR
  refine E_region (EL_mv j4 rfl ?_)
  refine EL_mv s3 rfl ?_
  refine EL_mv s2 rfl ?_
  refine EL_in (.int .i64 ((w64 (x2 - u0)))) rfl rfl rfl rfl ?_
  refine EL_mv s3 rfl ?_
  refine EL_mv s2 rfl ?_
  refine EL_mv n4 rfl ?_
  obtain ⟨p4, i5, h⟩ := bsome h
  refine EL_do .plain rfl (D_callM (g := m5) (i := 1) (vs := [up0, .int .i64 ((w64 (x2 - u0))), .int .i64 (x2), .int .i64 (u0), (.func (.func ff4) fa4 fc4)]) en115 (.cons rfl (.cons rfl (.cons rfl (.cons rfl (.cons rfl .nil))))) (wk115 m4 (FnV2.ch ⟨_, _, _, rfl, fen4, fcl4⟩ hfr.ch) i5) fun c6 u5 d6 hs hr => ?_)
  obtain ⟨hrv, b24⟩ := hr
  subst hrv
  have hfr := hfr.stp hs
  refine EL_nil ?_
  obtain rfl := sinj h
  exact end0n rfl rfl ⟨_, hfr, rfl, i4.back b24⟩
/-- griffe/grifferef05.Like -/
def f21 (x0 : FaultLoom) (x1 : FaultLoom) : Option (Bool) :=
 Option.bind (α := Bool) (
  (f57 ((x0).Harness) ((x1).Harness)).bind fun o0 =>
  bif o0 then
   (f58 ((x0).Design) ((x1).Design)).bind fun u0 =>
   some (u0)
  else
   some (false)
  ) fun n0 =>
 some (n0)
theorem en21 : Enters Try.prog 21 := enters_of Try.func21 (by kernel_rfl) rfl
theorem wk21 {gI : Gh} {wI : World} {x0 : FaultLoom} {x1 : FaultLoom} {up0 : Value} (rp0 : RV gI.m wI x0 up0) {up1 : Value} (rp1 : RV gI.m wI x1 up1) {r : Bool} (h : f21 x0 x1 = some r) : Fn Try.prog 21 #[up0, up1] gI wI (fun _ _ v => v = .bool (r)) := by
 unfold f21 at h
 refine fn_of_E Try.func21 rfl (Nat.le_of_ble_eq_true rfl) fun g0 hm hfr => ?_
 have rp0 : RV g0.m wI x0 up0 := hm ▸ rp0
 have rp1 : RV g0.m wI x1 up1 := hm ▸ rp1
 show E _ 17 none _ _ _ _ _
 refine E_seq (E_region (EL_do .plain rfl (D_box (g := g0) rfl rp0 fun g1 w1 p1 hs q1 => ?_)))
 have hfr := hfr.ext hs
 have rp1 := rp1.ext hs
 refine EL_do .plain rfl (D_box (g := g1) rfl rp1 fun g2 w2 p2 hs q2 => ?_)
 have hfr := hfr.ext hs
 have q1 := q1.ext hs
 refine EL_at (.bool false) rfl rfl ?_
 refine EL_nil (thn_n ?_)
 obtain ⟨n0, hx, h⟩ := bsome h
 refine E_join (fun e w => ∃ (g : Gh) , Fr gI wI g w ∧ e 4 = .bool (n0)) (fun Q' hQ => ?_) (fun z3 i4 hR => ?_)
 ·replace h := hx
  clear hx
  refine E_region (EL_pur (v := fPtr p1 0) (P_fieldAddr at_28_0 rfl (PT.ptr q1)) .plain rfl ?_)
  have d2 := PT_field (part_FaultLoom_0).1 q1
  refine EL_do .plain rfl (D_load (g := g2) Try.isAgg24 Try.sizeOf24 rfl d2 fun i2 j2 => ?_)
  refine EL_pur (v := fPtr p2 0) (P_fieldAddr at_28_0 rfl (PT.ptr q2)) .plain rfl ?_
  have s2 := PT_field (part_FaultLoom_0).1 q2
  refine EL_do .plain rfl (D_load (g := g2) Try.isAgg24 Try.sizeOf24 rfl s2 fun z2 d3 => ?_)
  obtain ⟨o0, j1, h⟩ := bsome h
  refine EL_do .plain rfl (D_call (g := g2) (vs := [i2, z2]) en57 (.cons rfl (.cons rfl .nil)) (wk57 j2 d3 j1) fun y0 c4 j4 hs hr => ?_)
  have hfr := hfr.ext hs
  have q1 := q1.ext hs
  have q2 := q2.ext hs
  subst hr
  refine EL_mw (.bool (o0)) rfl rfl ?_
  rcases csome h with ⟨j0, h⟩ | ⟨j0, h⟩
  ·refine EL_pur (v := fPtr p1 2) (P_fieldAddr at_28_1 rfl (PT.ptr q1)) (.yes2 rfl rfl j0) rfl ?_
   have i3 := PT_field (part_FaultLoom_1).1 q1
   refine EL_do (.yes2 rfl rfl j0) rfl (D_load (g := y0) Try.isAgg26 Try.sizeOf26 rfl i3 fun j3 o3 => ?_)
   refine EL_pur (v := fPtr p2 2) (P_fieldAddr at_28_1 rfl (PT.ptr q2)) (.yes2 rfl rfl j0) rfl ?_
   have p3 := PT_field (part_FaultLoom_1).1 q2
   refine EL_do (.yes2 rfl rfl j0) rfl (D_load (g := y0) Try.isAgg26 Try.sizeOf26 rfl p3 fun q3 s3 => ?_)
   obtain ⟨u0, z1, h⟩ := bsome h
   refine EL_do (.yes2 rfl rfl j0) rfl (D_call (g := y0) (vs := [j3, q3]) en58 (.cons rfl (.cons rfl .nil)) (wk58 o3 s3 z1) fun u3 d4 m4 hs hr => ?_)
   have hfr := hfr.ext hs
   subst hr
   refine EL_pur (v := .bool (u0)) (P_pick (b := o0) rfl (pick_t j0 rfl)) .plain rfl ?_
   refine EL_at (.bool (u0)) rfl rfl ?_
   refine EL_nil ?_
   obtain rfl := sinj h
   exact hQ _ _ ⟨u3, hfr, rfl⟩
  ·refine EL_skip (.no2 rfl rfl j0 rfl) rfl ?_
   refine EL_skip (.no2 rfl rfl j0 rfl) rfl ?_
   refine EL_skip (.no2 rfl rfl j0 rfl) rfl ?_
   refine EL_skip (.no2 rfl rfl j0 rfl) rfl ?_
   refine EL_skip (.no2 rfl rfl j0 rfl) rfl ?_
   refine EL_pur (v := .bool false) (P_pick (b := o0) rfl (pick_f j0 rfl)) .plain rfl ?_
   refine EL_at (.bool false) rfl rfl ?_
   refine EL_nil ?_
   obtain rfl := sinj h
   exact hQ _ _ ⟨y0, hfr, rfl⟩
 ·clear hx
  obtain ⟨n4, hfr, i1⟩ := hR
  refine E_ret ?_
  obtain rfl := sinj h
  exact end1 rfl rfl (show _ = .bool (n0) from i1) ⟨_, hfr, rfl⟩
/-- griffe/grifferef05.Loom -/
def f33 (x0 : FaultLoom) : Option (Int) :=
 jn (σ := Unit) (fun (_ : Unit) =>
  jn (σ := Unit) (fun (_ : Unit) =>
   jn (σ := Unit) (fun (_ : Unit) =>
    some ((0 : Int))
    ) fun k33 =>
   bif (((x0).Harness).Hooks != ((x0).Design).Hooks) then
    some ((4 : Int))
   else
    k33 ()
   ) fun k19 =>
  (f67 ((x0).Design)).bind fun y23 =>
  bif (y23 != (0 : Int)) then
   some (y23)
  else
   k19 ()
  ) fun k7 =>
 (f66 ((x0).Harness)).bind fun y11 =>
 bif (y11 != (0 : Int)) then
  some (y11)
 else
  k7 ()
theorem en33 : Enters Try.prog 33 := enters_of Try.func33 (by kernel_rfl) rfl
theorem wk33 {gI : Gh} {wI : World} {x0 : FaultLoom} {up0 : Value} (rp0 : RV gI.m wI x0 up0) {r : Int} (h : f33 x0 = some r) : Fn Try.prog 33 #[up0] gI wI (fun _ _ v => v = .int .i64 (r)) := by
 unfold f33 at h
 refine fn_of_E Try.func33 rfl (Nat.le_of_ble_eq_true rfl) fun g0 hm hfr => ?_
 have rp0 : RV g0.m wI x0 up0 := hm ▸ rp0
 show E _ 24 none _ _ _ _ _
 refine E_seq (E_region (EL_do .plain rfl (D_box (g := g0) rfl rp0 fun g1 w1 p1 hs q1 => ?_)))
 have hfr := hfr.ext hs
 refine EL_at (.int .i64 (0)) rfl rfl ?_
 refine EL_nil (thn_n (E_joinC h (fun (s : Unit) e w => ∃ (g : Gh) , Fr gI wI g w ∧ e 1 = p1 ∧ PT g.m w (x0 : FaultLoom) p1) (fun X7 k7 i3 h => ?_) ?_))
 ·refine E_seq (E_region (EL_pur (v := fPtr p1 0) (P_fieldAddr at_28_0 rfl (PT.ptr q1)) .plain rfl ?_))
  have q8 := PT_field (part_FaultLoom_0).1 q1
  refine EL_do .plain rfl (D_load (g := g1) Try.isAgg24 Try.sizeOf24 rfl q8 fun v9 r9 => ?_)
  obtain ⟨y11, q2, h⟩ := bsome h
  refine EL_do .plain rfl (D_call (g := g1) (vs := [v9]) en66 (.cons rfl .nil) (wk66 r9 q2) fun j3 i4 p4 hs hr => ?_)
  have hfr := hfr.ext hs
  have q1 := q1.ext hs
  subst hr
  refine EL_at (.int .i64 (y11)) rfl rfl ?_
  refine EL_nil (thn_n (E_seq (E_region (EL_mw (.int .i64 (y11)) rfl rfl ?_))))
  refine EL_in (.bool ((y11 != (0 : Int)))) rfl rfl rfl rfl ?_
  refine EL_nil (thn_n ?_)
  rcases csome h with ⟨o0, h⟩ | ⟨o0, h⟩
  ·refine E_ct o0 rfl ?_
   refine E_seq (E_region (EL_mw (.int .i64 (y11)) rfl rfl ?_))
   refine EL_at (.int .i64 (y11)) rfl rfl ?_
   refine EL_nil (thn_n (E_ret (thn_r ?_)))
   obtain rfl := sinj h
   exact end1 rfl rfl (show _ = .int .i64 (y11) from rfl) ⟨_, hfr, rfl⟩
  ·refine E_cf o0 rfl ?_
   exact E_skip (thn_n (i3 () _ _ ⟨j3, hfr, rfl, q1⟩ h))
 ·rintro _ j4 q4 ⟨d2, hfr, i1, j0⟩ h
  refine E_joinC h (fun (s : Unit) e w => ∃ (g : Gh) , Fr gI wI g w ∧ e 1 = p1 ∧ PT g.m w (x0 : FaultLoom) p1) (fun X19 k19 s2 h => ?_) ?_
  ·refine E_seq (E_region (EL_pur (v := fPtr p1 2) (P_fieldAddr at_28_1 i1 (PT.ptr j0)) .plain rfl ?_))
   have o3 := PT_field (part_FaultLoom_1).1 j0
   refine EL_do .plain rfl (D_load (g := d2) Try.isAgg26 Try.sizeOf26 rfl o3 fun p3 q3 => ?_)
   obtain ⟨y23, z2, h⟩ := bsome h
   refine EL_do .plain rfl (D_call (g := d2) (vs := [p3]) en67 (.cons rfl .nil) (wk67 q3 z2) fun s3 m4 u4 hs hr => ?_)
   have hfr := hfr.ext hs
   have j0 := j0.ext hs
   subst hr
   refine EL_at (.int .i64 (y23)) rfl rfl ?_
   refine EL_nil (thn_n (E_seq (E_region (EL_mw (.int .i64 (y23)) rfl rfl ?_))))
   refine EL_in (.bool ((y23 != (0 : Int)))) rfl rfl rfl rfl ?_
   refine EL_nil (thn_n ?_)
   rcases csome h with ⟨u0, h⟩ | ⟨u0, h⟩
   ·refine E_ct u0 rfl ?_
    refine E_seq (E_region (EL_mw (.int .i64 (y23)) rfl rfl ?_))
    refine EL_at (.int .i64 (y23)) rfl rfl ?_
    refine EL_nil (thn_n (E_ret (thn_r ?_)))
    obtain rfl := sinj h
    exact end1 rfl rfl (show _ = .int .i64 (y23) from rfl) ⟨_, hfr, rfl⟩
   ·refine E_cf u0 rfl ?_
    exact E_skip (thn_n (s2 () _ _ ⟨s3, hfr, i1, j0⟩ h))
  ·rintro _ n4 x4 ⟨z1, hfr, j1, n0⟩ h
   refine E_joinC h (fun (s : Unit) e w => ∃ (g : Gh) , Fr gI wI g w) (fun X33 k33 d3 h => ?_) ?_
   ·refine E_seq (E_region (EL_pur (v := fPtr p1 0) (P_fieldAddr at_28_0 j1 (PT.ptr n0)) .plain rfl ?_))
    have i2 := PT_field (part_FaultLoom_0).1 n0
    refine EL_pur (v := fPtr (fPtr p1 0) 0) (P_fieldAddr at_24_0 rfl (PT.ptr i2)) .plain rfl ?_
    have u3 := PT_field (part_TieHarness_0).1 i2
    refine EL_do .plain rfl (D_load (g := z1) Try.isAgg3 Try.sizeOf3 rfl u3 fun z4 z3 => ?_)
    obtain rfl := RV_int.1 z3
    refine EL_pur (v := fPtr p1 2) (P_fieldAddr at_28_1 j1 (PT.ptr n0)) .plain rfl ?_
    have j2 := PT_field (part_FaultLoom_1).1 n0
    refine EL_pur (v := fPtr (fPtr p1 2) 0) (P_fieldAddr at_26_0 rfl (PT.ptr j2)) .plain rfl ?_
    have c4 := PT_field (part_Design_0).1 j2
    refine EL_do .plain rfl (D_load (g := z1) Try.isAgg3 Try.sizeOf3 rfl c4 fun c5 d4 => ?_)
    obtain rfl := RV_int.1 d4
    refine EL_in (.bool ((((x0).Harness).Hooks != ((x0).Design).Hooks))) rfl rfl rfl rfl ?_
    refine EL_nil (thn_n ?_)
    rcases csome h with ⟨y0, h⟩ | ⟨y0, h⟩
    ·refine E_ct y0 rfl ?_
     refine E_seq (E_region (EL_at (.int .i64 (4)) rfl rfl ?_))
     refine EL_nil (thn_n (E_ret (thn_r ?_)))
     obtain rfl := sinj h
     exact end1 rfl rfl (show _ = .int .i64 (4) from rfl) ⟨_, hfr, rfl⟩
    ·refine E_cf y0 rfl ?_
     exact E_skip (thn_n (d3 () _ _ ⟨z1, hfr⟩ h))
   ·rintro _ o4 d5 ⟨i5, hfr⟩ h
    refine E_seq (E_region (EL_at (.int .i64 (0)) rfl rfl ?_))
    refine EL_nil (thn_n (E_ret ?_))
    obtain rfl := sinj h
    exact end1 rfl rfl (show _ = .int .i64 (0) from rfl) ⟨_, hfr, rfl⟩
theorem v103_0 {iO : Nat} {gI : Gh} {wI : World} {x0 : Int} {x1 : Int}  {r : (List Bool)} (h : f103 x0 x1 = some r) : FnG Try.prog 103 #[.int .i64 (x0), .int .i64 (x1)] gI wI (fun g w v => OM iO g w 4 (r) v) := by
 unfold f103 at h
 refine fnG_of_E Try.func103 rfl (Nat.le_of_ble_eq_true rfl) fun g0 hm hfr => ?_
 show E _ 22 none _ _ _ _ _
 refine E_seq (E_region (EL_at (.slice none 0 0) rfl rfl ?_))
 refine EL_nil (thn_n (E_seq (E_region (EL_do .plain rfl (D_buildSlice (g := g0) 3007 (xs := ([] : List Bool)) (vs := []) Try.underlying110 Try.sizeOf4 Try.zeroValue4 rfl rfl .nil RVs.nil rfl rfl fun g1 w1 v1 hs o1 r1 hxt hfl => ?_)))))
 have hfr := hfr.stp hs
 refine EL_at v1 rfl rfl ?_
 refine EL_nil (thn_n ?_)
 obtain ⟨j1, hx, h⟩ := bsome h
 refine E_join (fun e w => ∃ (g : Gh) (v5 : Value), Fr gI wI g w ∧ e 5 = v5 ∧ RV g.m w (j1 : List Bool) v5 ∧ OS 3007 g w 4 (j1 : List Bool) v5) (fun Q' hQ => ?_) (fun u5 a6 hR => ?_)
 ·replace h := hx
  clear hx
  refine E_seq (E_region (EL_at (.int .i64 (0)) rfl rfl ?_))
  refine EL_nil (thn_n (E_block ?_))
  refine E_lp h (fun (s : Int × (List Bool) × Int) e w => ∃ (g : Gh) (v5 : Value), Fr gI wI g w ∧ e 0 = .int .i64 (s.1) ∧ e 1 = .int .i64 (x1) ∧ e 5 = v5 ∧ RV g.m w (s.2.1 : List Bool) v5 ∧ OS 3007 g w 4 (s.2.1 : List Bool) v5 ∧ e 6 = .int .i64 (s.2.2)) ⟨g1, (v1), hfr, rfl, rfl, rfl, r1, o1, rfl⟩ (fun X19 k19 c5 => ?_)
  rintro ⟨o3, z1, j0⟩ x5 b6 ⟨u4, n0, hfr, p3, d2, i2, j2, q2, s2⟩ h
  refine E_joinC h (fun (s : Unit) e w => ∃ (g : Gh) , Fr gI wI g w ∧ e 0 = .int .i64 (o3) ∧ e 1 = .int .i64 (x1) ∧ e 5 = n0 ∧ RV g.m w (z1 : List Bool) n0 ∧ OS 3007 g w 4 (z1 : List Bool) n0 ∧ e 6 = .int .i64 (j0)) (fun X22 c6 d5 h => ?_) ?_
  ·refine E_seq (E_region (EL_mv s2 rfl ?_))
   refine EL_mv d2 rfl ?_
   refine EL_in (.bool ((decide (j0 < x1)))) rfl rfl rfl rfl ?_
   refine EL_nil (thn_n ?_)
   rcases csome h with ⟨i1, h⟩ | ⟨i1, h⟩
   ·refine E_ct i1 rfl ?_
    exact E_skip (thn_n (d5 () _ _ ⟨u4, hfr, p3, d2, i2, j2, q2, s2⟩ h))
   ·refine E_cf i1 rfl ?_
    refine E_exit ?_
    refine thn_e ?_
    refine thn_e ?_
    refine blk_hit ?_
    obtain rfl := sinj h
    exact hQ _ _ ⟨u4, (n0), hfr, i2, j2, q2⟩
  ·rintro _ y5 d6 ⟨m5, hfr, z2, q3, s3, o0, u0, u3⟩ h
   obtain ⟨⟨d3, y0⟩, hx, h⟩ := bsome h
   refine E_join (fun e w => ∃ (g : Gh) (v5 : Value), Fr gI wI g w ∧ e 0 = .int .i64 (d3) ∧ e 1 = .int .i64 (x1) ∧ e 5 = v5 ∧ RV g.m w (y0 : List Bool) v5 ∧ OS 3007 g w 4 (y0 : List Bool) v5 ∧ e 6 = .int .i64 (j0)) (fun Q' hQ => ?_) (fun z5 e6 hR => ?_)
   ·replace h := hx
    clear hx
    refine E_block ?_
    refine E_seq (E_region (EL_mv s3 rfl ?_))
    refine EL_mv z2 rfl ?_
    obtain ⟨i3, i5, h⟩ := bsome h
    refine EL_pur (v := .int .i64 (i3)) (P_int rfl rfl (congrArg (Option.map (Value.int .i64)) i5)) .plain rfl ?_
    refine EL_in (.bool ((i3 == (1 : Int)))) rfl rfl rfl rfl ?_
    refine EL_do .plain rfl (D_buildSlice (g := m5) 3017 (xs := ([(i3 == (1 : Int))] : List Bool)) (vs := [.bool ((i3 == (1 : Int)))]) Try.underlying110 Try.sizeOf4 Try.zeroValue4 rfl rfl (.cons rfl .nil) (RVs.cons (RV_bool.2 rfl) RVs.nil) rfl rfl fun n5 i6 j6 hs o31 o5 hxt hfl => ?_)
    have hfr := hfr.stp hs
    have o0 := o0.stp hs
    have u0 := u0.stp hs rfl
    obtain ⟨k6, j5, h⟩ := bsome h
    refine EL_do .plain rfl (D_append (g := n5) (i := 3007) Try.underlying110 info_4 rfl rfl u0 o0 rfl o5 j5 fun p5 l6 x4 hs o32 q5 _ => ?_)
    have hfr := hfr.stp hs
    refine EL_at x4 rfl rfl ?_
    refine EL_nil (thn_n (E_region (EL_mv z2 rfl ?_)))
    obtain ⟨z4, l5, h⟩ := bsome h
    refine EL_pur (v := .int .i64 (z4)) (P_int rfl rfl (congrArg (Option.map (Value.int .i64)) l5)) .plain rfl ?_
    refine EL_at (.int .i64 (z4)) rfl rfl ?_
    refine EL_nil (blk_n ?_)
    obtain ⟨rfl, rfl⟩ := pairs2 h
    exact hQ _ _ ⟨p5, (x4), hfr, rfl, q3, rfl, q5, o32, u3⟩
   ·clear hx
    obtain ⟨t5, z3, hfr, c4, d4, i4, j4, m4, n4⟩ := hR
    refine E_region (EL_mv n4 rfl ?_)
    refine EL_in (.int .i64 ((w64 (j0 + (1 : Int))))) rfl rfl rfl rfl ?_
    refine EL_at (.int .i64 ((w64 (j0 + (1 : Int))))) rfl rfl ?_
    exact EL_nil (thn_n (c5 (d3, y0, (w64 (j0 + (1 : Int)))) _ _ ⟨t5, (z3), hfr, c4, d4, i4, j4, m4, rfl⟩ h))
 ·clear hx
  obtain ⟨m6, j3, hfr, o4, p4, q4⟩ := hR
  refine E_seq (E_region (EL_mv o4 rfl ?_))
  refine EL_at j3 rfl rfl ?_
  refine EL_nil (thn_n (E_ret ?_))
  obtain rfl := sinj h
  obtain ⟨gh, hxh, homh⟩ := OM.hand (i := iO) plain_bool hfr q4 p4
  exact end1 rfl rfl (show _ = j3 from rfl) ⟨gh, hxh, homh⟩
/-- griffe/fault.within -/
def f62 (x0 : Int) (x1 : Int) (x2 : List Int) : Option (Bool) :=
 (f87 x2 ((fun a0 => f88 a0 x0 x1))).bind fun y4 =>
 some ((!y4))
theorem en62 : Enters Try.prog 62 := enters_of Try.func62 (by kernel_rfl) rfl
theorem wk62 {gI : Gh} {wI : World} {x0 : Int} {x1 : Int} {x2 : List Int} {up2 : Value} (rp2 : RV gI.m wI x2 up2) {r : Bool} (h : f62 x0 x1 x2 = some r) : Fn Try.prog 62 #[.int .i64 (x0), .int .i64 (x1), up2] gI wI (fun _ _ v => v = .bool (r)) := by
 unfold f62 at h
 refine fn_of_E Try.func62 rfl (Nat.le_of_ble_eq_true rfl) fun g0 hm hfr => ?_
 have rp2 : RV g0.m wI x2 up2 := hm ▸ rp2
 show E _ 11 none _ _ _ _ _
 refine E_seq (E_region (EL_do .plain rfl (D_box (g := g0) rfl (RV_int.2 rfl) fun g1 w1 p1 hs q1 => ?_)))
 have hfr := hfr.ext hs
 have rp2 := rp2.ext hs
 refine EL_do .plain rfl (D_box (g := g1) rfl (RV_int.2 rfl) fun g2 w2 p2 hs q2 => ?_)
 have hfr := hfr.ext hs
 have rp2 := rp2.ext hs
 have q1 := q1.ext hs
 refine EL_at (.bool false) rfl rfl ?_
 refine EL_nil (thn_n (E_seq (E_region (EL_mw up2 rfl rfl ?_))))
 refine EL_pur (v := (.func (.func 88) #[] #[p1, p2])) (P_makeFunc (capf_0_2 (show ev _ _ = p1 from rfl) (show ev _ _ = p2 from rfl))) .plain rfl ?_
 obtain ⟨y4, j0, h⟩ := bsome h
 refine EL_do .plain rfl (D_call (g := g2) (vs := [up2, (.func (.func 88) #[] #[p1, p2])]) en87 (.cons rfl (.cons rfl .nil)) (wk87 rp2 ⟨88, #[], #[p1, p2], rfl, en88, fun g' w' hch a0 b0 r hu0 hr => by obtain rfl := RV_int.1 hu0; exact Fn.mono (wk88  (q1.ch hch) (q2.ch hch) hr) fun _ _ _ h => RV_bool.2 h⟩ j0) fun g3 w3_ v3 hs hr => ?_)
 have hfr := hfr.ext hs
 subst hr
 refine EL_pur (v := .bool (!y4)) (P_not rfl) .plain rfl ?_
 refine EL_at (.bool (!y4)) rfl rfl ?_
 refine EL_nil (thn_n (E_ret ?_))
 obtain rfl := sinj h
 exact end1 rfl rfl (show _ = .bool (!y4) from rfl) ⟨_, hfr, rfl⟩
theorem v85_0 {iO jO : Nat} {gI : Gh} {wI : World} {x0 : Design} {up0 : Value} (rp0 : RV gI.m wI x0 up0) {r : (List (List Bool))} (h : f85 x0 = some r) : FnG Try.prog 85 #[up0] gI wI (fun g w v => NS (RM (α := Bool) 4) iO jO g w 110 r v) := by
 unfold f85 at h
 refine fnG_of_E Try.func85 rfl (Nat.le_of_ble_eq_true rfl) fun g0 hm hfr => ?_
 have rp0 : RV g0.m wI x0 up0 := hm ▸ rp0
 show E _ 25 none _ _ _ _ _
 refine E_seq (E_region (EL_do .plain rfl (D_box (g := g0) rfl rp0 fun g1 w1 p1 hs q1 => ?_)))
 have hfr := hfr.ext hs
 refine EL_at (.slice none 0 0) rfl rfl ?_
 refine EL_nil (thn_n (E_seq (E_region (EL_do .plain rfl (D_buildSlice (g := g1) 3005 (xs := ([] : List (List Bool))) (vs := []) Try.underlying108 Try.sizeOf110 Try.zeroValue110 rfl rfl .nil RVs.nil rfl rfl fun g2 w2 v2 hs o2 r2 hxt hfl => ?_)))))
 have hfr := hfr.stp hs
 have q1 := q1.stp hs
 refine EL_at v2 rfl rfl ?_
 have b3 := RO.ofOS o2
 have c3 : Pool (RM (α := Bool) 4) 9503 g2 w2 [] [] none := Pool.nil
 refine EL_nil (thn_n ?_)
 obtain ⟨q3, hx, h⟩ := bsome h
 refine E_join (fun e w => ∃ (g : Gh) (v3 : Value), Fr gI wI g w ∧ e 3 = v3 ∧ NS (RM (α := Bool) 4) 3005 9503 g w 110 (q3 : List (List Bool)) v3) (fun Q' hQ => ?_) (fun m6 q6 hR => ?_)
 ·replace h := hx
  clear hx
  refine E_seq (E_region (EL_at (.int .i64 (0)) rfl rfl ?_))
  refine EL_nil (thn_n (E_block ?_))
  refine E_lp h (fun (s : (List (List Bool)) × Int) e w => ∃ (g : Gh) (v3 : Value), Fr gI wI g w ∧ e 1 = p1 ∧ PT g.m w (x0 : Design) p1 ∧ e 3 = v3 ∧ NS (RM (α := Bool) 4) 3005 9503 g w 110 (s.1 : List (List Bool)) v3 ∧ e 4 = .int .i64 (s.2)) ⟨g2, (v2), hfr, rfl, q1, rfl, ⟨_, b3, c3⟩, rfl⟩ (fun X67 e7 o5 => ?_)
  rintro ⟨c5, n0⟩ r6 g7 ⟨s3, u0, hfr, s2, y0, z2, ⟨n6, d3, i3⟩, j3⟩ h
  refine E_joinC h (fun (s : Unit) e w => ∃ (g : Gh) , Fr gI wI g w ∧ e 1 = p1 ∧ PT g.m w (x0 : Design) p1 ∧ e 3 = u0 ∧ NS (RM (α := Bool) 4) 3005 9503 g w 110 (c5 : List (List Bool)) u0 ∧ e 4 = .int .i64 (n0)) (fun X72 i7 p5 h => ?_) ?_
  ·refine E_seq (E_region (EL_mv j3 rfl ?_))
   refine EL_pur (v := fPtr p1 1) (P_fieldAddr at_26_1 s2 (PT.ptr y0)) .plain rfl ?_
   have e6 := PT_field (part_Design_1).1 y0
   refine EL_do .plain rfl (D_load (g := s3) Try.isAgg22 Try.sizeOf22 rfl e6 fun j7 i6 => ?_)
   refine EL_pur (v := .int .i64 (((x0).Rows).length : Int)) (P_len Try.underlying22 rfl i6) .plain rfl ?_
   refine EL_pur (v := .bool ((decide (n0 < (((x0).Rows).length : Int))))) (P_int rfl rfl rfl) .plain rfl ?_
   refine EL_nil (thn_n ?_)
   rcases csome h with ⟨q2, h⟩ | ⟨q2, h⟩
   ·refine E_ct q2 rfl ?_
    exact E_skip (thn_n (p5 () _ _ ⟨s3, hfr, s2, y0, z2, ⟨_, d3, i3⟩, j3⟩ h))
   ·refine E_cf q2 rfl ?_
    refine E_exit ?_
    refine thn_e ?_
    refine thn_e ?_
    refine blk_hit ?_
    obtain rfl := sinj h
    exact hQ _ _ ⟨s3, (u0), hfr, z2, ⟨_, d3, i3⟩⟩
  ·rintro _ t6 l7 ⟨j6, hfr, i1, j0, d5, ⟨o6, j1, z1⟩, o3⟩ h
   obtain ⟨i2, hx, h⟩ := bsome h
   refine E_join (fun e w => ∃ (g : Gh) (v3 : Value), Fr gI wI g w ∧ e 1 = p1 ∧ PT g.m w (x0 : Design) p1 ∧ e 3 = v3 ∧ NS (RM (α := Bool) 4) 3005 9503 g w 110 (i2 : List (List Bool)) v3 ∧ e 4 = .int .i64 (n0)) (fun Q' hQ => ?_) (fun p6 u6 hR => ?_)
   ·replace h := hx
    clear hx
    refine E_block ?_
    have q5 := PT_field (part_Design_1).1 j0
    refine L_load (x := .tmp 14) Try.isAgg22 Try.sizeOf22 q5 fun u3 z3 i5 => ?_
    obtain ⟨c4, p3, h⟩ := bsome h
    have t5 := PT_idx z3 p3
    refine L_load (x := .tmp 17) Try.isAgg3 Try.sizeOf3 t5 fun v6 u5 j5 => ?_
    obtain rfl := RV_int.1 u5
    have x5 := PT_field (part_Design_0).1 j0
    refine L_load (x := .tmp 19) Try.isAgg3 Try.sizeOf3 x5 fun x6 y5 l5 => ?_
    obtain rfl := RV_int.1 y5
    obtain ⟨o0, m5, h⟩ := bsome h
    refine E_drawL (g := j6) (n := 10) [(8, (fun v g w => OM 9721 g w 4 o0 v)), (9, (fun v g w => ∃ q : Fv, OM 9721 g w 4 o0 q.v ∧ RV g.m w [q] v))] [0, 1, 2, 3, 4, 5, 6, 7, 8, 9] rfl mixed (by kernel_rfl) (⟨fun _ => up_om, fun _ => up_row, trivial⟩) ?_
    refine L_pur (c := u0) rfl rfl .plain (fun _ _ hd => P_move d5) ?_
    refine L_pur (c := fPtr p1 1) rfl rfl .plain (fun _ _ hd => P_fieldAddr at_26_1 i1 (PT.ptr j0)) ?_
    refine L_ld (c := u3) rfl rfl .plain (fun _ _ h => h.ch) i5 rfl ?_
    refine L_pur (c := .int .i64 (n0)) rfl rfl .plain (fun _ _ hd => P_move o3) ?_
    refine L_pur (c := ePtr u3 n0 1) rfl rfl .plain (fun _ _ hd => P_indexAddr (α := Int) Try.underlying22 Try.sizeOf3 rfl z3 rfl p3) ?_
    refine L_ld (c := .int .i64 (c4)) rfl rfl .plain (fun _ _ h => h.ch) j5 rfl ?_
    refine L_pur (c := fPtr p1 0) rfl rfl .plain (fun _ _ hd => P_fieldAddr at_26_0 i1 (PT.ptr j0)) ?_
    refine L_ld (c := .int .i64 ((x0).Hooks)) rfl rfl .plain (fun _ _ h => h.ch) l5 rfl ?_
    refine L_do (φ := fun v g w => OM 9721 g w 4 o0 v) rfl rfl .plain (fun g w hd => D_callG (g := g) (vs := [.int .i64 (c4), .int .i64 ((x0).Hooks)]) en103 (.cons rfl (.cons rfl .nil)) (v103_0 (iO := 9721)  m5) fun g' w' v hs hr => ⟨g', hs, hr⟩) (fun d2 hv => ?_)
    obtain ⟨_, _, _, rq110⟩ := hv
    have one110 := K_one (rowM (α := Bool) 4) rq110
    refine L_do (φ := fun v g w => ∃ q : Fv, OM 9721 g w 4 o0 q.v ∧ RV g.m w [q] v) rfl rfl .plain (fun g w hd => D_buildSlice (g := g) 3022 (xs := ([⟨d2, one110⟩] : List Fv)) (vs := [d2]) Try.underlying108 Try.sizeOf110 Try.zeroValue110 rfl rfl (.cons rfl .nil) (RVs.cons (RV_fv.2 rfl) RVs.nil) rfl rfl fun g' w' v hs o r hxt hfl => ⟨g', hxt, ⟨d2, one110⟩, OM.ext (word (A := fun g w => OM 9721 g w 4 o0 d2) 8 rfl rfl (deps_of hd)) hxt, r⟩) (fun z5 hv => ?_)
    clear hv
    refine L_nil fun a6 y6 hall => ?_
    have hs := hall.1
    have hfr := hfr.ext hs
    have j0 := j0.ext hs
    have j1 := j1.ext hs
    have z1 := z1.ext (rowM _) hs
    obtain ⟨b6, b126, c6⟩ := (word_all (A := fun g w => ∃ q : Fv, OM 9721 g w 4 o0 q.v ∧ RV g.m w [q] z5) 9 rfl hall)
    clear hs hall
    obtain ⟨z6, n5, h⟩ := bsome h
    refine EL_do .plain rfl (D_appendN (g := a6) (R := (RM (α := Bool) 4)) (i := 3005) (j := 9503) (j' := 9721) (rowM _) b6 Try.underlying108 info_110 rfl rfl ⟨_, j1, z1⟩ rfl c6 b126 n5 rfl rfl rfl rfl fun a7 b7 d4 ga127 hs hs2 bb127 => ?_)
    have hfr := hfr.stp hs
    have j0 := j0.stp hs
    have hfr := hfr.stp hs2
    have j0 := j0.stp hs2
    obtain ⟨c7, b127, c127⟩ := bb127
    clear hs hs2
    refine EL_at d4 rfl rfl ?_
    refine EL_nil (blk_n ?_)
    obtain rfl := sinj h
    exact hQ _ _ ⟨ga127, (d4), hfr, i1, j0, rfl, ⟨_, b127, c127⟩, o3⟩
   ·clear hx
    obtain ⟨d6, i4, hfr, j4, m4, n4, ⟨k6, o4, p4⟩, q4⟩ := hR
    refine E_region (EL_mv q4 rfl ?_)
    refine EL_in (.int .i64 ((w64 (n0 + (1 : Int))))) rfl rfl rfl rfl ?_
    refine EL_at (.int .i64 ((w64 (n0 + (1 : Int))))) rfl rfl ?_
    exact EL_nil (thn_n (o5 (i2, (w64 (n0 + (1 : Int)))) _ _ ⟨d6, (i4), hfr, j4, m4, n4, ⟨_, o4, p4⟩, rfl⟩ h))
 ·clear hx
  obtain ⟨d7, j2, hfr, u4, ⟨l6, x4, z4⟩⟩ := hR
  refine E_seq (E_region (EL_mv u4 rfl ?_))
  refine EL_at j2 rfl rfl ?_
  refine EL_nil (thn_n (E_ret ?_))
  obtain rfl := sinj h
  obtain ⟨gh, hxh, homh⟩ := NS.hand (R := (RM (α := Bool) 4)) (i' := iO) (j' := jO) (rowM _) hfr ⟨_, x4, z4⟩ rfl
  exact end1 rfl rfl (show _ = j2 from rfl) ⟨gh, hxh, homh⟩
/-- griffe/tie.Check -/
def f73 (x0 : TieHarness) : Option (Int) :=
 jn (σ := Unit) (fun (_ : Unit) =>
  some ((0 : Int))
  ) fun z1 =>
 (f94 ((1 : Int)) ((24 : Int)) (([(x0).Hooks] : List Int))).bind fun i1 =>
 bif (!i1) then
  some ((2 : Int))
 else
  bif (decide ((((x0).Warps).length : Int) > (96 : Int))) then
   some ((5 : Int))
  else
   bif ((((x0).Warps).length : Int) == (0 : Int)) then
    some ((7 : Int))
   else
    (f94 ((0 : Int)) ((w64 ((x0).Hooks - (1 : Int)))) ((x0).Warps)).bind fun j1 =>
    bif (!j1) then
     some ((2 : Int))
    else
     z1 ()
theorem en73 : Enters Try.prog 73 := enters_of Try.func73 (by kernel_rfl) rfl
theorem wk73 {gI : Gh} {wI : World} {x0 : TieHarness} {up0 : Value} (rp0 : RV gI.m wI x0 up0) {r : Int} (h : f73 x0 = some r) : Fn Try.prog 73 #[up0] gI wI (fun _ _ v => v = .int .i64 (r)) := by
 unfold f73 at h
 refine fn_of_E Try.func73 rfl (Nat.le_of_ble_eq_true rfl) fun g0 hm hfr => ?_
 have rp0 : RV g0.m wI x0 up0 := hm ▸ rp0
 show E _ 27 none _ _ _ _ _
 refine E_seq (E_region (EL_do .plain rfl (D_box (g := g0) rfl rp0 fun g1 w1 p1 hs q1 => ?_)))
 have hfr := hfr.ext hs
 refine EL_at (.int .i64 (0)) rfl rfl ?_
 refine EL_nil (thn_n (E_joinC h (fun (s : Unit) e w => ∃ (g : Gh) , Fr gI wI g w) (fun X21 z1 d2 h => ?_) ?_))
 ·refine E_block ?_
  refine E_seq (E_region (EL_pur (v := fPtr p1 0) (P_fieldAddr at_24_0 rfl (PT.ptr q1)) .plain rfl ?_))
  have q2 := PT_field (part_TieHarness_0).1 q1
  refine EL_do .plain rfl (D_load (g := g1) Try.isAgg3 Try.sizeOf3 rfl q2 fun o4 s2 => ?_)
  obtain rfl := RV_int.1 s2
  refine EL_do .plain rfl (D_buildSlice (g := g1) 3006 (xs := ([(x0).Hooks] : List Int)) (vs := [.int .i64 ((x0).Hooks)]) Try.underlying22 Try.sizeOf3 Try.zeroValue3 rfl rfl (.cons rfl .nil) (RVs.cons (RV_int.2 rfl) RVs.nil) rfl rfl fun z2 p4 d3 hs o24 i3 hxt hfl => ?_)
  have hfr := hfr.stp hs
  have q1 := q1.stp hs
  obtain ⟨i1, i2, h⟩ := bsome h
  refine EL_do .plain rfl (D_call (g := z2) (vs := [.int .i64 (1), .int .i64 (24), d3]) en94 (.cons rfl (.cons rfl (.cons rfl .nil))) (wk94 i3 i2) fun j0 j4 q4 hs hr => ?_)
  have hfr := hfr.ext hs
  have q1 := q1.ext hs
  subst hr
  refine EL_pur (v := .bool (!i1)) (P_not rfl) .plain rfl ?_
  refine EL_at (.bool (!i1)) rfl rfl ?_
  refine EL_nil (thn_n ?_)
  rcases csome h with ⟨n0, h⟩ | ⟨n0, h⟩
  ·refine E_ct n0 rfl ?_
   refine E_seq (E_region (EL_at (.int .i64 (2)) rfl rfl ?_))
   refine EL_nil (thn_n (E_ret (blk_r ?_)))
   refine thn_r ?_
   obtain rfl := sinj h
   exact end1 rfl rfl (show _ = .int .i64 (2) from rfl) ⟨_, hfr, rfl⟩
  ·refine E_cf n0 rfl ?_
   refine E_seq (E_region (EL_pur (v := fPtr p1 1) (P_fieldAddr at_24_1 rfl (PT.ptr q1)) .plain rfl ?_))
   have j3 := PT_field (part_TieHarness_1).1 q1
   refine EL_do .plain rfl (D_load (g := j0) Try.isAgg22 Try.sizeOf22 rfl j3 fun u4 o3 => ?_)
   refine EL_pur (v := .int .i64 (((x0).Warps).length : Int)) (P_len Try.underlying22 rfl o3) .plain rfl ?_
   refine EL_pur (v := .bool ((decide ((((x0).Warps).length : Int) > (96 : Int))))) (P_int rfl rfl rfl) .plain rfl ?_
   refine EL_pur (v := .bool ((decide ((((x0).Warps).length : Int) > (96 : Int))))) (P_assign rfl) .plain rfl ?_
   refine EL_nil (thn_n ?_)
   rcases csome h with ⟨o0, h⟩ | ⟨o0, h⟩
   ·refine E_ct o0 rfl ?_
    refine E_seq (E_region (EL_at (.int .i64 (5)) rfl rfl ?_))
    refine EL_nil (thn_n (E_ret (blk_r ?_)))
    refine thn_r ?_
    obtain rfl := sinj h
    exact end1 rfl rfl (show _ = .int .i64 (5) from rfl) ⟨_, hfr, rfl⟩
   ·refine E_cf o0 rfl ?_
    refine E_seq (E_region (EL_pur (v := fPtr p1 1) (P_fieldAddr at_24_1 rfl (PT.ptr q1)) .plain rfl ?_))
    have p3 := PT_field (part_TieHarness_1).1 q1
    refine EL_do .plain rfl (D_load (g := j0) Try.isAgg22 Try.sizeOf22 rfl p3 fun x4 q3 => ?_)
    refine EL_pur (v := .int .i64 (((x0).Warps).length : Int)) (P_len Try.underlying22 rfl q3) .plain rfl ?_
    refine EL_in (.bool (((((x0).Warps).length : Int) == (0 : Int)))) rfl rfl rfl rfl ?_
    refine EL_at (.bool (((((x0).Warps).length : Int) == (0 : Int)))) rfl rfl ?_
    refine EL_nil (thn_n ?_)
    rcases csome h with ⟨u0, h⟩ | ⟨u0, h⟩
    ·refine E_ct u0 rfl ?_
     refine E_seq (E_region (EL_at (.int .i64 (7)) rfl rfl ?_))
     refine EL_nil (thn_n (E_ret (blk_r ?_)))
     refine thn_r ?_
     obtain rfl := sinj h
     exact end1 rfl rfl (show _ = .int .i64 (7) from rfl) ⟨_, hfr, rfl⟩
    ·refine E_cf u0 rfl ?_
     refine E_seq (E_region (EL_pur (v := fPtr p1 0) (P_fieldAddr at_24_0 rfl (PT.ptr q1)) .plain rfl ?_))
     have s3 := PT_field (part_TieHarness_0).1 q1
     refine EL_do .plain rfl (D_load (g := j0) Try.isAgg3 Try.sizeOf3 rfl s3 fun z4 u3 => ?_)
     obtain rfl := RV_int.1 u3
     refine EL_in (.int .i64 ((w64 ((x0).Hooks - (1 : Int))))) rfl rfl rfl rfl ?_
     refine EL_pur (v := fPtr p1 1) (P_fieldAddr at_24_1 rfl (PT.ptr q1)) .plain rfl ?_
     have z3 := PT_field (part_TieHarness_1).1 q1
     refine EL_do .plain rfl (D_load (g := j0) Try.isAgg22 Try.sizeOf22 rfl z3 fun c4 d4 => ?_)
     obtain ⟨j1, j2, h⟩ := bsome h
     refine EL_do .plain rfl (D_call (g := j0) (vs := [.int .i64 (0), .int .i64 ((w64 ((x0).Hooks - (1 : Int)))), c4]) en94 (.cons rfl (.cons rfl (.cons rfl .nil))) (wk94 d4 j2) fun i4 m4 c5 hs hr => ?_)
     have hfr := hfr.ext hs
     subst hr
     refine EL_pur (v := .bool (!j1)) (P_not rfl) .plain rfl ?_
     refine EL_at (.bool (!j1)) rfl rfl ?_
     refine EL_nil (thn_n ?_)
     rcases csome h with ⟨y0, h⟩ | ⟨y0, h⟩
     ·refine E_ct y0 rfl ?_
      refine E_seq (E_region (EL_at (.int .i64 (2)) rfl rfl ?_))
      refine EL_nil (thn_n (E_ret (blk_r ?_)))
      refine thn_r ?_
      obtain rfl := sinj h
      exact end1 rfl rfl (show _ = .int .i64 (2) from rfl) ⟨_, hfr, rfl⟩
     ·refine E_cf y0 rfl ?_
      exact E_skip (blk_n (thn_n (d2 () _ _ ⟨i4, hfr⟩ h)))
 ·rintro _ n4 d5 ⟨i5, hfr⟩ h
  refine E_seq (E_region (EL_at (.int .i64 (0)) rfl rfl ?_))
  refine EL_nil (thn_n (E_ret ?_))
  obtain rfl := sinj h
  exact end1 rfl rfl (show _ = .int .i64 (0) from rfl) ⟨_, hfr, rfl⟩
/-- griffe/point.Check -/
def f74 (x0 : Design) : Option (Int) :=
 jn (σ := Unit) (fun (_ : Unit) =>
  some ((0 : Int))
  ) fun d2 =>
 (f95 ((1 : Int)) ((24 : Int)) (([(x0).Hooks] : List Int))).bind fun j1 =>
 bif (!j1) then
  some ((2 : Int))
 else
  bif (decide ((((x0).Rows).length : Int) > (60 : Int))) then
   some ((5 : Int))
  else
   bif ((((x0).Rows).length : Int) == (0 : Int)) then
    some ((7 : Int))
   else
    (shl64 (1 : Int) (x0).Hooks).bind fun o0 =>
    (f95 ((0 : Int)) ((w64 (o0 - (1 : Int)))) ((x0).Rows)).bind fun j0 =>
    bif (!j0) then
     some ((2 : Int))
    else
     d2 ()
theorem en74 : Enters Try.prog 74 := enters_of Try.func74 (by kernel_rfl) rfl
theorem wk74 {gI : Gh} {wI : World} {x0 : Design} {up0 : Value} (rp0 : RV gI.m wI x0 up0) {r : Int} (h : f74 x0 = some r) : Fn Try.prog 74 #[up0] gI wI (fun _ _ v => v = .int .i64 (r)) := by
 unfold f74 at h
 refine fn_of_E Try.func74 rfl (Nat.le_of_ble_eq_true rfl) fun g0 hm hfr => ?_
 have rp0 : RV g0.m wI x0 up0 := hm ▸ rp0
 show E _ 28 none _ _ _ _ _
 refine E_seq (E_region (EL_do .plain rfl (D_box (g := g0) rfl rp0 fun g1 w1 p1 hs q1 => ?_)))
 have hfr := hfr.ext hs
 refine EL_at (.int .i64 (0)) rfl rfl ?_
 refine EL_nil (thn_n (E_joinC h (fun (s : Unit) e w => ∃ (g : Gh) , Fr gI wI g w) (fun X51 d2 j2 h => ?_) ?_))
 ·refine E_block ?_
  refine E_seq (E_region (EL_pur (v := fPtr p1 0) (P_fieldAddr at_26_0 rfl (PT.ptr q1)) .plain rfl ?_))
  have j3 := PT_field (part_Design_0).1 q1
  refine EL_do .plain rfl (D_load (g := g1) Try.isAgg3 Try.sizeOf3 rfl j3 fun z4 o3 => ?_)
  obtain rfl := RV_int.1 o3
  refine EL_do .plain rfl (D_buildSlice (g := g1) 3006 (xs := ([(x0).Hooks] : List Int)) (vs := [.int .i64 ((x0).Hooks)]) Try.underlying22 Try.sizeOf3 Try.zeroValue3 rfl rfl (.cons rfl .nil) (RVs.cons (RV_int.2 rfl) RVs.nil) rfl rfl fun p3 c5 q3 hs o54 s3 hxt hfl => ?_)
  have hfr := hfr.stp hs
  have q1 := q1.stp hs
  obtain ⟨j1, q2, h⟩ := bsome h
  refine EL_do .plain rfl (D_call (g := p3) (vs := [.int .i64 (1), .int .i64 (24), q3]) en95 (.cons rfl (.cons rfl (.cons rfl .nil))) (wk95 s3 q2) fun z1 q4 d5 hs hr => ?_)
  have hfr := hfr.ext hs
  have q1 := q1.ext hs
  subst hr
  refine EL_pur (v := .bool (!j1)) (P_not rfl) .plain rfl ?_
  refine EL_at (.bool (!j1)) rfl rfl ?_
  refine EL_nil (thn_n ?_)
  rcases csome h with ⟨u0, h⟩ | ⟨u0, h⟩
  ·refine E_ct u0 rfl ?_
   refine E_seq (E_region (EL_at (.int .i64 (2)) rfl rfl ?_))
   refine EL_nil (thn_n (E_ret (blk_r ?_)))
   refine thn_r ?_
   obtain rfl := sinj h
   exact end1 rfl rfl (show _ = .int .i64 (2) from rfl) ⟨_, hfr, rfl⟩
  ·refine E_cf u0 rfl ?_
   refine E_seq (E_region (EL_pur (v := fPtr p1 1) (P_fieldAddr at_26_1 rfl (PT.ptr q1)) .plain rfl ?_))
   have u3 := PT_field (part_Design_1).1 q1
   refine EL_do .plain rfl (D_load (g := z1) Try.isAgg22 Try.sizeOf22 rfl u3 fun i5 z3 => ?_)
   refine EL_pur (v := .int .i64 (((x0).Rows).length : Int)) (P_len Try.underlying22 rfl z3) .plain rfl ?_
   refine EL_pur (v := .bool ((decide ((((x0).Rows).length : Int) > (60 : Int))))) (P_int rfl rfl rfl) .plain rfl ?_
   refine EL_pur (v := .bool ((decide ((((x0).Rows).length : Int) > (60 : Int))))) (P_assign rfl) .plain rfl ?_
   refine EL_nil (thn_n ?_)
   rcases csome h with ⟨y0, h⟩ | ⟨y0, h⟩
   ·refine E_ct y0 rfl ?_
    refine E_seq (E_region (EL_at (.int .i64 (5)) rfl rfl ?_))
    refine EL_nil (thn_n (E_ret (blk_r ?_)))
    refine thn_r ?_
    obtain rfl := sinj h
    exact end1 rfl rfl (show _ = .int .i64 (5) from rfl) ⟨_, hfr, rfl⟩
   ·refine E_cf y0 rfl ?_
    refine E_seq (E_region (EL_pur (v := fPtr p1 1) (P_fieldAddr at_26_1 rfl (PT.ptr q1)) .plain rfl ?_))
    have c4 := PT_field (part_Design_1).1 q1
    refine EL_do .plain rfl (D_load (g := z1) Try.isAgg22 Try.sizeOf22 rfl c4 fun v62 d4 => ?_)
    refine EL_pur (v := .int .i64 (((x0).Rows).length : Int)) (P_len Try.underlying22 rfl d4) .plain rfl ?_
    refine EL_in (.bool (((((x0).Rows).length : Int) == (0 : Int)))) rfl rfl rfl rfl ?_
    refine EL_at (.bool (((((x0).Rows).length : Int) == (0 : Int)))) rfl rfl ?_
    refine EL_nil (thn_n ?_)
    rcases csome h with ⟨i1, h⟩ | ⟨i1, h⟩
    ·refine E_ct i1 rfl ?_
     refine E_seq (E_region (EL_at (.int .i64 (7)) rfl rfl ?_))
     refine EL_nil (thn_n (E_ret (blk_r ?_)))
     refine thn_r ?_
     obtain rfl := sinj h
     exact end1 rfl rfl (show _ = .int .i64 (7) from rfl) ⟨_, hfr, rfl⟩
    ·refine E_cf i1 rfl ?_
     refine E_seq ?_
     have i4 := PT_field (part_Design_0).1 q1
     refine L_load (x := .tmp 20) Try.isAgg3 Try.sizeOf3 i4 fun j5 j4 s2 => ?_
     obtain rfl := RV_int.1 j4
     obtain ⟨o0, z2, h⟩ := bsome h
     have m4 := PT_field (part_Design_1).1 q1
     refine L_load (x := .tmp 24) Try.isAgg22 Try.sizeOf22 m4 fun i2 n4 d3 => ?_
     obtain ⟨j0, i3, h⟩ := bsome h
     refine E_drawL (g := z1) (n := 9) [(6, (fun v g w => v = .bool (j0)))] [0, 1, 2, 3, 4, 5, 6, 7, 8] rfl mixed (by kernel_rfl) (⟨fun _ => up_eq _, trivial⟩) ?_
     refine L_pur (c := fPtr p1 0) rfl rfl .plain (fun _ _ hd => P_fieldAddr at_26_0 rfl (PT.ptr q1)) ?_
     refine L_ld (c := .int .i64 ((x0).Hooks)) rfl rfl .plain (fun _ _ h => h.ch) s2 rfl ?_
     refine L_pur (c := .int .i64 (o0)) rfl rfl .plain (fun _ _ hd => P_int rfl rfl (congrArg (Option.map (Value.int .i64)) z2)) ?_
     refine L_pur (c := .int .i64 ((w64 (o0 - (1 : Int))))) rfl rfl .plain (fun _ _ hd => P_int rfl rfl rfl) ?_
     refine L_pur (c := fPtr p1 1) rfl rfl .plain (fun _ _ hd => P_fieldAddr at_26_1 rfl (PT.ptr q1)) ?_
     refine L_ld (c := i2) rfl rfl .plain (fun _ _ h => h.ch) d3 rfl ?_
     refine L_do (φ := fun v g w => v = .bool (j0)) rfl rfl .plain (fun g w hd => D_call (g := g) (vs := [.int .i64 (0), .int .i64 ((w64 (o0 - (1 : Int)))), i2]) en95 (.cons rfl (.cons rfl (.cons rfl .nil))) (wk95 (n4.ext hd.1) i3) fun g' w' v hs hr => ⟨g', hs, hr⟩) (fun l5 hv => ?_)
     obtain ⟨_, _, _, rfl⟩ := hv
     refine L_pur (c := .bool (!j0)) rfl rfl .plain (fun _ _ hd => P_not rfl) ?_
     refine L_pur (c := .bool (!j0)) rfl rfl .plain (fun _ _ hd => P_assign rfl) ?_
     refine L_nil fun o4 m5 hall => ?_
     have hs := hall.1
     have hfr := hfr.ext hs
     clear hs hall
     refine EL_nil (thn_n ?_)
     rcases csome h with ⟨n0, h⟩ | ⟨n0, h⟩
     ·refine E_ct n0 rfl ?_
      refine E_seq (E_region (EL_at (.int .i64 (2)) rfl rfl ?_))
      refine EL_nil (thn_n (E_ret (blk_r ?_)))
      refine thn_r ?_
      obtain rfl := sinj h
      exact end1 rfl rfl (show _ = .int .i64 (2) from rfl) ⟨_, hfr, rfl⟩
     ·refine E_cf n0 rfl ?_
      exact E_skip (blk_n (thn_n (j2 () _ _ ⟨o4, hfr⟩ h)))
 ·rintro _ p4 u4 ⟨x4, hfr⟩ h
  refine E_seq (E_region (EL_at (.int .i64 (0)) rfl rfl ?_))
  refine EL_nil (thn_n (E_ret ?_))
  obtain rfl := sinj h
  exact end1 rfl rfl (show _ = .int .i64 (0) from rfl) ⟨_, hfr, rfl⟩
/-- griffe/tie.Weave -/
def f82 (x0 : TieHarness) (x1 : Design) : Option ((List Str) × Int) :=
 jn (σ := (List Str)) (fun d3 =>
  jn (σ := (List Str)) (fun n4 =>
   Option.bind (α := (List Str)) (
    lp (σ := (List Str) × Int) (fun n6 (i3, j0) =>
     bif (decide (j0 < (((x1).Rows).length : Int))) then
      Option.bind (α := (List Str)) (
       (idx ((x1).Rows) j0).bind fun q3 =>
       (f102 ((⟨x0⟩ : TieTieHarness)) q3).bind fun o4 =>
       (apnd 16 i3 (([o4] : List Str))).bind fun o6 =>
       some (o6)
       ) fun d2 =>
      n6 (d2, (w64 (j0 + (1 : Int))))
     else
      some (i3)
     ) big (n4, (0 : Int))
    ) fun s2 =>
   some (s2, (0 : Int))
   ) fun p6 =>
  (f74 x1).bind fun z1 =>
  bif (z1 != (0 : Int)) then
   some ([], z1)
  else
   bif ((x1).Hooks != (x0).Hooks) then
    some ([], (4 : Int))
   else
    p6 (d3)
  ) fun k7 =>
 (f73 x0).bind fun i2 =>
 bif (i2 != (0 : Int)) then
  some ([], i2)
 else
  k7 ([])
theorem en82 : Enters Try.prog 82 := enters_of Try.func82 (by kernel_rfl) rfl
end Go.Proofs.Ytpiaipiehjcflaa
