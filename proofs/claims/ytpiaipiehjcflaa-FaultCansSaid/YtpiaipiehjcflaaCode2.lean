import Derived.Test.YtpiaipiehjcflaaCode1
set_option maxRecDepth 8000
set_option maxHeartbeats 4000000
namespace Go.Proofs.Ytpiaipiehjcflaa
open Go.RowKit
/-- (griffe/fault.loom).damages -/
def f90 (x0 : FaultFaultLoom) (σ : Type) (cons : Cons σ FaultDamage) (s0 : σ) : Option σ :=
 Option.bind (α := (List FaultDamage)) (
  lp (σ := (List FaultDamage) × Int) (fun dE (c6, u0) =>
   bif (decide (u0 < (w64 ((((((x0).FaultLoom).Design).Rows).length : Int) * (((x0).FaultLoom).Design).Hooks)))) then
    Option.bind (α := (List FaultDamage)) (
     (quo64 u0 (((x0).FaultLoom).Design).Hooks).bind fun z1 =>
     (rem64 u0 (((x0).FaultLoom).Design).Hooks).bind fun d2 =>
     (apnd 40 c6 (([(⟨(1 : Int), z1, d2, 0, false⟩ : FaultDamage)] : List FaultDamage))).bind fun c9 =>
     some (c9)
     ) fun z2 =>
    dE (z2, (w64 (u0 + (1 : Int))))
   else
    some (c6)
   ) big ([], (0 : Int))
  ) fun o3 =>
 Option.bind (α := (List FaultDamage)) (
  lp (σ := (List FaultDamage) × Int) (fun d9 (e5, j0) =>
   bif (decide (j0 < (((x0).FaultLoom).Design).Hooks)) then
    Option.bind (α := (List FaultDamage)) (
     (apnd 40 e5 (([(⟨(2 : Int), 0, j0, 0, false⟩ : FaultDamage), (⟨(2 : Int), 0, j0, 0, true⟩ : FaultDamage)] : List FaultDamage))).bind fun e9 =>
     some (e9)
     ) fun d3 =>
    d9 (d3, (w64 (j0 + (1 : Int))))
   else
    some (e5)
   ) big (o3, (0 : Int))
  ) fun p3 =>
 Option.bind (α := (List FaultDamage)) (
  lp (σ := (List FaultDamage) × Int) (fun g9 (i5, y0) =>
   bif (decide (y0 < (2 : Int))) then
    Option.bind (α := (List FaultDamage)) (
     (idx ((⟨List.toArray [(3 : Int), (4 : Int)], rfl⟩ : Vector Int 2)).toList y0).bind fun m2 =>
     lp (σ := (List FaultDamage) × Int) (fun i9 (j5, n0) =>
      bif (decide (n0 < (((((x0).FaultLoom).Design).Rows).length : Int))) then
       Option.bind (α := (List FaultDamage)) (
        (apnd 40 j5 (([(⟨m2, n0, 0, 0, false⟩ : FaultDamage)] : List FaultDamage))).bind fun j9 =>
        some (j9)
        ) fun i3 =>
       i9 (i3, (w64 (n0 + (1 : Int))))
      else
       some (j5)
      ) big (i5, (0 : Int))
     ) fun j3 =>
    g9 (j3, (w64 (y0 + (1 : Int))))
   else
    some (i5)
   ) big (p3, (0 : Int))
  ) fun s3 =>
 Option.bind (α := (List FaultDamage)) (
  lp (σ := (List FaultDamage) × Int) (fun k9 (l5, o0) =>
   bif (decide (o0 < (((((x0).FaultLoom).Harness).Warps).length : Int))) then
    Option.bind (α := (List FaultDamage)) (
     (apnd 40 l5 (([(⟨(5 : Int), 0, 0, o0, false⟩ : FaultDamage)] : List FaultDamage))).bind fun l9 =>
     some (l9)
     ) fun m3 =>
    k9 (m3, (w64 (o0 + (1 : Int))))
   else
    some (l5)
   ) big (s3, (0 : Int))
  ) fun i1 =>
 lp (σ := σ × Int) (fun m9 (m5, j1) =>
  bif (decide (j1 < ((i1).length : Int))) then
   jn (σ := σ) (fun n5 =>
    m9 (n5, (w64 (j1 + (1 : Int))))
    ) fun n9 =>
   (idx i1 j1).bind fun n7 =>
   (cons m5 n7).bind fun (d6, x4) =>
   bif (!d6) then
    some x4
   else
    n9 (x4)
  else
   some m5
  ) big (s0, (0 : Int))
theorem en90 : Enters Try.prog 90 := enters_of Try.func90 (by kernel_rfl) rfl
theorem wk90 {σ : Type} {cons : Cons σ FaultDamage} {s0 r : σ} {gI : Gh} {wI : World} {x0 : FaultFaultLoom} {up0 : Value} (rp0 : RV gI.m wI x0 up0) (h : f90 x0 σ cons s0 = some r) : IterC Try.prog (RA1 (α := FaultDamage)) 90 #[up0] #[] gI wI cons s0 r := by
 unfold f90 at h
 refine iter_of_E Try.func90 rfl (Nat.le_of_ble_eq_true rfl) fun l B J g0 hm hAb hRo hfr => ?_
 have rp0 : RV g0.m wI x0 up0 := hm ▸ rp0
 show E _ 96 none _ _ (envAt #[up0, .func (.yield l) #[] #[]]) _ _
 refine E_seq (E_region (EL_do .plain rfl (D_box (g := g0) rfl rp0 fun g1 w1 p1 hs q1 => ?_)))
 have hfr := hfr.ext_ hAb hs
 refine EL_nil (thn_n (E_seq ?_))
 have q2 := PT_field (part_FaultFaultLoom_0).1 q1
 have q3 := PT_field (part_FaultLoom_1).1 q2
 have q4 := PT_field (part_Design_1).1 q3
 refine L_load (x := .tmp 18) Try.isAgg22 Try.sizeOf22 q4 fun v5 r5 xF => ?_
 have q6 := PT_field (part_FaultFaultLoom_0).1 q1
 have q7 := PT_field (part_FaultLoom_1).1 q6
 have q8 := PT_field (part_Design_0).1 q7
 refine L_load (x := .tmp 23) Try.isAgg3 Try.sizeOf3 q8 fun v9 r9 yF => ?_
 obtain rfl := RV_int.1 r9
 have eE := PT_field (part_FaultFaultLoom_0).1 q1
 have gE := PT_field (part_FaultLoom_0).1 eE
 have zF := PT_field (part_TieHarness_1).1 gE
 refine L_load (x := .tmp 27) Try.isAgg22 Try.sizeOf22 zF fun aG bG iE => ?_
 refine E_drawL (g := g1) (n := 17) [] [0, 1, 2, 3, 4, 5, 6, 7, 8, 9, 10, 11, 12, 13, 14, 15, 16] rfl mixed (by kernel_rfl) trivial ?_
 refine L_pur (c := fPtr p1 0) rfl rfl .plain (fun _ _ hd => P_fieldAddr at_98_0 rfl (PT.ptr q1)) ?_
 refine L_pur (c := fPtr (fPtr p1 0) 2) rfl rfl .plain (fun _ _ hd => P_fieldAddr at_28_1 rfl (PT.ptr q2)) ?_
 refine L_pur (c := fPtr (fPtr (fPtr p1 0) 2) 1) rfl rfl .plain (fun _ _ hd => P_fieldAddr at_26_1 rfl (PT.ptr q3)) ?_
 refine L_ld (c := v5) rfl rfl .plain (fun _ _ h => h.ch) xF rfl ?_
 refine L_pur (c := .int .i64 (((((x0).FaultLoom).Design).Rows).length : Int)) rfl rfl .plain (fun _ _ hd => P_len Try.underlying22 rfl r5) ?_
 refine L_pur (c := fPtr p1 0) rfl rfl .plain (fun _ _ hd => P_fieldAddr at_98_0 rfl (PT.ptr q1)) ?_
 refine L_pur (c := fPtr (fPtr p1 0) 2) rfl rfl .plain (fun _ _ hd => P_fieldAddr at_28_1 rfl (PT.ptr q6)) ?_
 refine L_pur (c := fPtr (fPtr (fPtr p1 0) 2) 0) rfl rfl .plain (fun _ _ hd => P_fieldAddr at_26_0 rfl (PT.ptr q7)) ?_
 refine L_ld (c := .int .i64 ((((x0).FaultLoom).Design).Hooks)) rfl rfl .plain (fun _ _ h => h.ch) yF rfl ?_
 refine L_pur (c := fPtr p1 0) rfl rfl .plain (fun _ _ hd => P_fieldAddr at_98_0 rfl (PT.ptr q1)) ?_
 refine L_pur (c := fPtr (fPtr p1 0) 0) rfl rfl .plain (fun _ _ hd => P_fieldAddr at_28_0 rfl (PT.ptr eE)) ?_
 refine L_pur (c := fPtr (fPtr (fPtr p1 0) 0) 1) rfl rfl .plain (fun _ _ hd => P_fieldAddr at_24_1 rfl (PT.ptr gE)) ?_
 refine L_ld (c := aG) rfl rfl .plain (fun _ _ h => h.ch) iE rfl ?_
 refine L_pur (c := .int .i64 (((((x0).FaultLoom).Harness).Warps).length : Int)) rfl rfl .plain (fun _ _ hd => P_len Try.underlying22 rfl bG) ?_
 refine L_pur (c := .int .i64 (((((x0).FaultLoom).Design).Rows).length : Int)) rfl rfl .plain (fun _ _ hd => P_assign rfl) ?_
 refine L_pur (c := .int .i64 ((((x0).FaultLoom).Design).Hooks)) rfl rfl .plain (fun _ _ hd => P_assign rfl) ?_
 refine L_pur (c := .int .i64 (((((x0).FaultLoom).Harness).Warps).length : Int)) rfl rfl .plain (fun _ _ hd => P_assign rfl) ?_
 refine L_nil fun cG cI hall => ?_
 have hs := hall.1
 have hfr := hfr.ext_ hAb hs
 clear hs hall
 refine EL_nil (thn_n (E_seq (E_region (EL_at (.slice none 0 0) rfl rfl ?_))))
 refine EL_nil (thn_n ?_)
 obtain ⟨o3, hx, h⟩ := bsome h
 refine E_join (fun e w => ∃ (g : Gh) (v7 : Value), FrY gI wI B J (s0) g w ∧ e 1 = (.func (.yield l) #[] #[]) ∧ e 4 = .int .i64 ((((((x0).FaultLoom).Design).Rows).length : Int)) ∧ e 5 = .int .i64 ((((x0).FaultLoom).Design).Hooks) ∧ e 6 = .int .i64 ((((((x0).FaultLoom).Harness).Warps).length : Int)) ∧ e 7 = v7 ∧ RV g.m w (o3 : List FaultDamage) v7 ∧ OS 1007 g w 62 (o3 : List FaultDamage) v7) (fun Q' hQ => ?_) (fun eG uG hR => ?_)
 ·replace h := hx
  clear hx
  refine E_seq (E_region (EL_mw (.int .i64 (((((x0).FaultLoom).Design).Rows).length : Int)) rfl rfl ?_))
  refine EL_mw (.int .i64 ((((x0).FaultLoom).Design).Hooks)) rfl rfl ?_
  refine EL_pur (v := .int .i64 ((w64 ((((((x0).FaultLoom).Design).Rows).length : Int) * (((x0).FaultLoom).Design).Hooks)))) (P_int rfl rfl rfl) .plain rfl ?_
  refine EL_mw (.int .i64 (0)) rfl rfl ?_
  refine EL_nil (thn_n (E_block ?_))
  refine E_lp h (fun (s : (List FaultDamage) × Int) e w => ∃ (g : Gh) (v7 : Value), FrY gI wI B J (s0) g w ∧ e 1 = (.func (.yield l) #[] #[]) ∧ e 4 = .int .i64 ((((((x0).FaultLoom).Design).Rows).length : Int)) ∧ e 5 = .int .i64 ((((x0).FaultLoom).Design).Hooks) ∧ e 6 = .int .i64 ((((((x0).FaultLoom).Harness).Warps).length : Int)) ∧ e 7 = v7 ∧ RV g.m w (s.1 : List FaultDamage) v7 ∧ OS 1007 g w 62 (s.1 : List FaultDamage) v7 ∧ e 32 = .int .i64 ((w64 ((((((x0).FaultLoom).Design).Rows).length : Int) * (((x0).FaultLoom).Design).Hooks))) ∧ e 33 = .int .i64 (s.2)) ⟨cG, (.slice none 0 0), hfr, rfl, rfl, rfl, rfl, rfl, RV_nil, OS.nil, rfl, rfl⟩ (fun X94 dE jE => ?_)
  rintro ⟨c6, u0⟩ vG dG ⟨o9, t7, hfr, u7, x7, z4, y7, z7, c5, d5, o6, o5⟩ h
  refine E_seq (E_region (EL_pur (v := .bool ((decide (u0 < (w64 ((((((x0).FaultLoom).Design).Rows).length : Int) * (((x0).FaultLoom).Design).Hooks)))))) (P_int o5 o6 rfl) .plain rfl ?_))
  refine EL_nil (thn_n (E_seq ?_))
  rcases csome h with ⟨o7, h⟩ | ⟨o7, h⟩
  ·refine E_ct o7 rfl ?_
   refine E_skip (thn_n ?_)
   obtain ⟨z2, hx, h⟩ := bsome h
   refine E_join (fun e w => ∃ (g : Gh) (v7 : Value), FrY gI wI B J (s0) g w ∧ e 1 = (.func (.yield l) #[] #[]) ∧ e 4 = .int .i64 ((((((x0).FaultLoom).Design).Rows).length : Int)) ∧ e 5 = .int .i64 ((((x0).FaultLoom).Design).Hooks) ∧ e 6 = .int .i64 ((((((x0).FaultLoom).Harness).Warps).length : Int)) ∧ e 7 = v7 ∧ RV g.m w (z2 : List FaultDamage) v7 ∧ OS 1007 g w 62 (z2 : List FaultDamage) v7 ∧ e 32 = .int .i64 ((w64 ((((((x0).FaultLoom).Design).Rows).length : Int) * (((x0).FaultLoom).Design).Hooks))) ∧ e 33 = .int .i64 (u0)) (fun Q' hQ => ?_) (fun gG xG hR => ?_)
   ·replace h := hx
    clear hx
    refine E_block ?_
    refine E_seq (E_region (EL_mv o5 rfl ?_))
    refine EL_at (.int .i64 (u0)) rfl rfl ?_
    refine EL_nil (thn_n ?_)
    obtain ⟨z1, jD, h⟩ := bsome h
    obtain ⟨d2, kD, h⟩ := bsome h
    have p9 : RV o9.m dG (⟨(1 : Int), z1, d2, 0, false⟩ : FaultDamage) (.agg (setCh [[.int .i64 0], [.int .i64 0], [.int .i64 0], [.int .i64 0], [.bool false]] [(0, .int .i64 (1)), (1, .int .i64 (z1)), (2, .int .i64 (d2))]).flatten.toArray) := RV_build rfl (rep_pair (rfl) (rep_pair (rfl) (rep_pair (rfl) (rep_pair (rep_int) (rep_last (rep_bool))))))
    generalize lD : (Value.agg (setCh [[.int .i64 0], [.int .i64 0], [.int .i64 0], [.int .i64 0], [.bool false]] [(0, .int .i64 (1)), (1, .int .i64 (z1)), (2, .int .i64 (d2))]).flatten.toArray) = q9 at p9
    refine E_drawL (g := o9) (n := 9) [(8, (fun v g w => RV g.m w ([(⟨(1 : Int), z1, d2, 0, false⟩ : FaultDamage)] : List FaultDamage) v ∧ OS 3044 g w 62 ([(⟨(1 : Int), z1, d2, 0, false⟩ : FaultDamage)] : List FaultDamage) v ∧ FullV v))] [0, 1, 2, 3, 4, 5, 6, 7, 8] rfl mixed (by kernel_rfl) (⟨fun _ => up_and up_rv (up_and up_os (up_eq _)), trivial⟩) ?_
    refine L_pur (c := t7) rfl rfl .plain (fun _ _ hd => P_move z7) ?_
    refine L_pur (c := .int .i64 (u0)) rfl rfl .plain (fun _ _ hd => P_move rfl) ?_
    refine L_pur (c := .int .i64 ((((x0).FaultLoom).Design).Hooks)) rfl rfl .plain (fun _ _ hd => P_move z4) ?_
    refine L_pur (c := .int .i64 (z1)) rfl rfl .plain (fun _ _ hd => P_int rfl rfl (congrArg (Option.map (Value.int .i64)) jD)) ?_
    refine L_pur (c := .int .i64 (u0)) rfl rfl .plain (fun _ _ hd => P_move rfl) ?_
    refine L_pur (c := .int .i64 ((((x0).FaultLoom).Design).Hooks)) rfl rfl .plain (fun _ _ hd => P_move z4) ?_
    refine L_pur (c := .int .i64 (d2)) rfl rfl .plain (fun _ _ hd => P_int rfl rfl (congrArg (Option.map (Value.int .i64)) kD)) ?_
    refine L_pur (c := q9) rfl rfl .plain (fun _ _ hd => lD ▸ P_build (vs := [(0, .int .i64 (1)), (1, .int .i64 (z1)), (2, .int .i64 (d2))]) [[.int .i64 0], [.int .i64 0], [.int .i64 0], [.int .i64 0], [.bool false]] lay_62 rfl rfl (.cons rfl (.cons rfl (.cons rfl .nil))) ⟨⟨_, rfl, rfl⟩, ⟨⟨_, rfl, rfl⟩, ⟨⟨_, rfl, rfl⟩, trivial⟩⟩⟩) ?_
    refine L_do (φ := fun v g w => RV g.m w ([(⟨(1 : Int), z1, d2, 0, false⟩ : FaultDamage)] : List FaultDamage) v ∧ OS 3044 g w 62 ([(⟨(1 : Int), z1, d2, 0, false⟩ : FaultDamage)] : List FaultDamage) v ∧ FullV v) rfl rfl .plain (fun g w hd => D_buildSlice (g := g) 3044 (xs := ([(⟨(1 : Int), z1, d2, 0, false⟩ : FaultDamage)] : List FaultDamage)) (vs := [q9]) Try.underlying29 Try.sizeOf62 Try.zeroValue62 rfl rfl (.cons rfl .nil) (RVs.cons (p9.ext hd.1) RVs.nil) rfl rfl fun g' w' v hs o r hxt hfl => ⟨g', hxt, r, o, hfl⟩) (fun j4 hv => ?_)
    clear hv
    refine L_nil fun kE yG hall => ?_
    have hs := hall.1
    have hfr := hfr.ext_ hAb hs
    have c5 := c5.ext hs
    have d5 := d5.ext hs
    have lE := (word_all (A := fun g w => RV g.m w ([(⟨(1 : Int), z1, d2, 0, false⟩ : FaultDamage)] : List FaultDamage) j4 ∧ OS 3044 g w 62 ([(⟨(1 : Int), z1, d2, 0, false⟩ : FaultDamage)] : List FaultDamage) j4 ∧ FullV j4) 8 rfl hall).1
    have o148 := (word_all (A := fun g w => RV g.m w ([(⟨(1 : Int), z1, d2, 0, false⟩ : FaultDamage)] : List FaultDamage) j4 ∧ OS 3044 g w 62 ([(⟨(1 : Int), z1, d2, 0, false⟩ : FaultDamage)] : List FaultDamage) j4 ∧ FullV j4) 8 rfl hall).2.1
    clear hs hall
    obtain ⟨c9, mD, h⟩ := bsome h
    refine EL_do .plain rfl (D_append (g := kE) (i := 1007) Try.underlying29 info_62 rfl rfl d5 c5 rfl lE mD fun mE zG s9 hs o149 nE _ => ?_)
    have hfr := hfr.stp_ hAb hs rfl
    refine EL_at s9 rfl rfl ?_
    refine EL_nil (blk_n ?_)
    obtain rfl := sinj h
    exact hQ _ _ ⟨mE, (s9), hfr, u7, x7, z4, y7, rfl, nE, o149, o6, o5⟩
   ·clear hx
    obtain ⟨oE, t9, hfr, u9, x9, y9, z9, aA, bA, cA, c8, d8⟩ := hR
    refine E_region (EL_in (.int .i64 ((w64 (u0 + (1 : Int))))) d8 rfl rfl rfl ?_)
    refine EL_mw (.int .i64 ((w64 (u0 + (1 : Int))))) rfl rfl ?_
    exact EL_nil (thn_n (jE (z2, (w64 (u0 + (1 : Int)))) _ _ ⟨oE, (t9), hfr, u9, x9, y9, z9, aA, bA, cA, c8, rfl⟩ h))
  ·refine E_cf o7 rfl ?_
   refine E_exit ?_
   refine thn_e ?_
   refine thn_e ?_
   refine blk_hit ?_
   obtain rfl := sinj h
   exact hQ _ _ ⟨o9, (t7), hfr, u7, x7, z4, y7, z7, c5, d5⟩
 ·clear hx
  obtain ⟨pE, dA, hfr, eA, gA, iA, jA, kA, lA, mA⟩ := hR
  obtain ⟨p3, hx, h⟩ := bsome h
  refine E_join (fun e w => ∃ (g : Gh) (v7 : Value), FrY gI wI B J (s0) g w ∧ e 1 = (.func (.yield l) #[] #[]) ∧ e 4 = .int .i64 ((((((x0).FaultLoom).Design).Rows).length : Int)) ∧ e 6 = .int .i64 ((((((x0).FaultLoom).Harness).Warps).length : Int)) ∧ e 7 = v7 ∧ RV g.m w (p3 : List FaultDamage) v7 ∧ OS 1007 g w 62 (p3 : List FaultDamage) v7) (fun Q' hQ => ?_) (fun hG qE hR => ?_)
  ·replace h := hx
   clear hx
   refine E_seq (E_region (EL_mv iA rfl ?_))
   refine EL_mw (.int .i64 (0)) rfl rfl ?_
   refine EL_nil (thn_n (E_block ?_))
   refine E_lp h (fun (s : (List FaultDamage) × Int) e w => ∃ (g : Gh) (v7 : Value), FrY gI wI B J (s0) g w ∧ e 1 = (.func (.yield l) #[] #[]) ∧ e 4 = .int .i64 ((((((x0).FaultLoom).Design).Rows).length : Int)) ∧ e 6 = .int .i64 ((((((x0).FaultLoom).Harness).Warps).length : Int)) ∧ e 7 = v7 ∧ RV g.m w (s.1 : List FaultDamage) v7 ∧ OS 1007 g w 62 (s.1 : List FaultDamage) v7 ∧ e 47 = .int .i64 ((((x0).FaultLoom).Design).Hooks) ∧ e 48 = .int .i64 (s.2)) ⟨pE, (dA), hfr, eA, gA, jA, kA, lA, mA, rfl, rfl⟩ (fun X167 d9 nD => ?_)
   rintro ⟨e5, j0⟩ iG nA ⟨e6, oA, hfr, p6, r6, s6, t6, u3, z3, p5, m4⟩ h
   refine E_seq (E_region (EL_pur (v := .bool ((decide (j0 < (((x0).FaultLoom).Design).Hooks)))) (P_int m4 p5 rfl) .plain rfl ?_))
   refine EL_nil (thn_n (E_seq ?_))
   rcases csome h with ⟨i6, h⟩ | ⟨i6, h⟩
   ·refine E_ct i6 rfl ?_
    refine E_skip (thn_n ?_)
    obtain ⟨d3, hx, h⟩ := bsome h
    refine E_join (fun e w => ∃ (g : Gh) (v7 : Value), FrY gI wI B J (s0) g w ∧ e 1 = (.func (.yield l) #[] #[]) ∧ e 4 = .int .i64 ((((((x0).FaultLoom).Design).Rows).length : Int)) ∧ e 6 = .int .i64 ((((((x0).FaultLoom).Harness).Warps).length : Int)) ∧ e 7 = v7 ∧ RV g.m w (d3 : List FaultDamage) v7 ∧ OS 1007 g w 62 (d3 : List FaultDamage) v7 ∧ e 47 = .int .i64 ((((x0).FaultLoom).Design).Hooks) ∧ e 48 = .int .i64 (j0)) (fun Q' hQ => ?_) (fun jG aH hR => ?_)
    ·replace h := hx
     clear hx
     refine E_block ?_
     refine E_seq (E_region (EL_mv m4 rfl ?_))
     refine EL_at (.int .i64 (j0)) rfl rfl ?_
     refine EL_nil (thn_n (E_region (EL_mv t6 rfl ?_)))
     refine EL_mw (.int .i64 (j0)) rfl rfl ?_
     have pA : RV e6.m nA (⟨(2 : Int), 0, j0, 0, false⟩ : FaultDamage) (.agg (setCh [[.int .i64 0], [.int .i64 0], [.int .i64 0], [.int .i64 0], [.bool false]] [(0, .int .i64 (2)), (2, .int .i64 (j0))]).flatten.toArray) := RV_build rfl (rep_pair (rfl) (rep_pair (rep_int) (rep_pair (rfl) (rep_pair (rep_int) (rep_last (rep_bool))))))
     generalize oD : (Value.agg (setCh [[.int .i64 0], [.int .i64 0], [.int .i64 0], [.int .i64 0], [.bool false]] [(0, .int .i64 (2)), (2, .int .i64 (j0))]).flatten.toArray) = qA at pA
     refine EL_pur (v := qA) (oD ▸ P_build (vs := [(0, .int .i64 (2)), (2, .int .i64 (j0))]) [[.int .i64 0], [.int .i64 0], [.int .i64 0], [.int .i64 0], [.bool false]] lay_62 rfl rfl (.cons rfl (.cons rfl .nil)) ⟨⟨_, rfl, rfl⟩, ⟨⟨_, rfl, rfl⟩, trivial⟩⟩) .plain rfl ?_
     refine EL_mw (.int .i64 (j0)) rfl rfl ?_
     have rA : RV e6.m nA (⟨(2 : Int), 0, j0, 0, true⟩ : FaultDamage) (.agg (setCh [[.int .i64 0], [.int .i64 0], [.int .i64 0], [.int .i64 0], [.bool false]] [(0, .int .i64 (2)), (2, .int .i64 (j0)), (4, .bool true)]).flatten.toArray) := RV_build rfl (rep_pair (rfl) (rep_pair (rep_int) (rep_pair (rfl) (rep_pair (rep_int) (rep_last (rfl))))))
     generalize pD : (Value.agg (setCh [[.int .i64 0], [.int .i64 0], [.int .i64 0], [.int .i64 0], [.bool false]] [(0, .int .i64 (2)), (2, .int .i64 (j0)), (4, .bool true)]).flatten.toArray) = sA at rA
     refine EL_pur (v := sA) (pD ▸ P_build (vs := [(0, .int .i64 (2)), (2, .int .i64 (j0)), (4, .bool true)]) [[.int .i64 0], [.int .i64 0], [.int .i64 0], [.int .i64 0], [.bool false]] lay_62 rfl rfl (.cons rfl (.cons rfl (.cons rfl .nil))) ⟨⟨_, rfl, rfl⟩, ⟨⟨_, rfl, rfl⟩, ⟨⟨_, rfl, rfl⟩, trivial⟩⟩⟩) .plain rfl ?_
     refine EL_do .plain rfl (D_buildSlice (g := e6) 3056 (xs := ([(⟨(2 : Int), 0, j0, 0, false⟩ : FaultDamage), (⟨(2 : Int), 0, j0, 0, true⟩ : FaultDamage)] : List FaultDamage)) (vs := [qA, sA]) Try.underlying29 Try.sizeOf62 Try.zeroValue62 rfl rfl (.cons rfl (.cons rfl .nil)) (RVs.cons pA (RVs.cons rA RVs.nil)) rfl rfl fun rE bH cH hs o177 sE hxt hfl => ?_)
     have hfr := hfr.stp_ hAb hs rfl
     have u3 := u3.stp hs
     have z3 := z3.stp hs rfl
     obtain ⟨e9, qD, h⟩ := bsome h
     refine EL_do .plain rfl (D_append (g := rE) (i := 1007) Try.underlying29 info_62 rfl rfl z3 u3 rfl sE qD fun tE dH tA hs o178 uE _ => ?_)
     have hfr := hfr.stp_ hAb hs rfl
     refine EL_at tA rfl rfl ?_
     refine EL_nil (blk_n ?_)
     obtain rfl := sinj h
     exact hQ _ _ ⟨tE, (tA), hfr, p6, r6, s6, rfl, uE, o178, p5, m4⟩
    ·clear hx
     obtain ⟨vE, uA, hfr, vA, xA, yA, zA, aB, bB, e8, g8⟩ := hR
     refine E_region (EL_in (.int .i64 ((w64 (j0 + (1 : Int))))) g8 rfl rfl rfl ?_)
     refine EL_mw (.int .i64 ((w64 (j0 + (1 : Int))))) rfl rfl ?_
     exact EL_nil (thn_n (nD (d3, (w64 (j0 + (1 : Int)))) _ _ ⟨vE, (uA), hfr, vA, xA, yA, zA, aB, bB, e8, rfl⟩ h))
   ·refine E_cf i6 rfl ?_
    refine E_exit ?_
    refine thn_e ?_
    refine thn_e ?_
    refine blk_hit ?_
    obtain rfl := sinj h
    exact hQ _ _ ⟨e6, (oA), hfr, p6, r6, s6, t6, u3, z3⟩
  ·clear hx
   obtain ⟨cB, dB, hfr, eB, iB, jB, kB, lB, mB⟩ := hR
   obtain ⟨s3, hx, h⟩ := bsome h
   refine E_join (fun e w => ∃ (g : Gh) (v7 : Value), FrY gI wI B J (s0) g w ∧ e 1 = (.func (.yield l) #[] #[]) ∧ e 6 = .int .i64 ((((((x0).FaultLoom).Harness).Warps).length : Int)) ∧ e 7 = v7 ∧ RV g.m w (s3 : List FaultDamage) v7 ∧ OS 1007 g w 62 (s3 : List FaultDamage) v7) (fun Q' hQ => ?_) (fun kG gH hR => ?_)
   ·replace h := hx
    clear hx
    refine E_seq (E_region ?_)
    have nB : RV cB.m qE (⟨List.toArray [(3 : Int), (4 : Int)], rfl⟩ : Vector Int 2) (.agg (setCh [[.int .i64 0], [.int .i64 0]] [(0, .int .i64 (3)), (1, .int .i64 (4))]).flatten.toArray) := RV_build rfl (rep_vec (flat_chunk rfl (flat_chunk rfl flat_nil)) rfl)
    generalize rD : (Value.agg (setCh [[.int .i64 0], [.int .i64 0]] [(0, .int .i64 (3)), (1, .int .i64 (4))]).flatten.toArray) = s2 at nB
    refine EL_pur (v := s2) (rD ▸ P_buildA (vs := [(0, .int .i64 (3)), (1, .int .i64 (4))]) [[.int .i64 0], [.int .i64 0]] Try.underlying149 layA_149 szA_60 rfl (by simp) (.cons rfl (.cons rfl .nil)) ⟨⟨_, rfl, rfl⟩, ⟨⟨_, rfl, rfl⟩, trivial⟩⟩) .plain rfl ?_
    refine EL_mw (.int .i64 (0)) rfl rfl ?_
    refine EL_nil (thn_n (E_block ?_))
    refine E_lp h (fun (s : (List FaultDamage) × Int) e w => ∃ (g : Gh) (v7 : Value), FrY gI wI B J (s0) g w ∧ e 1 = (.func (.yield l) #[] #[]) ∧ e 4 = .int .i64 ((((((x0).FaultLoom).Design).Rows).length : Int)) ∧ e 6 = .int .i64 ((((((x0).FaultLoom).Harness).Warps).length : Int)) ∧ e 7 = v7 ∧ RV g.m w (s.1 : List FaultDamage) v7 ∧ OS 1007 g w 62 (s.1 : List FaultDamage) v7 ∧ e 59 = s2 ∧ RV g.m w ((⟨List.toArray [(3 : Int), (4 : Int)], rfl⟩ : Vector Int 2) : Vector Int 2) s2 ∧ e 60 = .int .i64 (s.2)) ⟨cB, (dB), hfr, eB, iB, jB, kB, lB, mB, rfl, nB, rfl⟩ (fun X216 g9 sD => ?_)
    rintro ⟨i5, y0⟩ lG iH ⟨oB, u6, hfr, v6, x6, y6, z6, a7, b7, q5, n4, o4⟩ h
    refine E_seq (E_region (EL_in (.bool ((decide (y0 < (2 : Int))))) o4 rfl rfl rfl ?_))
    refine EL_nil (thn_n (E_seq ?_))
    rcases csome h with ⟨j6, h⟩ | ⟨j6, h⟩
    ·refine E_ct j6 rfl ?_
     refine E_skip (thn_n ?_)
     obtain ⟨j3, hx, h⟩ := bsome h
     refine E_join (fun e w => ∃ (g : Gh) (v7 : Value), FrY gI wI B J (s0) g w ∧ e 1 = (.func (.yield l) #[] #[]) ∧ e 4 = .int .i64 ((((((x0).FaultLoom).Design).Rows).length : Int)) ∧ e 6 = .int .i64 ((((((x0).FaultLoom).Harness).Warps).length : Int)) ∧ e 7 = v7 ∧ RV g.m w (j3 : List FaultDamage) v7 ∧ OS 1007 g w 62 (j3 : List FaultDamage) v7 ∧ e 59 = s2 ∧ RV g.m w ((⟨List.toArray [(3 : Int), (4 : Int)], rfl⟩ : Vector Int 2) : Vector Int 2) s2 ∧ e 60 = .int .i64 (y0)) (fun Q' hQ => ?_) (fun mG jH hR => ?_)
     ·replace h := hx
      clear hx
      refine E_block ?_
      refine E_seq (E_region ?_)
      obtain ⟨m2, a8, h⟩ := bsome h
      have xE := RV_idxA n4 a8
      refine EL_pur (v := .int .i64 (m2)) ((RV_int.1 xE) ▸ P_indexA Try.underlying149 Try.isAgg60 Try.sizeOf60 q5 n4 o4 a8) .plain rfl ?_
      refine EL_at (.int .i64 (m2)) rfl rfl ?_
      refine EL_nil (thn_n (E_seq (E_region (EL_pur (v := .int .i64 ((((((x0).FaultLoom).Design).Rows).length : Int))) (P_move x6) .plain rfl ?_))))
      refine EL_mw (.int .i64 (0)) rfl rfl ?_
      refine EL_nil (thn_n (E_block ?_))
      refine E_lp h (fun (s : (List FaultDamage) × Int) e w => ∃ (g : Gh) (v7 : Value), FrY gI wI B J (s0) g w ∧ e 1 = (.func (.yield l) #[] #[]) ∧ e 4 = .int .i64 ((((((x0).FaultLoom).Design).Rows).length : Int)) ∧ e 6 = .int .i64 ((((((x0).FaultLoom).Harness).Warps).length : Int)) ∧ e 7 = v7 ∧ RV g.m w (s.1 : List FaultDamage) v7 ∧ OS 1007 g w 62 (s.1 : List FaultDamage) v7 ∧ e 11 = .int .i64 (m2) ∧ e 59 = s2 ∧ RV g.m w ((⟨List.toArray [(3 : Int), (4 : Int)], rfl⟩ : Vector Int 2) : Vector Int 2) s2 ∧ e 60 = .int .i64 (y0) ∧ e 63 = .int .i64 ((((((x0).FaultLoom).Design).Rows).length : Int)) ∧ e 64 = .int .i64 (s.2)) ⟨oB, (u6), hfr, v6, x6, y6, z6, a7, b7, rfl, q5, n4, o4, rfl, rfl⟩ (fun X235 i9 tD => ?_)
      rintro ⟨j5, n0⟩ nG yE ⟨p7, pB, hfr, c7, d7, e7, g7, c4, d4, t5, u5, j2, x5, y5, p4⟩ h
      refine E_seq (E_region (EL_pur (v := .bool ((decide (n0 < (((((x0).FaultLoom).Design).Rows).length : Int))))) (P_int p4 y5 rfl) .plain rfl ?_))
      refine EL_nil (thn_n (E_seq ?_))
      rcases csome h with ⟨k6, h⟩ | ⟨k6, h⟩
      ·refine E_ct k6 rfl ?_
       refine E_skip (thn_n ?_)
       obtain ⟨i3, hx, h⟩ := bsome h
       refine E_join (fun e w => ∃ (g : Gh) (v7 : Value), FrY gI wI B J (s0) g w ∧ e 1 = (.func (.yield l) #[] #[]) ∧ e 4 = .int .i64 ((((((x0).FaultLoom).Design).Rows).length : Int)) ∧ e 6 = .int .i64 ((((((x0).FaultLoom).Harness).Warps).length : Int)) ∧ e 7 = v7 ∧ RV g.m w (i3 : List FaultDamage) v7 ∧ OS 1007 g w 62 (i3 : List FaultDamage) v7 ∧ e 11 = .int .i64 (m2) ∧ e 59 = s2 ∧ RV g.m w ((⟨List.toArray [(3 : Int), (4 : Int)], rfl⟩ : Vector Int 2) : Vector Int 2) s2 ∧ e 60 = .int .i64 (y0) ∧ e 63 = .int .i64 ((((((x0).FaultLoom).Design).Rows).length : Int)) ∧ e 64 = .int .i64 (n0)) (fun Q' hQ => ?_) (fun oG kH hR => ?_)
       ·replace h := hx
        clear hx
        refine E_block ?_
        refine E_seq (E_region (EL_mv p4 rfl ?_))
        refine EL_at (.int .i64 (n0)) rfl rfl ?_
        refine EL_nil (thn_n (E_region (EL_mv g7 rfl ?_)))
        refine EL_mv t5 rfl ?_
        refine EL_mw (.int .i64 (n0)) rfl rfl ?_
        have qB : RV p7.m yE (⟨m2, n0, 0, 0, false⟩ : FaultDamage) (.agg (setCh [[.int .i64 0], [.int .i64 0], [.int .i64 0], [.int .i64 0], [.bool false]] [(0, .int .i64 (m2)), (1, .int .i64 (n0))]).flatten.toArray) := RV_build rfl (rep_pair (rfl) (rep_pair (rfl) (rep_pair (rep_int) (rep_pair (rep_int) (rep_last (rep_bool))))))
        generalize uD : (Value.agg (setCh [[.int .i64 0], [.int .i64 0], [.int .i64 0], [.int .i64 0], [.bool false]] [(0, .int .i64 (m2)), (1, .int .i64 (n0))]).flatten.toArray) = rB at qB
        refine EL_pur (v := rB) (uD ▸ P_build (vs := [(0, .int .i64 (m2)), (1, .int .i64 (n0))]) [[.int .i64 0], [.int .i64 0], [.int .i64 0], [.int .i64 0], [.bool false]] lay_62 rfl rfl (.cons rfl (.cons rfl .nil)) ⟨⟨_, rfl, rfl⟩, ⟨⟨_, rfl, rfl⟩, trivial⟩⟩) .plain rfl ?_
        refine EL_do .plain rfl (D_buildSlice (g := p7) 3071 (xs := ([(⟨m2, n0, 0, 0, false⟩ : FaultDamage)] : List FaultDamage)) (vs := [rB]) Try.underlying29 Try.sizeOf62 Try.zeroValue62 rfl rfl (.cons rfl .nil) (RVs.cons qB RVs.nil) rfl rfl fun zE lH mH hs o243 aF hxt hfl => ?_)
        have hfr := hfr.stp_ hAb hs rfl
        have c4 := c4.stp hs
        have d4 := d4.stp hs rfl
        have j2 := j2.stp hs
        obtain ⟨j9, vD, h⟩ := bsome h
        refine EL_do .plain rfl (D_append (g := zE) (i := 1007) Try.underlying29 info_62 rfl rfl d4 c4 rfl aF vD fun bF nH sB hs o244 cF _ => ?_)
        have hfr := hfr.stp_ hAb hs rfl
        have j2 := j2.stp hs
        refine EL_at sB rfl rfl ?_
        refine EL_nil (blk_n ?_)
        obtain rfl := sinj h
        exact hQ _ _ ⟨bF, (sB), hfr, c7, d7, e7, rfl, cF, o244, t5, u5, j2, x5, y5, p4⟩
       ·clear hx
        obtain ⟨dF, tB, hfr, uB, vB, xB, yB, zB, aC, i8, j8, k8, l8, m8, n8⟩ := hR
        refine E_region (EL_in (.int .i64 ((w64 (n0 + (1 : Int))))) n8 rfl rfl rfl ?_)
        refine EL_mw (.int .i64 ((w64 (n0 + (1 : Int))))) rfl rfl ?_
        exact EL_nil (thn_n (tD (i3, (w64 (n0 + (1 : Int)))) _ _ ⟨dF, (tB), hfr, uB, vB, xB, yB, zB, aC, i8, j8, k8, l8, m8, rfl⟩ h))
      ·refine E_cf k6 rfl ?_
       refine E_exit ?_
       refine thn_e ?_
       refine thn_e ?_
       refine blk_hit ?_
       refine blk_n ?_
       obtain rfl := sinj h
       exact hQ _ _ ⟨p7, (pB), hfr, c7, d7, e7, g7, c4, d4, u5, j2, x5⟩
     ·clear hx
      obtain ⟨eF, bC, hfr, cC, dC, eC, iC, jC, kC, o8, p8, r8⟩ := hR
      refine E_region (EL_in (.int .i64 ((w64 (y0 + (1 : Int))))) r8 rfl rfl rfl ?_)
      refine EL_mw (.int .i64 ((w64 (y0 + (1 : Int))))) rfl rfl ?_
      exact EL_nil (thn_n (sD (j3, (w64 (y0 + (1 : Int)))) _ _ ⟨eF, (bC), hfr, cC, dC, eC, iC, jC, kC, o8, p8, rfl⟩ h))
    ·refine E_cf j6 rfl ?_
     refine E_exit ?_
     refine thn_e ?_
     refine thn_e ?_
     refine blk_hit ?_
     obtain rfl := sinj h
     exact hQ _ _ ⟨oB, (u6), hfr, v6, y6, z6, a7, b7⟩
   ·clear hx
    obtain ⟨gF, lC, hfr, mC, nC, oC, pC, qC⟩ := hR
    obtain ⟨i1, hx, h⟩ := bsome h
    refine E_join (fun e w => ∃ (g : Gh) (v7 : Value), FrY gI wI B J (s0) g w ∧ e 1 = (.func (.yield l) #[] #[]) ∧ e 7 = v7 ∧ RV g.m w (i1 : List FaultDamage) v7 ∧ OS 1007 g w 62 (i1 : List FaultDamage) v7) (fun Q' hQ => ?_) (fun pG oH hR => ?_)
    ·replace h := hx
     clear hx
     refine E_seq (E_region (EL_pur (v := .int .i64 ((((((x0).FaultLoom).Harness).Warps).length : Int))) (P_move nC) .plain rfl ?_))
     refine EL_mw (.int .i64 (0)) rfl rfl ?_
     refine EL_nil (thn_n (E_block ?_))
     refine E_lp h (fun (s : (List FaultDamage) × Int) e w => ∃ (g : Gh) (v7 : Value), FrY gI wI B J (s0) g w ∧ e 1 = (.func (.yield l) #[] #[]) ∧ e 7 = v7 ∧ RV g.m w (s.1 : List FaultDamage) v7 ∧ OS 1007 g w 62 (s.1 : List FaultDamage) v7 ∧ e 75 = .int .i64 ((((((x0).FaultLoom).Harness).Warps).length : Int)) ∧ e 76 = .int .i64 (s.2)) ⟨gF, (lC), hfr, mC, oC, pC, qC, rfl, rfl⟩ (fun X261 k9 xD => ?_)
     rintro ⟨l5, o0⟩ qG iF ⟨r7, rC, hfr, i7, j7, e4, i4, z5, s4⟩ h
     refine E_seq (E_region (EL_pur (v := .bool ((decide (o0 < (((((x0).FaultLoom).Harness).Warps).length : Int))))) (P_int s4 z5 rfl) .plain rfl ?_))
     refine EL_nil (thn_n (E_seq ?_))
     rcases csome h with ⟨l6, h⟩ | ⟨l6, h⟩
     ·refine E_ct l6 rfl ?_
      refine E_skip (thn_n ?_)
      obtain ⟨m3, hx, h⟩ := bsome h
      refine E_join (fun e w => ∃ (g : Gh) (v7 : Value), FrY gI wI B J (s0) g w ∧ e 1 = (.func (.yield l) #[] #[]) ∧ e 7 = v7 ∧ RV g.m w (m3 : List FaultDamage) v7 ∧ OS 1007 g w 62 (m3 : List FaultDamage) v7 ∧ e 75 = .int .i64 ((((((x0).FaultLoom).Harness).Warps).length : Int)) ∧ e 76 = .int .i64 (o0)) (fun Q' hQ => ?_) (fun rG pH hR => ?_)
      ·replace h := hx
       clear hx
       refine E_block ?_
       refine E_seq (E_region (EL_mv s4 rfl ?_))
       refine EL_at (.int .i64 (o0)) rfl rfl ?_
       refine EL_nil (thn_n (E_region (EL_mv j7 rfl ?_)))
       refine EL_mw (.int .i64 (o0)) rfl rfl ?_
       have sC : RV r7.m iF (⟨(5 : Int), 0, 0, o0, false⟩ : FaultDamage) (.agg (setCh [[.int .i64 0], [.int .i64 0], [.int .i64 0], [.int .i64 0], [.bool false]] [(0, .int .i64 (5)), (3, .int .i64 (o0))]).flatten.toArray) := RV_build rfl (rep_pair (rfl) (rep_pair (rep_int) (rep_pair (rep_int) (rep_pair (rfl) (rep_last (rep_bool))))))
       generalize yD : (Value.agg (setCh [[.int .i64 0], [.int .i64 0], [.int .i64 0], [.int .i64 0], [.bool false]] [(0, .int .i64 (5)), (3, .int .i64 (o0))]).flatten.toArray) = tC at sC
       refine EL_pur (v := tC) (yD ▸ P_build (vs := [(0, .int .i64 (5)), (3, .int .i64 (o0))]) [[.int .i64 0], [.int .i64 0], [.int .i64 0], [.int .i64 0], [.bool false]] lay_62 rfl rfl (.cons rfl (.cons rfl .nil)) ⟨⟨_, rfl, rfl⟩, ⟨⟨_, rfl, rfl⟩, trivial⟩⟩) .plain rfl ?_
       refine EL_do .plain rfl (D_buildSlice (g := r7) 3082 (xs := ([(⟨(5 : Int), 0, 0, o0, false⟩ : FaultDamage)] : List FaultDamage)) (vs := [tC]) Try.underlying29 Try.sizeOf62 Try.zeroValue62 rfl rfl (.cons rfl .nil) (RVs.cons sC RVs.nil) rfl rfl fun jF qH sH hs o269 kF hxt hfl => ?_)
       have hfr := hfr.stp_ hAb hs rfl
       have e4 := e4.stp hs
       have i4 := i4.stp hs rfl
       obtain ⟨l9, zD, h⟩ := bsome h
       refine EL_do .plain rfl (D_append (g := jF) (i := 1007) Try.underlying29 info_62 rfl rfl i4 e4 rfl kF zD fun lF tH uC hs o270 mF _ => ?_)
       have hfr := hfr.stp_ hAb hs rfl
       refine EL_at uC rfl rfl ?_
       refine EL_nil (blk_n ?_)
       obtain rfl := sinj h
       exact hQ _ _ ⟨lF, (uC), hfr, i7, rfl, mF, o270, z5, s4⟩
      ·clear hx
       obtain ⟨nF, vC, hfr, xC, yC, zC, aD, t8, v8⟩ := hR
       refine E_region (EL_in (.int .i64 ((w64 (o0 + (1 : Int))))) v8 rfl rfl rfl ?_)
       refine EL_mw (.int .i64 ((w64 (o0 + (1 : Int))))) rfl rfl ?_
       exact EL_nil (thn_n (xD (m3, (w64 (o0 + (1 : Int)))) _ _ ⟨nF, (vC), hfr, xC, yC, zC, aD, t8, rfl⟩ h))
     ·refine E_cf l6 rfl ?_
      refine E_exit ?_
      refine thn_e ?_
      refine thn_e ?_
      refine blk_hit ?_
      obtain rfl := sinj h
      exact hQ _ _ ⟨r7, (rC), hfr, i7, j7, e4, i4⟩
    ·clear hx
     obtain ⟨oF, p2, hfr, bD, cD, l7, dD⟩ := hR
     refine E_seq (E_region (EL_mv cD rfl ?_))
     refine EL_pur (v := .int .i64 ((i1).length : Int)) (P_len Try.underlying29 rfl l7) .plain rfl ?_
     refine EL_mw (.int .i64 (0)) rfl rfl ?_
     refine EL_nil (thn_n (E_block ?_))
     refine E_lp h (fun (s : σ × Int) e w => ∃ (g : Gh) , FrY gI wI B J (s.1) g w ∧ e 1 = (.func (.yield l) #[] #[]) ∧ e 85 = p2 ∧ RV g.m w (i1 : List FaultDamage) p2 ∧ OS 1007 g w 62 (i1 : List FaultDamage) p2 ∧ e 86 = .int .i64 (((i1).length : Int)) ∧ e 87 = .int .i64 (s.2)) ⟨oF, hfr, bD, rfl, l7, dD, rfl, rfl⟩ (fun X274 m9 aE => ?_)
     rintro ⟨m5, j1⟩ sG uH ⟨eD, hfr, m7, a6, m1, i2, b6, u4⟩ h
     refine E_seq (E_region (EL_in (.bool ((decide (j1 < ((i1).length : Int))))) u4 b6 rfl rfl ?_))
     refine EL_nil (thn_n (E_seq ?_))
     rcases csome h with ⟨m6, h⟩ | ⟨m6, h⟩
     ·refine E_ct m6 rfl ?_
      refine E_skip (thn_n (E_joinC h (fun (s : σ) e w => ∃ (g : Gh) , FrY gI wI B J (s) g w ∧ e 1 = (.func (.yield l) #[] #[]) ∧ e 85 = p2 ∧ RV g.m w (i1 : List FaultDamage) p2 ∧ OS 1007 g w 62 (i1 : List FaultDamage) p2 ∧ e 86 = .int .i64 (((i1).length : Int)) ∧ e 87 = .int .i64 (j1)) (fun X286 n9 bE h => ?_) ?_))
      ·refine E_block ?_
       refine E_seq (E_region ?_)
       obtain ⟨n7, b8, h⟩ := bsome h
       refine EL_pur (v := ePtr p2 j1 5) (P_indexAddr (α := FaultDamage) Try.underlying29 Try.sizeOf62 a6 m1 u4 b8) .plain rfl ?_
       have pF := PT_idx m1 b8
       refine EL_do .plain rfl (D_load (g := eD) Try.isAgg62 Try.sizeOf62 rfl pF fun qF s7 => ?_)
       refine EL_do .plain rfl (D_allocOc (g := eD) 2015 (⟨0, 0, 0, 0, false⟩ : FaultDamage) Try.zeroValue62 (fun m w => ⟨_, (rep_two rep_int (rep_two rep_int (rep_two rep_int (rep_two rep_int rep_bool)))), rfl⟩) fun rF vH xH hs b290 cb => ?_)
       have hfr := hfr.stp_ hAb hs rfl
       have m1 := m1.stp hs
       have i2 := i2.stp hs rfl
       have s7 := s7.stp hs
       clear cb
       refine EL_do .plain rfl (D_storeOc (g := rF) (v := qF) Try.sizeOf62 rfl b290 rfl s7 fun gD yH hs b291 cb => ?_)
       clear cb
       have hfr := hfr.stp_ hAb hs rfl
       have m1 := m1.stp hs
       have i2 := i2.stp hs rfl
       refine EL_nil (thn_n (E_seq (E_region (EL_mv m7 rfl ?_))))
       refine EL_do .plain rfl (D_loadO (g := gD) Try.isAgg62 Try.sizeOf62 rfl b291 fun zH sF => ?_)
       obtain ⟨tF, cE, h⟩ := bsome h
       obtain ⟨d6, x4⟩ := tF
       refine EL_do .plain rfl (D_yield (g := gD) (x := n7) rfl (.cons rfl .nil) hRo hfr cE ⟨_, rfl, sF⟩ fun uF aI hs hfrY => ?_)
       have m1 := m1.stp hs
       have i2 := i2.stp hs rfl
       have hfr := hfrY
       clear hfrY
       refine EL_pur (v := .bool (!d6)) (P_not rfl) .plain rfl ?_
       refine EL_nil (thn_n ?_)
       rcases csome h with ⟨n6, h⟩ | ⟨n6, h⟩
       ·refine E_ct n6 rfl ?_
        refine E_ret (blk_r ?_)
        refine thn_r ?_
        refine thn_r ?_
        refine blk_r ?_
        obtain rfl := sinj h
        exact end0 rfl rfl (FrY.done hfr)
       ·refine E_cf n6 rfl ?_
        exact E_skip (blk_n (thn_n (bE (x4) _ _ ⟨uF, hfr, m7, a6, m1, i2, b6, u4⟩ h)))
      ·rintro n5 tG bI ⟨vF, hfr, iD, x8, y8, z8, a9, b9⟩ h
       refine E_region (EL_in (.int .i64 ((w64 (j1 + (1 : Int))))) b9 rfl rfl rfl ?_)
       refine EL_mw (.int .i64 ((w64 (j1 + (1 : Int))))) rfl rfl ?_
       exact EL_nil (thn_n (aE (n5, (w64 (j1 + (1 : Int)))) _ _ ⟨vF, hfr, iD, x8, y8, z8, a9, rfl⟩ h))
     ·refine E_cf m6 rfl ?_
      refine E_exit ?_
      refine thn_e ?_
      refine thn_e ?_
      refine blk_hit ?_
      obtain rfl := sinj h
      exact end0n rfl rfl (FrY.done hfr)
/-- griffe/fault.fits$1 -/
def f91 (x0 : FaultSight) (z0 : List Str) : Option (Bool) :=
 (rem64 (x0).Pick ((z0).length : Int)).bind fun y6 =>
 (idx z0 y6).bind fun y7 =>
 (idx (y7).b (x0).Warp).bind fun j0 =>
 some ((!((j0 == (120 : UInt8)) == (x0).Lifted)))
theorem en91 : Enters Try.prog 91 := enters_of Try.func91 (by kernel_rfl) rfl
theorem wk91 {gI : Gh} {wI : World} {x0 : FaultSight} {z0 : List Str} {up0 : Value} (rp0 : RV gI.m wI x0 up0) {pf0 : Value} (qf0 : PT gI.m wI z0 pf0) {r : Bool} (h : f91 x0 z0 = some r) : Fn Try.prog 91 #[up0, pf0] gI wI (fun _ _ v => v = .bool (r)) := by
 unfold f91 at h
 refine fn_of_E Try.func91 rfl (Nat.le_of_ble_eq_true rfl) fun g0 hm hfr => ?_
 have qf0 : PT g0.m wI z0 pf0 := hm ▸ qf0
 have rp0 : RV g0.m wI x0 up0 := hm ▸ rp0
 show E _ 19 none _ _ _ _ _
 refine E_seq (E_region (EL_do .plain rfl (D_box (g := g0) rfl rp0 fun g1 w1 p1 hs q1 => ?_)))
 have hfr := hfr.ext hs
 have qf0 := qf0.ext hs
 refine EL_at (.bool false) rfl rfl ?_
 refine EL_nil (thn_n (E_seq (L_load (x := .tmp 1) Try.isAgg36 Try.sizeOf36 qf0 fun v2 r2 hl2 => ?_)))
 have q3 := PT_field (part_FaultSight_0).1 q1
 refine L_load (x := .tmp 5) Try.isAgg3 Try.sizeOf3 q3 fun v4 r4 i1 => ?_
 obtain rfl := RV_int.1 r4
 refine L_load (x := .tmp 1) Try.isAgg36 Try.sizeOf36 qf0 fun v5 r5 j1 => ?_
 obtain ⟨y6, m1, h⟩ := bsome h
 obtain ⟨y7, n0, h⟩ := bsome h
 have q8 := PT_idx r2 n0
 refine L_load (x := .tmp 10) Try.isAgg9 Try.sizeOf9 q8 fun v9 r9 z1 => ?_
 obtain rfl := RV_str.1 r9
 have d2 := PT_field (part_FaultSight_1).1 q1
 refine L_load (x := .tmp 12) Try.isAgg3 Try.sizeOf3 d2 fun p2 i2 o0 => ?_
 obtain rfl := RV_int.1 i2
 obtain ⟨j0, u0, h⟩ := bsome h
 have j2 := PT_field (part_FaultSight_2).1 q1
 refine L_load (x := .tmp 16) Try.isAgg4 Try.sizeOf4 j2 fun q2 m2 y0 => ?_
 obtain rfl := RV_bool.1 m2
 refine E_drawL (g := g1) (n := 16) [] [0, 1, 2, 3, 4, 5, 6, 7, 8, 9, 10, 11, 12, 13, 14, 15] rfl mixed (by kernel_rfl) trivial ?_
 refine L_ld (c := v2) rfl rfl .plain (fun _ _ h => h.ch) hl2 rfl ?_
 refine L_pur (c := fPtr p1 0) rfl rfl .plain (fun _ _ hd => P_fieldAddr at_56_0 rfl (PT.ptr q1)) ?_
 refine L_ld (c := .int .i64 ((x0).Pick)) rfl rfl .plain (fun _ _ h => h.ch) i1 rfl ?_
 refine L_ld (c := v5) rfl rfl .plain (fun _ _ h => h.ch) j1 rfl ?_
 refine L_pur (c := .int .i64 ((z0).length : Int)) rfl rfl .plain (fun _ _ hd => P_len Try.underlying36 rfl r5) ?_
 refine L_pur (c := .int .i64 (y6)) rfl rfl .plain (fun _ _ hd => P_int rfl rfl (congrArg (Option.map (Value.int .i64)) m1)) ?_
 refine L_pur (c := ePtr v2 y6 1) rfl rfl .plain (fun _ _ hd => P_indexAddr (α := Str) Try.underlying36 Try.sizeOf9 rfl r2 rfl n0) ?_
 refine L_ld (c := Str.v (y7)) rfl rfl .plain (fun _ _ h => h.ch) z1 rfl ?_
 refine L_pur (c := fPtr p1 1) rfl rfl .plain (fun _ _ hd => P_fieldAddr at_56_1 rfl (PT.ptr q1)) ?_
 refine L_ld (c := .int .i64 ((x0).Warp)) rfl rfl .plain (fun _ _ h => h.ch) o0 rfl ?_
 refine L_pur (c := .int .u8 (UInt8.toNat (j0))) rfl rfl .plain (fun _ _ hd => P_indexS Try.underlying9 rfl rfl u0) ?_
 refine L_pur (c := .bool ((j0 == (120 : UInt8)))) rfl rfl .plain (fun _ _ hd => P_u8 rfl rfl rfl) ?_
 refine L_pur (c := fPtr p1 2) rfl rfl .plain (fun _ _ hd => P_fieldAddr at_56_2 rfl (PT.ptr q1)) ?_
 refine L_ld (c := .bool ((x0).Lifted)) rfl rfl .plain (fun _ _ h => h.ch) y0 rfl ?_
 refine L_pur (c := .bool ((!((j0 == (120 : UInt8)) == (x0).Lifted)))) rfl rfl .plain (fun _ _ hd => P_bool Try.underlying4 rfl rfl rfl) ?_
 refine L_pur (c := .bool ((!((j0 == (120 : UInt8)) == (x0).Lifted)))) rfl rfl .plain (fun _ _ hd => P_assign rfl) ?_
 refine L_nil fun s2 z2 hall => ?_
 have hs := hall.1
 have hfr := hfr.ext hs
 clear hs hall
 refine EL_nil (thn_n (E_ret ?_))
 obtain rfl := sinj h
 exact end1 rfl rfl (show _ = .bool ((!((j0 == (120 : UInt8)) == (x0).Lifted))) from rfl) ⟨_, hfr, rfl⟩
/-- griffe/grifferef03.In -/
def f92 (x0 : Int) (x1 : Int) (x2 : Int) : Option (Bool) :=
 Option.bind (α := Bool) (
  bif (decide (x0 ≥ x1)) then
   some ((decide (x0 ≤ x2)))
  else
   some (false)
  ) fun j0 =>
 some (j0)
theorem en92 : Enters Try.prog 92 := enters_of Try.func92 (by kernel_rfl) rfl
theorem wk92 {gI : Gh} {wI : World} {x0 : Int} {x1 : Int} {x2 : Int}  {r : Bool} (h : f92 x0 x1 x2 = some r) : Fn Try.prog 92 #[.int .i64 (x0), .int .i64 (x1), .int .i64 (x2)] gI wI (fun _ _ v => v = .bool (r)) := by
 unfold f92 at h
 refine fn_of_E Try.func92 rfl (Nat.le_of_ble_eq_true rfl) fun g0 hm hfr => ?_
 show E _ 15 none _ _ _ _ _
 refine E_seq (E_region (EL_at (.bool false) rfl rfl ?_))
 refine EL_nil (thn_n ?_)
 obtain ⟨j0, hx, h⟩ := bsome h
 refine E_join (fun e w => ∃ (g : Gh) , Fr gI wI g w ∧ e 6 = .bool (j0)) (fun Q' hQ => ?_) (fun o0 w3 hR => ?_)
 ·replace h := hx
  clear hx
  refine E_region (EL_mw (.int .i64 (x0)) rfl rfl ?_)
  refine EL_mw (.int .i64 (x1)) rfl rfl ?_
  refine EL_in (.bool ((decide (x0 ≥ x1)))) rfl rfl rfl rfl ?_
  refine EL_mw (.bool ((decide (x0 ≥ x1)))) rfl rfl ?_
  rcases csome h with ⟨hc2, h⟩ | ⟨hc2, h⟩
  ·refine EL_pur (v := .int .i64 (x0)) (P_move rfl) (.yes2 rfl rfl hc2) rfl ?_
   refine EL_pur (v := .int .i64 (x2)) (P_move rfl) (.yes2 rfl rfl hc2) rfl ?_
   refine EL_pur (v := .bool ((decide (x0 ≤ x2)))) (P_int rfl rfl rfl) (.yes2 rfl rfl hc2) rfl ?_
   refine EL_pur (v := .bool ((decide (x0 ≤ x2)))) (P_pick (b := (decide (x0 ≥ x1))) rfl (pick_t hc2 rfl)) .plain rfl ?_
   refine EL_at (.bool ((decide (x0 ≤ x2)))) rfl rfl ?_
   refine EL_nil ?_
   obtain rfl := sinj h
   exact hQ _ _ ⟨g0, hfr, rfl⟩
  ·refine EL_skip (.no2 rfl rfl hc2 rfl) rfl ?_
   refine EL_skip (.no2 rfl rfl hc2 rfl) rfl ?_
   refine EL_skip (.no2 rfl rfl hc2 rfl) rfl ?_
   refine EL_pur (v := .bool false) (P_pick (b := (decide (x0 ≥ x1))) rfl (pick_f hc2 rfl)) .plain rfl ?_
   refine EL_at (.bool false) rfl rfl ?_
   refine EL_nil ?_
   obtain rfl := sinj h
   exact hQ _ _ ⟨g0, hfr, rfl⟩
 ·clear hx
  obtain ⟨g3, hfr, n0⟩ := hR
  refine E_ret ?_
  obtain rfl := sinj h
  exact end1 rfl rfl (show _ = .bool (j0) from n0) ⟨_, hfr, rfl⟩
/-- griffe/grifferef01.In -/
def f93 (x0 : Int) (x1 : Int) (x2 : Int) : Option (Bool) :=
 Option.bind (α := Bool) (
  bif (decide (x0 ≥ x1)) then
   some ((decide (x0 ≤ x2)))
  else
   some (false)
  ) fun j0 =>
 some (j0)
theorem en93 : Enters Try.prog 93 := enters_of Try.func93 (by kernel_rfl) rfl
theorem wk93 {gI : Gh} {wI : World} {x0 : Int} {x1 : Int} {x2 : Int}  {r : Bool} (h : f93 x0 x1 x2 = some r) : Fn Try.prog 93 #[.int .i64 (x0), .int .i64 (x1), .int .i64 (x2)] gI wI (fun _ _ v => v = .bool (r)) := by
 unfold f93 at h
 refine fn_of_E Try.func93 rfl (Nat.le_of_ble_eq_true rfl) fun g0 hm hfr => ?_
 show E _ 15 none _ _ _ _ _
 refine E_seq (E_region (EL_at (.bool false) rfl rfl ?_))
 refine EL_nil (thn_n ?_)
 obtain ⟨j0, hx, h⟩ := bsome h
 refine E_join (fun e w => ∃ (g : Gh) , Fr gI wI g w ∧ e 6 = .bool (j0)) (fun Q' hQ => ?_) (fun o0 w3 hR => ?_)
 ·replace h := hx
  clear hx
  refine E_region (EL_mw (.int .i64 (x0)) rfl rfl ?_)
  refine EL_mw (.int .i64 (x1)) rfl rfl ?_
  refine EL_in (.bool ((decide (x0 ≥ x1)))) rfl rfl rfl rfl ?_
  refine EL_mw (.bool ((decide (x0 ≥ x1)))) rfl rfl ?_
  rcases csome h with ⟨hc2, h⟩ | ⟨hc2, h⟩
  ·refine EL_pur (v := .int .i64 (x0)) (P_move rfl) (.yes2 rfl rfl hc2) rfl ?_
   refine EL_pur (v := .int .i64 (x2)) (P_move rfl) (.yes2 rfl rfl hc2) rfl ?_
   refine EL_pur (v := .bool ((decide (x0 ≤ x2)))) (P_int rfl rfl rfl) (.yes2 rfl rfl hc2) rfl ?_
   refine EL_pur (v := .bool ((decide (x0 ≤ x2)))) (P_pick (b := (decide (x0 ≥ x1))) rfl (pick_t hc2 rfl)) .plain rfl ?_
   refine EL_at (.bool ((decide (x0 ≤ x2)))) rfl rfl ?_
   refine EL_nil ?_
   obtain rfl := sinj h
   exact hQ _ _ ⟨g0, hfr, rfl⟩
  ·refine EL_skip (.no2 rfl rfl hc2 rfl) rfl ?_
   refine EL_skip (.no2 rfl rfl hc2 rfl) rfl ?_
   refine EL_skip (.no2 rfl rfl hc2 rfl) rfl ?_
   refine EL_pur (v := .bool false) (P_pick (b := (decide (x0 ≥ x1))) rfl (pick_f hc2 rfl)) .plain rfl ?_
   refine EL_at (.bool false) rfl rfl ?_
   refine EL_nil ?_
   obtain rfl := sinj h
   exact hQ _ _ ⟨g0, hfr, rfl⟩
 ·clear hx
  obtain ⟨g3, hfr, n0⟩ := hR
  refine E_ret ?_
  obtain rfl := sinj h
  exact end1 rfl rfl (show _ = .bool (j0) from n0) ⟨_, hfr, rfl⟩
/-- griffe/fault.changes$1 -/
def f97 (_x0 : FaultFaultLoom) (x1 : FaultDamage) (x2 : List Int) : Option ((List Int)) :=
 (idx x2 (x1).Pick).bind fun y5 =>
 (shl64 (1 : Int) (x1).Hook).bind fun y9 =>
 (idx x2 (x1).Pick).bind fun _u0 =>
 some ((List.set x2 (Int.toNat (x1).Pick) ((bit64 .xor y5 y9))))
theorem en97 : Enters Try.prog 97 := enters_of Try.func97 (by kernel_rfl) rfl
theorem wk97 {iI : Nat} {gI : Gh} {wI : World} {x0 : FaultFaultLoom} {x1 : FaultDamage} {x2 : List Int} {up0 : Value} (rp0 : RV gI.m wI x0 up0) {up1 : Value} (rp1 : RV gI.m wI x1 up1) {up2 : Value} (mp2 : OM iI gI wI 3 x2 up2) {up3 : Value} {r : (List Int)} (h : f97 x0 x1 x2 = some r) : FnM Try.prog 97 #[up0, up1, up2, up3] iI gI wI (fun g w v => v = .tuple #[] ∧ OM iI g w 3 r up2) := by
 unfold f97 at h
 refine fnM_of_E Try.func97 rfl (Nat.le_of_ble_eq_true rfl) fun g0 hm hfr => ?_
 have n0 := mp2
 replace mp2 := mp2.enter
 rw [← hm] at mp2
 replace hm : g0.m = gI.m := by rw [hm]
 have rp0 : RV g0.m wI x0 up0 := hm ▸ rp0
 have rp1 : RV g0.m wI x1 up1 := hm ▸ rp1
 show E _ 18 none _ _ _ _ _
 refine E_seq (E_region (EL_do .plain rfl (D_box (g := g0) rfl rp0 fun g1 w1 p1 hs q1 => ?_)))
 have hfr := hfr.ext hs
 have rp1 := rp1.ext hs
 have mp2 := mp2.ext hs
 refine EL_do .plain rfl (D_box (g := g1) rfl rp1 fun g2 w2 p2 hs q2 => ?_)
 have hfr := hfr.ext hs
 have mp2 := mp2.ext hs
 refine EL_nil (thn_n ?_)
 have q3 := PT_field (part_FaultDamage_1).1 q2
 refine L_load (x := .tmp 9) Try.isAgg3 Try.sizeOf3 q3 fun v4 r4 y0 => ?_
 obtain rfl := RV_int.1 r4
 obtain ⟨y5, o0, h⟩ := bsome h
 refine L_loadM (x := .tmp 11) Try.isAgg3 Try.sizeOf3 mp2 o0 fun v6 r6 i1 => ?_
 obtain rfl := RV_int.1 r6
 have q7 := PT_field (part_FaultDamage_2).1 q2
 refine L_load (x := .tmp 13) Try.isAgg3 Try.sizeOf3 q7 fun v8 r8 j1 => ?_
 obtain rfl := RV_int.1 r8
 obtain ⟨y9, m1, h⟩ := bsome h
 obtain ⟨u0, j0, h⟩ := bsome h
 refine E_drawL (g := g2) (n := 10) [] [0, 1, 2, 3, 4, 5, 6, 7, 8, 9] rfl mixed (by kernel_rfl) trivial ?_
 refine L_pur (c := up2) rfl rfl .plain (fun _ _ hd => P_move rfl) ?_
 refine L_pur (c := fPtr p2 1) rfl rfl .plain (fun _ _ hd => P_fieldAddr at_62_1 rfl (PT.ptr q2)) ?_
 refine L_ld (c := .int .i64 ((x1).Pick)) rfl rfl .plain (fun _ _ h => h.ch) y0 rfl ?_
 refine L_pur (c := ePtr up2 (x1).Pick 1) rfl rfl .plain (fun _ _ hd => P_indexAddrM (α := Int) Try.underlying22 Try.sizeOf3 rfl mp2 rfl o0) ?_
 refine L_ld (c := .int .i64 (y5)) rfl rfl .plain (fun _ _ h => ⟨h.ch, fun b hb _ => h.below.block b hb⟩) i1 rfl ?_
 refine L_pur (c := fPtr p2 2) rfl rfl .plain (fun _ _ hd => P_fieldAddr at_62_2 rfl (PT.ptr q2)) ?_
 refine L_ld (c := .int .i64 ((x1).Hook)) rfl rfl .plain (fun _ _ h => h.ch) j1 rfl ?_
 refine L_pur (c := .int .i64 (y9)) rfl rfl .plain (fun _ _ hd => P_int rfl rfl (congrArg (Option.map (Value.int .i64)) m1)) ?_
 refine L_pur (c := .int .i64 ((bit64 .xor y5 y9))) rfl rfl .plain (fun _ _ hd => P_int rfl rfl rfl) ?_
 refine L_pur (c := ePtr up2 (x1).Pick 1) rfl rfl .plain (fun _ _ hd => P_indexAddrM (α := Int) Try.underlying22 Try.sizeOf3 rfl mp2 rfl j0) ?_
 refine L_nil fun z1 d2 hall => ?_
 have hs := hall.1
 have hfr := hfr.ext hs
 have mp2 := mp2.ext hs
 clear hs hall
 refine EL_do .plain rfl (D_storeM (g := z1) (α := Int) (a' := ((bit64 .xor y5 y9))) Try.sizeOf3 rfl mp2 j0 rfl (RV_int.2 rfl) fun i2 j2 hs b28 => ?_)
 have hfr := hfr.stp hs
 refine EL_nil ?_
 obtain rfl := sinj h
 exact end0n rfl rfl ⟨_, hfr, rfl, n0.back b28⟩
/-- griffe/fault.changes$2 -/
def f98 (_x0 : FaultFaultLoom) (x1 : FaultDamage) (x2 : List Int) : Option ((List Int)) :=
 lp (σ := (List Int) × Int) (fun k3 (o0, j0) =>
  bif (decide (j0 < ((x2).length : Int))) then
   Option.bind (α := (List Int)) (
    (idx o0 j0).bind fun i1 =>
    (shl64 (1 : Int) (x1).Hook).bind fun j1 =>
    (idx o0 j0).bind fun _x4 =>
    bif (!(x1).Up) then
     (idx ((List.set o0 (Int.toNat j0) ((bit64 .or i1 j1)))) j0).bind fun m2 =>
     (shl64 (1 : Int) (x1).Hook).bind fun z1 =>
     (idx ((List.set o0 (Int.toNat j0) ((bit64 .or i1 j1)))) j0).bind fun _i4 =>
     some ((List.set ((List.set o0 (Int.toNat j0) ((bit64 .or i1 j1)))) (Int.toNat j0) ((bit64 .xor m2 z1))))
    else
     some ((List.set o0 (Int.toNat j0) ((bit64 .or i1 j1))))
    ) fun y0 =>
   k3 (y0, (w64 (j0 + (1 : Int))))
  else
   some (o0)
  ) big (x2, (0 : Int))
theorem en98 : Enters Try.prog 98 := enters_of Try.func98 (by kernel_rfl) rfl
theorem wk98 {iI : Nat} {gI : Gh} {wI : World} {x0 : FaultFaultLoom} {x1 : FaultDamage} {x2 : List Int} {up0 : Value} (rp0 : RV gI.m wI x0 up0) {up1 : Value} (rp1 : RV gI.m wI x1 up1) {up2 : Value} (mp2 : OM iI gI wI 3 x2 up2) {up3 : Value} {r : (List Int)} (h : f98 x0 x1 x2 = some r) : FnM Try.prog 98 #[up0, up1, up2, up3] iI gI wI (fun g w v => v = .tuple #[] ∧ OM iI g w 3 r up2) := by
 unfold f98 at h
 refine fnM_of_E Try.func98 rfl (Nat.le_of_ble_eq_true rfl) fun g0 hm hfr => ?_
 have d4 := mp2
 replace mp2 := mp2.enter
 rw [← hm] at mp2
 replace hm : g0.m = gI.m := by rw [hm]
 have rp0 : RV g0.m wI x0 up0 := hm ▸ rp0
 have rp1 : RV g0.m wI x1 up1 := hm ▸ rp1
 show E _ 36 none _ _ _ _ _
 refine E_seq (E_region (EL_do .plain rfl (D_box (g := g0) rfl rp0 fun g1 w1 p1 hs q1 => ?_)))
 have hfr := hfr.ext hs
 have rp1 := rp1.ext hs
 have mp2 := mp2.ext hs
 refine EL_do .plain rfl (D_box (g := g1) rfl rp1 fun g2 w2 p2 hs q2 => ?_)
 have hfr := hfr.ext hs
 have mp2 := mp2.ext hs
 refine EL_nil (thn_n (E_seq (E_region (EL_mw up2 rfl rfl ?_))))
 refine EL_pur (v := .int .i64 ((x2).length : Int)) (P_lenM Try.underlying22 rfl mp2) .plain rfl ?_
 refine EL_mw (.int .i64 (0)) rfl rfl ?_
 refine EL_nil (thn_n (E_block ?_))
 refine E_lp h (fun (s : (List Int) × Int) e w => ∃ (g : Gh) , FrM iI gI wI g w ∧ e 2 = up2 ∧ OM 1 g w 3 (s.1 : List Int) up2 ∧ e 5 = p2 ∧ PT g.m w (x1 : FaultDamage) p2 ∧ e 10 = .int .i64 (((x2).length : Int)) ∧ e 11 = .int .i64 (s.2)) ⟨g2, hfr, rfl, mp2, rfl, q2, rfl, rfl⟩ (fun X3 k3 hk3 => ?_)
 rintro ⟨o0, j0⟩ u5 w4 ⟨g4, hfr, i2, u0, d2, n0, j2, m1⟩ h
 refine E_seq (E_region (EL_in (.bool ((decide (j0 < ((x2).length : Int))))) m1 j2 rfl rfl ?_))
 refine EL_nil (thn_n (E_seq ?_))
 rcases csome h with ⟨j3, h⟩ | ⟨j3, h⟩
 ·refine E_ct j3 rfl ?_
  refine E_skip (thn_n ?_)
  obtain ⟨y0, hx, h⟩ := bsome h
  refine E_join (fun e w => ∃ (g : Gh) , FrM iI gI wI g w ∧ e 2 = up2 ∧ OM 1 g w 3 (y0 : List Int) up2 ∧ e 5 = p2 ∧ PT g.m w (x1 : FaultDamage) p2 ∧ e 10 = .int .i64 (((x2).length : Int)) ∧ e 11 = .int .i64 (j0)) (fun Q' hQ => ?_) (fun o5 p5 hR => ?_)
  ·replace h := hx
   clear hx
   refine E_block ?_
   refine E_seq (E_region (EL_mv m1 rfl ?_))
   refine EL_at (.int .i64 (j0)) rfl rfl ?_
   refine EL_nil (thn_n (E_seq ?_))
   obtain ⟨i1, m3, h⟩ := bsome h
   refine L_loadM (x := .tmp 16) Try.isAgg3 Try.sizeOf3 u0 m3 fun x5 z4 j4 => ?_
   obtain rfl := RV_int.1 z4
   have c5 := PT_field (part_FaultDamage_2).1 n0
   refine L_load (x := .tmp 18) Try.isAgg3 Try.sizeOf3 c5 fun y5 d5 m4 => ?_
   obtain rfl := RV_int.1 d5
   obtain ⟨j1, n4, h⟩ := bsome h
   obtain ⟨x4, o3, h⟩ := bsome h
   refine E_drawL (g := g4) (n := 9) [] [0, 1, 2, 3, 4, 5, 6, 7, 8] rfl mixed (by kernel_rfl) trivial ?_
   refine L_pur (c := up2) rfl rfl .plain (fun _ _ hd => P_move i2) ?_
   refine L_pur (c := .int .i64 (j0)) rfl rfl .plain (fun _ _ hd => P_move rfl) ?_
   refine L_pur (c := ePtr up2 j0 1) rfl rfl .plain (fun _ _ hd => P_indexAddrM (α := Int) Try.underlying22 Try.sizeOf3 rfl u0 rfl m3) ?_
   refine L_ld (c := .int .i64 (i1)) rfl rfl .plain (fun _ _ h => ⟨h.ch, fun b hb _ => h.below.block b hb⟩) j4 rfl ?_
   refine L_pur (c := fPtr p2 2) rfl rfl .plain (fun _ _ hd => P_fieldAddr at_62_2 d2 (PT.ptr n0)) ?_
   refine L_ld (c := .int .i64 ((x1).Hook)) rfl rfl .plain (fun _ _ h => h.ch) m4 rfl ?_
   refine L_pur (c := .int .i64 (j1)) rfl rfl .plain (fun _ _ hd => P_int rfl rfl (congrArg (Option.map (Value.int .i64)) n4)) ?_
   refine L_pur (c := .int .i64 ((bit64 .or i1 j1))) rfl rfl .plain (fun _ _ hd => P_int rfl rfl rfl) ?_
   refine L_pur (c := ePtr up2 j0 1) rfl rfl .plain (fun _ _ hd => P_indexAddrM (α := Int) Try.underlying22 Try.sizeOf3 rfl u0 rfl o3) ?_
   refine L_nil fun e5 z5 hall => ?_
   have hs := hall.1
   have hfr := hfr.ext hs
   have u0 := u0.ext hs
   have n0 := n0.ext hs
   clear hs hall
   refine EL_do .plain rfl (D_storeM (g := e5) (α := Int) (a' := ((bit64 .or i1 j1))) Try.sizeOf3 rfl u0 o3 rfl (RV_int.2 rfl) fun p3 a6 hs b92 => ?_)
   have hfr := hfr.stp hs
   have n0 := n0.stp hs
   refine EL_nil (thn_n (E_seq (E_region (EL_pur (v := fPtr p2 4) (P_fieldAddr at_62_4 d2 (PT.ptr n0)) .plain rfl ?_))))
   have i5 := PT_field (part_FaultDamage_4).1 n0
   refine EL_do .plain rfl (D_load (g := p3) Try.isAgg4 Try.sizeOf4 rfl i5 fun b6 j5 => ?_)
   obtain rfl := RV_bool.1 j5
   refine EL_pur (v := .bool (!(x1).Up)) (P_not rfl) .plain rfl ?_
   refine EL_nil (thn_n ?_)
   rcases csome h with ⟨s2, h⟩ | ⟨s2, h⟩
   ·refine E_ct s2 rfl ?_
    obtain ⟨m2, q3, h⟩ := bsome h
    refine L_loadM (x := .tmp 28) Try.isAgg3 Try.sizeOf3 b92 q3 fun c6 l5 o4 => ?_
    obtain rfl := RV_int.1 l5
    have m5 := PT_field (part_FaultDamage_2).1 n0
    refine L_load (x := .tmp 30) Try.isAgg3 Try.sizeOf3 m5 fun d6 n5 p4 => ?_
    obtain rfl := RV_int.1 n5
    obtain ⟨z1, e4, h⟩ := bsome h
    obtain ⟨i4, z2, h⟩ := bsome h
    refine E_drawL (g := p3) (n := 9) [] [0, 1, 2, 3, 4, 5, 6, 7, 8] rfl mixed (by kernel_rfl) trivial ?_
    refine L_pur (c := up2) rfl rfl .plain (fun _ _ hd => P_move i2) ?_
    refine L_pur (c := .int .i64 (j0)) rfl rfl .plain (fun _ _ hd => P_move rfl) ?_
    refine L_pur (c := ePtr up2 j0 1) rfl rfl .plain (fun _ _ hd => P_indexAddrM (α := Int) Try.underlying22 Try.sizeOf3 rfl b92 rfl q3) ?_
    refine L_ld (c := .int .i64 (m2)) rfl rfl .plain (fun _ _ h => ⟨h.ch, fun b hb _ => h.below.block b hb⟩) o4 rfl ?_
    refine L_pur (c := fPtr p2 2) rfl rfl .plain (fun _ _ hd => P_fieldAddr at_62_2 d2 (PT.ptr n0)) ?_
    refine L_ld (c := .int .i64 ((x1).Hook)) rfl rfl .plain (fun _ _ h => h.ch) p4 rfl ?_
    refine L_pur (c := .int .i64 (z1)) rfl rfl .plain (fun _ _ hd => P_int rfl rfl (congrArg (Option.map (Value.int .i64)) e4)) ?_
    refine L_pur (c := .int .i64 ((bit64 .xor m2 z1))) rfl rfl .plain (fun _ _ hd => P_int rfl rfl rfl) ?_
    refine L_pur (c := ePtr up2 j0 1) rfl rfl .plain (fun _ _ hd => P_indexAddrM (α := Int) Try.underlying22 Try.sizeOf3 rfl b92 rfl z2) ?_
    refine L_nil fun q4 q5 hall => ?_
    have hs := hall.1
    have hfr := hfr.ext hs
    have b92 := b92.ext hs
    have n0 := n0.ext hs
    clear hs hall
    refine EL_do .plain rfl (D_storeM (g := q4) (α := Int) (a' := ((bit64 .xor m2 z1))) Try.sizeOf3 rfl b92 z2 rfl (RV_int.2 rfl) fun s4 t5 hs b131 => ?_)
    have hfr := hfr.stp hs
    have n0 := n0.stp hs
    refine EL_nil (blk_n ?_)
    obtain rfl := sinj h
    exact hQ _ _ ⟨s4, hfr, i2, b131, d2, n0, j2, m1⟩
   ·refine E_cf s2 rfl ?_
    refine E_skip (blk_n ?_)
    obtain rfl := sinj h
    exact hQ _ _ ⟨p3, hfr, i2, b92, d2, n0, j2, m1⟩
  ·clear hx
   obtain ⟨u4, hfr, s3, u3, z3, c4, d3, i3⟩ := hR
   refine E_region (EL_in (.int .i64 ((w64 (j0 + (1 : Int))))) i3 rfl rfl rfl ?_)
   refine EL_mw (.int .i64 ((w64 (j0 + (1 : Int))))) rfl rfl ?_
   exact EL_nil (thn_n (hk3 (y0, (w64 (j0 + (1 : Int)))) _ _ ⟨u4, hfr, s3, u3, z3, c4, d3, rfl⟩ h))
 ·refine E_cf j3 rfl ?_
  refine E_exit ?_
  refine thn_e ?_
  refine thn_e ?_
  refine blk_hit ?_
  obtain rfl := sinj h
  exact end0n rfl rfl ⟨_, hfr, rfl, d4.back u0⟩
/-- griffe/fault.changes$3 -/
def f99 (x0 : FaultFaultLoom) (x1 : FaultDamage) (x2 : List Int) : Option ((List Int)) :=
 Option.bind (α := Int) (
  lp (σ := Int × Int) (fun m4 (m1, j0) =>
   bif (decide (j0 < (((x0).FaultLoom).Design).Hooks)) then
    Option.bind (α := Int) (
     (shl64 m1 (1 : Int)).bind fun i2 =>
     (idx x2 (x1).Pick).bind fun n4 =>
     (shr64 n4 j0).bind fun j1 =>
     some ((bit64 .or i2 (bit64 .and j1 (1 : Int))))
     ) fun n0 =>
    m4 (n0, (w64 (j0 + (1 : Int))))
   else
    some (m1)
   ) big ((0 : Int), (0 : Int))
  ) fun o0 =>
 (idx x2 (x1).Pick).bind fun _z4 =>
 some ((List.set x2 (Int.toNat (x1).Pick) o0))
theorem en99 : Enters Try.prog 99 := enters_of Try.func99 (by kernel_rfl) rfl
theorem wk99 {iI : Nat} {gI : Gh} {wI : World} {x0 : FaultFaultLoom} {x1 : FaultDamage} {x2 : List Int} {up0 : Value} (rp0 : RV gI.m wI x0 up0) {up1 : Value} (rp1 : RV gI.m wI x1 up1) {up2 : Value} (mp2 : OM iI gI wI 3 x2 up2) {up3 : Value} {r : (List Int)} (h : f99 x0 x1 x2 = some r) : FnM Try.prog 99 #[up0, up1, up2, up3] iI gI wI (fun g w v => v = .tuple #[] ∧ OM iI g w 3 r up2) := by
 unfold f99 at h
 refine fnM_of_E Try.func99 rfl (Nat.le_of_ble_eq_true rfl) fun g0 hm hfr => ?_
 have q3 := mp2
 replace mp2 := mp2.enter
 rw [← hm] at mp2
 replace hm : g0.m = gI.m := by rw [hm]
 have rp0 : RV g0.m wI x0 up0 := hm ▸ rp0
 have rp1 : RV g0.m wI x1 up1 := hm ▸ rp1
 show E _ 34 none _ _ _ _ _
 refine E_seq (E_region (EL_do .plain rfl (D_box (g := g0) rfl rp0 fun g1 w1 p1 hs q1 => ?_)))
 have hfr := hfr.ext hs
 have rp1 := rp1.ext hs
 have mp2 := mp2.ext hs
 refine EL_do .plain rfl (D_box (g := g1) rfl rp1 fun g2 w2 p2 hs q2 => ?_)
 have hfr := hfr.ext hs
 have mp2 := mp2.ext hs
 have q1 := q1.ext hs
 refine EL_nil (thn_n (E_seq (E_region (EL_at (.int .i64 (0)) rfl rfl ?_))))
 refine EL_nil (thn_n ?_)
 obtain ⟨o0, hx, h⟩ := bsome h
 refine E_join (fun e w => ∃ (g : Gh) , FrM iI gI wI g w ∧ e 2 = up2 ∧ OM 1 g w 3 (x2 : List Int) up2 ∧ e 5 = p2 ∧ PT g.m w (x1 : FaultDamage) p2 ∧ e 8 = .int .i64 (o0)) (fun Q' hQ => ?_) (fun p5 c5 hR => ?_)
 ·replace h := hx
  clear hx
  refine E_seq (E_region (EL_pur (v := fPtr p1 0) (P_fieldAddr at_98_0 rfl (PT.ptr q1)) .plain rfl ?_))
  have o4 := PT_field (part_FaultFaultLoom_0).1 q1
  refine EL_pur (v := fPtr (fPtr p1 0) 2) (P_fieldAddr at_28_1 rfl (PT.ptr o4)) .plain rfl ?_
  have p4 := PT_field (part_FaultLoom_1).1 o4
  refine EL_pur (v := fPtr (fPtr (fPtr p1 0) 2) 0) (P_fieldAddr at_26_0 rfl (PT.ptr p4)) .plain rfl ?_
  have d5 := PT_field (part_Design_0).1 p4
  refine EL_do .plain rfl (D_load (g := g2) Try.isAgg3 Try.sizeOf3 rfl d5 fun u5 e5 => ?_)
  obtain rfl := RV_int.1 e5
  refine EL_mw (.int .i64 (0)) rfl rfl ?_
  refine EL_nil (thn_n (E_block ?_))
  refine E_lp h (fun (s : Int × Int) e w => ∃ (g : Gh) , FrM iI gI wI g w ∧ e 2 = up2 ∧ OM 1 g w 3 (x2 : List Int) up2 ∧ e 5 = p2 ∧ PT g.m w (x1 : FaultDamage) p2 ∧ e 8 = .int .i64 (s.1) ∧ e 13 = .int .i64 ((((x0).FaultLoom).Design).Hooks) ∧ e 14 = .int .i64 (s.2)) ⟨g2, hfr, rfl, mp2, rfl, q2, rfl, rfl, rfl⟩ (fun X27 m4 s4 => ?_)
  rintro ⟨m1, j0⟩ q5 x5 ⟨s2, hfr, z1, u0, d2, y0, z2, j2, i1⟩ h
  refine E_seq (E_region (EL_pur (v := .bool ((decide (j0 < (((x0).FaultLoom).Design).Hooks)))) (P_int i1 j2 rfl) .plain rfl ?_))
  refine EL_nil (thn_n (E_seq ?_))
  rcases csome h with ⟨m2, h⟩ | ⟨m2, h⟩
  ·refine E_ct m2 rfl ?_
   refine E_skip (thn_n ?_)
   obtain ⟨n0, hx, h⟩ := bsome h
   refine E_join (fun e w => ∃ (g : Gh) , FrM iI gI wI g w ∧ e 2 = up2 ∧ OM 1 g w 3 (x2 : List Int) up2 ∧ e 5 = p2 ∧ PT g.m w (x1 : FaultDamage) p2 ∧ e 8 = .int .i64 (n0) ∧ e 13 = .int .i64 ((((x0).FaultLoom).Design).Hooks) ∧ e 14 = .int .i64 (j0)) (fun Q' hQ => ?_) (fun t5 y5 hR => ?_)
   ·replace h := hx
    clear hx
    refine E_block ?_
    refine E_seq (E_region (EL_mv i1 rfl ?_))
    refine EL_at (.int .i64 (j0)) rfl rfl ?_
    refine EL_nil (thn_n (E_region (EL_mv z2 rfl ?_)))
    obtain ⟨i2, u4, h⟩ := bsome h
    refine EL_pur (v := .int .i64 (i2)) (P_shlu rfl rfl u4) .plain rfl ?_
    refine EL_mv z1 rfl ?_
    refine EL_pur (v := fPtr p2 1) (P_fieldAddr at_62_1 d2 (PT.ptr y0)) .plain rfl ?_
    have i5 := PT_field (part_FaultDamage_1).1 y0
    refine EL_do .plain rfl (D_load (g := s2) Try.isAgg3 Try.sizeOf3 rfl i5 fun z5 j5 => ?_)
    obtain rfl := RV_int.1 j5
    obtain ⟨n4, j3, h⟩ := bsome h
    refine EL_pur (v := ePtr up2 (x1).Pick 1) (P_indexAddrM (α := Int) Try.underlying22 Try.sizeOf3 rfl u0 rfl j3) .plain rfl ?_
    refine EL_do .plain rfl (D_loadM (g := s2) Try.isAgg3 Try.sizeOf3 rfl u0 j3 fun a6 l5 => ?_)
    obtain rfl := RV_int.1 l5
    refine EL_mw (.int .i64 (j0)) rfl rfl ?_
    obtain ⟨j1, x4, h⟩ := bsome h
    refine EL_pur (v := .int .i64 (j1)) (P_int rfl rfl (congrArg (Option.map (Value.int .i64)) x4)) .plain rfl ?_
    refine EL_in (.int .i64 ((bit64 .and j1 (1 : Int)))) rfl rfl rfl rfl ?_
    refine EL_in (.int .i64 ((bit64 .or i2 (bit64 .and j1 (1 : Int))))) rfl rfl rfl rfl ?_
    refine EL_at (.int .i64 ((bit64 .or i2 (bit64 .and j1 (1 : Int))))) rfl rfl ?_
    refine EL_nil (blk_n ?_)
    obtain rfl := sinj h
    exact hQ _ _ ⟨s2, hfr, z1, u0, d2, y0, rfl, j2, i1⟩
   ·clear hx
    obtain ⟨m5, hfr, s3, u3, z3, c4, d4, m3, o3⟩ := hR
    refine E_region (EL_in (.int .i64 ((w64 (j0 + (1 : Int))))) o3 rfl rfl rfl ?_)
    refine EL_mw (.int .i64 ((w64 (j0 + (1 : Int))))) rfl rfl ?_
    exact EL_nil (thn_n (s4 (n0, (w64 (j0 + (1 : Int)))) _ _ ⟨m5, hfr, s3, u3, z3, c4, d4, m3, rfl⟩ h))
  ·refine E_cf m2 rfl ?_
   refine E_exit ?_
   refine thn_e ?_
   refine thn_e ?_
   refine blk_hit ?_
   obtain rfl := sinj h
   exact hQ _ _ ⟨s2, hfr, z1, u0, d2, y0, z2⟩
 ·clear hx
  obtain ⟨q4, hfr, e4, d3, i4, i3, j4⟩ := hR
  refine E_region (EL_mv e4 rfl ?_)
  refine EL_pur (v := fPtr p2 1) (P_fieldAddr at_62_1 i4 (PT.ptr i3)) .plain rfl ?_
  have n5 := PT_field (part_FaultDamage_1).1 i3
  refine EL_do .plain rfl (D_load (g := q4) Try.isAgg3 Try.sizeOf3 rfl n5 fun b6 o5 => ?_)
  obtain rfl := RV_int.1 o5
  refine EL_mv j4 rfl ?_
  obtain ⟨z4, p3, h⟩ := bsome h
  refine EL_pur (v := ePtr up2 (x1).Pick 1) (P_indexAddrM (α := Int) Try.underlying22 Try.sizeOf3 rfl d3 rfl p3) .plain rfl ?_
  refine EL_do .plain rfl (D_storeM (g := q4) (α := Int) (a' := o0) Try.sizeOf3 rfl d3 p3 rfl (RV_int.2 rfl) fun c6 c5 hs b47 => ?_)
  have hfr := hfr.stp hs
  refine EL_nil ?_
  obtain rfl := sinj h
  exact end0n rfl rfl ⟨_, hfr, rfl, q3.back b47⟩
/-- griffe/fault.changes$4 -/
def f100 (_x0 : FaultFaultLoom) (x1 : FaultDamage) (x2 : List Int) : Option ((List Int)) :=
 (rem64 (w64 ((x1).Pick + (1 : Int))) ((x2).length : Int)).bind fun y5 =>
 (idx x2 (x1).Pick).bind fun y8 =>
 (idx x2 y5).bind fun j0 =>
 (idx x2 (x1).Pick).bind fun _z1 =>
 (idx ((List.set x2 (Int.toNat (x1).Pick) j0)) y5).bind fun _d2 =>
 some ((List.set ((List.set x2 (Int.toNat (x1).Pick) j0)) (Int.toNat y5) y8))
theorem en100 : Enters Try.prog 100 := enters_of Try.func100 (by kernel_rfl) rfl
theorem wk100 {iI : Nat} {gI : Gh} {wI : World} {x0 : FaultFaultLoom} {x1 : FaultDamage} {x2 : List Int} {up0 : Value} (rp0 : RV gI.m wI x0 up0) {up1 : Value} (rp1 : RV gI.m wI x1 up1) {up2 : Value} (mp2 : OM iI gI wI 3 x2 up2) {up3 : Value} {r : (List Int)} (h : f100 x0 x1 x2 = some r) : FnM Try.prog 100 #[up0, up1, up2, up3] iI gI wI (fun g w v => v = .tuple #[] ∧ OM iI g w 3 r up2) := by
 unfold f100 at h
 refine fnM_of_E Try.func100 rfl (Nat.le_of_ble_eq_true rfl) fun g0 hm hfr => ?_
 have y0 := mp2
 replace mp2 := mp2.enter
 rw [← hm] at mp2
 replace hm : g0.m = gI.m := by rw [hm]
 have rp0 : RV g0.m wI x0 up0 := hm ▸ rp0
 have rp1 : RV g0.m wI x1 up1 := hm ▸ rp1
 show E _ 35 none _ _ _ _ _
 refine E_seq (E_region (EL_do .plain rfl (D_box (g := g0) rfl rp0 fun g1 w1 p1 hs q1 => ?_)))
 have hfr := hfr.ext hs
 have rp1 := rp1.ext hs
 have mp2 := mp2.ext hs
 refine EL_do .plain rfl (D_box (g := g1) rfl rp1 fun g2 w2 p2 hs q2 => ?_)
 have hfr := hfr.ext hs
 have mp2 := mp2.ext hs
 refine EL_nil (thn_n (E_seq (E_region (EL_pur (v := fPtr p2 1) (P_fieldAddr at_62_1 rfl (PT.ptr q2)) .plain rfl ?_))))
 have q3 := PT_field (part_FaultDamage_1).1 q2
 refine EL_do .plain rfl (D_load (g := g2) Try.isAgg3 Try.sizeOf3 rfl q3 fun v4 r4 => ?_)
 obtain rfl := RV_int.1 r4
 refine EL_in (.int .i64 ((w64 ((x1).Pick + (1 : Int))))) rfl rfl rfl rfl ?_
 refine EL_mw up2 rfl rfl ?_
 refine EL_pur (v := .int .i64 ((x2).length : Int)) (P_lenM Try.underlying22 rfl mp2) .plain rfl ?_
 obtain ⟨y5, i2, h⟩ := bsome h
 refine EL_pur (v := .int .i64 (y5)) (P_int rfl rfl (congrArg (Option.map (Value.int .i64)) i2)) .plain rfl ?_
 refine EL_at (.int .i64 (y5)) rfl rfl ?_
 refine EL_nil (thn_n (E_seq ?_))
 have q6 := PT_field (part_FaultDamage_1).1 q2
 refine L_load (x := .tmp 18) Try.isAgg3 Try.sizeOf3 q6 fun v7 r7 j2 => ?_
 obtain rfl := RV_int.1 r7
 obtain ⟨y8, i1, h⟩ := bsome h
 refine L_loadM (x := .tmp 20) Try.isAgg3 Try.sizeOf3 mp2 i1 fun v9 r9 m2 => ?_
 obtain rfl := RV_int.1 r9
 obtain ⟨j0, n0, h⟩ := bsome h
 refine L_loadM (x := .tmp 24) Try.isAgg3 Try.sizeOf3 mp2 n0 fun j3 s2 m1 => ?_
 obtain rfl := RV_int.1 s2
 refine E_drawL (g := g2) (n := 11) [] [0, 1, 2, 3, 4, 5, 6, 7, 8, 9, 10] rfl mixed (by kernel_rfl) trivial ?_
 refine L_pur (c := up2) rfl rfl .plain (fun _ _ hd => P_move rfl) ?_
 refine L_pur (c := fPtr p2 1) rfl rfl .plain (fun _ _ hd => P_fieldAddr at_62_1 rfl (PT.ptr q2)) ?_
 refine L_ld (c := .int .i64 ((x1).Pick)) rfl rfl .plain (fun _ _ h => h.ch) j2 rfl ?_
 refine L_pur (c := ePtr up2 (x1).Pick 1) rfl rfl .plain (fun _ _ hd => P_indexAddrM (α := Int) Try.underlying22 Try.sizeOf3 rfl mp2 rfl i1) ?_
 refine L_ld (c := .int .i64 (y8)) rfl rfl .plain (fun _ _ h => ⟨h.ch, fun b hb _ => h.below.block b hb⟩) m2 rfl ?_
 refine L_pur (c := up2) rfl rfl .plain (fun _ _ hd => P_move rfl) ?_
 refine L_pur (c := .int .i64 (y5)) rfl rfl .plain (fun _ _ hd => P_move rfl) ?_
 refine L_pur (c := ePtr up2 y5 1) rfl rfl .plain (fun _ _ hd => P_indexAddrM (α := Int) Try.underlying22 Try.sizeOf3 rfl mp2 rfl n0) ?_
 refine L_ld (c := .int .i64 (j0)) rfl rfl .plain (fun _ _ h => ⟨h.ch, fun b hb _ => h.below.block b hb⟩) m1 rfl ?_
 refine L_pur (c := .int .i64 (y8)) rfl rfl .plain (fun _ _ hd => P_assign rfl) ?_
 refine L_pur (c := .int .i64 (j0)) rfl rfl .plain (fun _ _ hd => P_assign rfl) ?_
 refine L_nil fun j1 m3 hall => ?_
 have hs := hall.1
 have hfr := hfr.ext hs
 have mp2 := mp2.ext hs
 have q2 := q2.ext hs
 clear hs hall
 refine EL_nil (thn_n (E_seq (E_region (EL_mw up2 rfl rfl ?_))))
 refine EL_pur (v := fPtr p2 1) (P_fieldAddr at_62_1 rfl (PT.ptr q2)) .plain rfl ?_
 have z2 := PT_field (part_FaultDamage_1).1 q2
 refine EL_do .plain rfl (D_load (g := j1) Try.isAgg3 Try.sizeOf3 rfl z2 fun o3 d3 => ?_)
 obtain rfl := RV_int.1 d3
 refine EL_mw (.int .i64 (j0)) rfl rfl ?_
 obtain ⟨z1, o0, h⟩ := bsome h
 refine EL_pur (v := ePtr up2 (x1).Pick 1) (P_indexAddrM (α := Int) Try.underlying22 Try.sizeOf3 rfl mp2 rfl o0) .plain rfl ?_
 refine EL_do .plain rfl (D_storeM (g := j1) (α := Int) (a' := j0) Try.sizeOf3 rfl mp2 o0 rfl (RV_int.2 rfl) fun i3 p3 hs b40 => ?_)
 have hfr := hfr.stp hs
 refine EL_nil (thn_n (E_region (EL_mw up2 rfl rfl ?_)))
 refine EL_mw (.int .i64 (y5)) rfl rfl ?_
 refine EL_mw (.int .i64 (y8)) rfl rfl ?_
 obtain ⟨d2, u0, h⟩ := bsome h
 refine EL_pur (v := ePtr up2 y5 1) (P_indexAddrM (α := Int) Try.underlying22 Try.sizeOf3 rfl b40 rfl u0) .plain rfl ?_
 refine EL_do .plain rfl (D_storeM (g := i3) (α := Int) (a' := y8) Try.sizeOf3 rfl b40 u0 rfl (RV_int.2 rfl) fun s3 u3 hs b42 => ?_)
 have hfr := hfr.stp hs
 refine EL_nil ?_
 obtain rfl := sinj h
 exact end0n rfl rfl ⟨_, hfr, rfl, y0.back b42⟩
/-- griffe/fault.changes$5 -/
def f101 (_x0 : FaultFaultLoom) (x1 : FaultDamage) (x3 : List (Int × Bool)) : Option ((List (Int × Bool))) :=
 some ((mset x3 ((x1).Warp) true))
theorem en101 : Enters Try.prog 101 := enters_of Try.func101 (by kernel_rfl) rfl
theorem wk101 {iI : Nat} {gI : Gh} {wI : World} {x0 : FaultFaultLoom} {x1 : FaultDamage} {x3 : List (Int × Bool)} {up0 : Value} (rp0 : RV gI.m wI x0 up0) {up1 : Value} (rp1 : RV gI.m wI x1 up1) {up2 : Value} {up3 : Value} (mp3 : MP (Value.int .i64) iI gI wI x3 up3) {r : (List (Int × Bool))} (h : f101 x0 x1 x3 = some r) : FnM Try.prog 101 #[up0, up1, up2, up3] iI gI wI (fun g w v => v = .tuple #[] ∧ MP (Value.int .i64) iI g w r up3) := by
 unfold f101 at h
 refine fnM_of_E Try.func101 rfl (Nat.le_of_ble_eq_true rfl) fun g0 hm hfr => ?_
 have j0 := mp3
 replace mp3 := mp3.enter
 rw [← hm] at mp3
 replace hm : g0.m = gI.m := by rw [hm]
 have rp0 : RV g0.m wI x0 up0 := hm ▸ rp0
 have rp1 : RV g0.m wI x1 up1 := hm ▸ rp1
 show E _ 11 none _ _ _ _ _
 refine E_seq (E_region (EL_do .plain rfl (D_box (g := g0) rfl rp0 fun g1 w1 p1 hs q1 => ?_)))
 have hfr := hfr.ext hs
 have rp1 := rp1.ext hs
 have mp3 := mp3.ext hs
 refine EL_do .plain rfl (D_box (g := g1) rfl rp1 fun g2 w2 p2 hs q2 => ?_)
 have hfr := hfr.ext hs
 have mp3 := mp3.ext hs
 refine EL_nil (thn_n (E_region (EL_mw up3 rfl rfl ?_)))
 refine EL_pur (v := fPtr p2 3) (P_fieldAddr at_62_3 rfl (PT.ptr q2)) .plain rfl ?_
 have q3 := PT_field (part_FaultDamage_3).1 q2
 refine EL_do .plain rfl (D_load (g := g2) Try.isAgg3 Try.sizeOf3 rfl q3 fun v4 r4 => ?_)
 obtain rfl := RV_int.1 r4
 refine EL_do .plain rfl (D_mapUpdate (g := g2) Try.underlying126 key_3 rfl mp3 rfl rfl (RV_bool.2 rfl) fun g5 w5 hs m5 => ?_)
 have hfr := hfr.stp hs
 refine EL_nil ?_
 obtain rfl := sinj h
 exact end0n rfl rfl ⟨_, hfr, rfl, j0.back m5⟩
def fvF (f : Nat) : Fv := ⟨.func (.func f) #[] #[], rfl⟩
def fv0 : Fv := ⟨.nilFunc, rfl⟩
def chgM : List (Int × Fv) := [(1, fvF 97), (2, fvF 98), (3, fvF 99), (4, fvF 100), (5, fvF 101)]
def fchg (k : Int) (l : FaultFaultLoom) (d : FaultDamage) (rows : List Int) (br : List (Int × Bool)) : Option (List Int × List (Int × Bool)) :=
 if k = 1 then (f97 l d rows).map (fun r => (r, br)) else if k = 2 then (f98 l d rows).map (fun r => (r, br)) else if k = 3 then (f99 l d rows).map (fun r => (r, br)) else if k = 4 then (f100 l d rows).map (fun r => (r, br))
 else if k = 5 then (f101 l d br).map (fun b => (rows, b)) else none
theorem en81 : Enters Try.prog 81 := enters_of Try.func81 (by kernel_rfl) rfl
theorem key_60 : KeyLaw Try.prog 60 (Value.int .i64) := keyLaw_int Try.underlying60
theorem wk81 {i : Nat} {gI : Gh} {wI : World} : FnG Try.prog 81 #[] gI wI (fun g w v => MP (Value.int .i64) i g w chgM v) := by
 refine fnG_of_E Try.func81 rfl (Nat.le_of_ble_eq_true rfl) fun g0 hm hfr => ?_
 show E _ 3 none _ _ _ _ _
 refine E_seq (E_region (EL_at (.map none) rfl rfl (EL_nil (thn_n ?_))))
 refine E_seq (E_region (EL_do .plain rfl (D_makeMap (g := g0) (Value.int .i64) Fv 5 fun g1 w1 v1 hs1 m1 => ?_)))
 refine EL_do .plain rfl (D_insert (v := fvF 97) Try.underlying130 key_60 rfl m1 rfl rfl (RV_fv.2 rfl) fun g2 w2 hs2 m2 => ?_)
 refine EL_do .plain rfl (D_insert (v := fvF 98) Try.underlying130 key_60 rfl m2 rfl rfl (RV_fv.2 rfl) fun g3 w3 hs3 m3 => ?_)
 refine EL_do .plain rfl (D_insert (v := fvF 99) Try.underlying130 key_60 rfl m3 rfl rfl (RV_fv.2 rfl) fun g4 w4 hs4 m4 => ?_)
 refine EL_do .plain rfl (D_insert (v := fvF 100) Try.underlying130 key_60 rfl m4 rfl rfl (RV_fv.2 rfl) fun g5 w5 hs5 m5 => ?_)
 refine EL_do .plain rfl (D_insert (v := fvF 101) Try.underlying130 key_60 rfl m5 rfl rfl (RV_fv.2 rfl) fun g6 w6 hs6 m6 => ?_)
 refine EL_mw v1 rfl rfl ?_
 refine EL_at v1 rfl rfl (EL_nil (thn_n ?_))
 have hfr := (((((hfr.stp hs1).stp hs2).stp hs3).stp hs4).stp hs5).stp hs6
 obtain ⟨g', hx, hmp⟩ := MP.hand (i := i) hfr m6
 exact E_ret (end1 rfl rfl (show _ = v1 from rfl) ⟨g', hx, hmp⟩)
theorem D_chg {e : Env} {g : Gh} {w : World} {K : Value → World → Prop} {c x1 x2 x3 x4 : Operand} {ats : Array TypeId} {k : Int} {l : FaultFaultLoom} {d : FaultDamage} {rows rows' : List Int} {br br' : List (Int × Bool)} {i j : Nat} {lv dv rv bv : Value}
  (hf : fchg k l d rows br = some (rows', br')) (hc : ev e c = ((mget chgM k).getD fv0).v) (h1 : ev e x1 = lv) (h2 : ev e x2 = dv) (h3 : ev e x3 = rv) (h4 : ev e x4 = bv) (r1 : RV g.m w l lv) (r2 : RV g.m w d dv) (hom : OM i g w 3 rows rv) (hmp : MP (Value.int .i64) j g w br bv) (hij : Nat.beq i j = false) (hji : Nat.beq j i = false)
  (h : ∀ g1 w1 g' w' v, Stp i g w g1 w1 → Stp j g1 w1 g' w' → OM i g' w' 3 rows' rv → MP (Value.int .i64) j g' w' br' bv → K v w') : Doe Try.prog (.call { callee := .value c, args := #[x1, x2, x3, x4], argTypes := ats }) e w K := by
 unfold fchg at hf
 have ha : Args e [x1, x2, x3, x4] [lv, dv, rv, bv] := .cons h1 (.cons h2 (.cons h3 (.cons h4 .nil)))
 have one : ∀ (f : Nat) (fF : FaultFaultLoom → FaultDamage → List Int → Option (List Int)), ev e c = .func (.func f) #[] #[] → Enters Try.prog f → (fF l d rows).map (fun r => (r, br)) = some (rows', br') →
   (∀ r, fF l d rows = some r → FnM Try.prog f #[lv, dv, rv, bv] i g w (fun g w v => v = .tuple #[] ∧ OM i g w 3 r rv)) → Doe Try.prog (.call { callee := .value c, args := #[x1, x2, x3, x4], argTypes := ats }) e w K := by
  intro f fF hcf hen hmap hw
  obtain ⟨r, hr, he⟩ := Option.map_eq_some_iff.1 hmap
  obtain ⟨rfl, rfl⟩ : r = rows' ∧ br = br' := by simpa using he
  exact D_callMv (g := g) (i := i) hcf hen ha (hw r hr) fun g' w' v hs hR => h g' w' g' w' v hs (stp_refl _ _ _) hR.2 (hmp.stp hs hji)
 split at hf
 ·rename_i hk; subst hk; exact one 97 f97 hc en97 hf fun r hr => wk97 r1 r2 hom hr
 split at hf
 ·rename_i hk; subst hk; exact one 98 f98 hc en98 hf fun r hr => wk98 r1 r2 hom hr
 split at hf
 ·rename_i hk; subst hk; exact one 99 f99 hc en99 hf fun r hr => wk99 r1 r2 hom hr
 split at hf
 ·rename_i hk; subst hk; exact one 100 f100 hc en100 hf fun r hr => wk100 r1 r2 hom hr
 split at hf
 ·rename_i hk; subst hk
  obtain ⟨r, hr, he⟩ := Option.map_eq_some_iff.1 hf
  obtain ⟨rfl, rfl⟩ : rows = rows' ∧ r = br' := by simpa using he
  exact D_callMv (g := g) (i := j) (f := 101) hc en101 ha (wk101 r1 r2 hmp hr) fun g' w' v hs hR => h g w g' w' v (stp_refl _ _ _) hs (hom.stp hs hij) hR.2
 ·cases hf
/-- griffe/grifferef01.Points -/
def f103 (x0 : Int) (x1 : Int) : Option ((List Bool)) :=
 Option.bind (α := (List Bool)) (
  lp (σ := Int × (List Bool) × Int) (fun k19 (u0, n0, j0) =>
   jn (σ := Unit) (fun (_ : Unit) =>
    Option.bind (α := Int × (List Bool)) (
     (rem64 u0 (2 : Int)).bind fun m1 =>
     (apnd 1 n0 (([(m1 == (1 : Int))] : List Bool))).bind fun m4 =>
     (quo64 u0 (2 : Int)).bind fun j2 =>
     some (j2, m4)
     ) fun (y0, o0) =>
    k19 (y0, o0, (w64 (j0 + (1 : Int))))
    ) fun n4 =>
   bif (decide (j0 < x1)) then
    n4 ()
   else
    some (n0)
   ) big (x0, ([] : List Bool), (0 : Int))
  ) fun i1 =>
 some (i1)
theorem en103 : Enters Try.prog 103 := enters_of Try.func103 (by kernel_rfl) rfl
/-- slices.IndexFunc[[]int,int] -/
def f104 (x0 : List Int) (x1 : Int → Option Bool) : Option (Int) :=
 jn (σ := Unit) (fun (_ : Unit) =>
  some ((-1 : Int))
  ) fun k18 =>
 lp (σ := Int) (fun k19 j0 =>
  bif (decide (j0 < ((x0).length : Int))) then
   jn (σ := Unit) (fun (_ : Unit) =>
    k19 ((w64 (j0 + (1 : Int))))
    ) fun k28 =>
   (idx x0 j0).bind fun z1 =>
   (x1 z1).bind fun z2 =>
   bif z2 then
    some (j0)
   else
    k28 ()
  else
   k18 ()
  ) big ((0 : Int))
theorem en104 : Enters Try.prog 104 := enters_of Try.func104 (by kernel_rfl) rfl
theorem wk104 {gI : Gh} {wI : World} {x0 : List Int} {x1 : Int → Option Bool} {up0 : Value} (rp0 : RV gI.m wI x0 up0) {up1 : Value} (rp1 : FnV1 Try.prog x1 up1 gI wI) {r : Int} (h : f104 x0 x1 = some r) : Fn Try.prog 104 #[up0, up1] gI wI (fun _ _ v => v = .int .i64 (r)) := by
 unfold f104 at h
 refine fn_of_E Try.func104 rfl (Nat.le_of_ble_eq_true rfl) fun g0 hm hfr => ?_
 have rp0 : RV g0.m wI x0 up0 := hm ▸ rp0
 obtain ⟨ff1, fa1, fc1, rfl, fen1, fcl1⟩ := rp1
 show E _ 19 none _ _ _ _ _
 refine E_seq (E_region (EL_at (.int .i64 (0)) rfl rfl ?_))
 refine EL_nil (thn_n (E_joinC h (fun (s : Unit) e w => ∃ (g : Gh) , Fr gI wI g w) (fun X18 k18 d3 h => ?_) ?_))
 ·refine E_seq (E_region (EL_mw up0 rfl rfl ?_))
  refine EL_pur (v := .int .i64 ((x0).length : Int)) (P_len Try.underlying22 rfl rp0) .plain rfl ?_
  refine EL_mw (.int .i64 (0)) rfl rfl ?_
  refine EL_nil (thn_n (E_block ?_))
  refine E_lp h (fun (s : Int) e w => ∃ (g : Gh) , Fr gI wI g w ∧ e 0 = up0 ∧ RV g.m w (x0 : List Int) up0 ∧ e 1 = (.func (.func ff1) fa1 fc1) ∧ e 7 = .int .i64 (((x0).length : Int)) ∧ e 8 = .int .i64 (s)) ⟨g0, hfr, rfl, rp0, rfl, rfl, rfl⟩ (fun X19 k19 i3 => ?_)
  rintro j0 u3 d4 ⟨d2, hfr, i1, n0, j1, m1, o0⟩ h
  refine E_seq (E_region (EL_in (.bool ((decide (j0 < ((x0).length : Int))))) o0 m1 rfl rfl ?_))
  refine EL_nil (thn_n (E_seq ?_))
  rcases csome h with ⟨u0, h⟩ | ⟨u0, h⟩
  ·refine E_ct u0 rfl ?_
   refine E_skip (thn_n (E_joinC h (fun (s : Unit) e w => ∃ (g : Gh) , Fr gI wI g w ∧ e 0 = up0 ∧ RV g.m w (x0 : List Int) up0 ∧ e 1 = (.func (.func ff1) fa1 fc1) ∧ e 7 = .int .i64 (((x0).length : Int)) ∧ e 8 = .int .i64 (j0)) (fun X28 k28 j3 h => ?_) ?_))
   ·refine E_block ?_
    refine E_seq (E_region (EL_mv o0 rfl ?_))
    refine EL_at (.int .i64 (j0)) rfl rfl ?_
    refine EL_nil (thn_n (E_seq (E_region (EL_mv j1 rfl ?_))))
    refine EL_mv i1 rfl ?_
    refine EL_mw (.int .i64 (j0)) rfl rfl ?_
    obtain ⟨z1, i2, h⟩ := bsome h
    refine EL_pur (v := ePtr up0 j0 1) (P_indexAddr (α := Int) Try.underlying22 Try.sizeOf3 rfl n0 rfl i2) .plain rfl ?_
    have o3 := PT_idx n0 i2
    refine EL_do .plain rfl (D_load (g := d2) Try.isAgg3 Try.sizeOf3 rfl o3 fun e4 p3 => ?_)
    obtain rfl := RV_int.1 p3
    obtain ⟨z2, m3, h⟩ := bsome h
    refine EL_do .plain rfl (D_callv (g := d2) (vs := [.int .i64 (z1)]) rfl fen1 (.cons rfl .nil) (fcl1 _ _ hfr.ch _ _ _  (RV_int.2 rfl) m3) fun q3 i4 j4 hs hr => ?_)
    have hfr := hfr.ext hs
    have n0 := n0.ext hs
    obtain rfl := RV_bool.1 hr
    refine EL_nil (thn_n ?_)
    rcases csome h with ⟨y0, h⟩ | ⟨y0, h⟩
    ·refine E_ct y0 rfl ?_
     refine E_seq (E_region (EL_mw (.int .i64 (j0)) rfl rfl ?_))
     refine EL_at (.int .i64 (j0)) rfl rfl ?_
     refine EL_nil (thn_n (E_ret (blk_r ?_)))
     refine thn_r ?_
     refine thn_r ?_
     refine blk_r ?_
     refine thn_r ?_
     obtain rfl := sinj h
     exact end1 rfl rfl (show _ = .int .i64 (j0) from rfl) ⟨_, hfr, rfl⟩
    ·refine E_cf y0 rfl ?_
     exact E_skip (blk_n (thn_n (j3 () _ _ ⟨q3, hfr, i1, n0, j1, m1, o0⟩ h)))
   ·rintro _ z3 m4 ⟨s3, hfr, j2, m2, p2, q2, s2⟩ h
    refine E_region (EL_in (.int .i64 ((w64 (j0 + (1 : Int))))) s2 rfl rfl rfl ?_)
    refine EL_mw (.int .i64 ((w64 (j0 + (1 : Int))))) rfl rfl ?_
    exact EL_nil (thn_n (i3 ((w64 (j0 + (1 : Int)))) _ _ ⟨s3, hfr, j2, m2, p2, q2, rfl⟩ h))
  ·refine E_cf u0 rfl ?_
   refine E_exit ?_
   refine thn_e ?_
   refine thn_e ?_
   refine blk_hit ?_
   exact thn_n (d3 () _ _ ⟨d2, hfr⟩ h)
 ·rintro _ c4 n4 ⟨o4, hfr⟩ h
  refine E_seq (E_region (EL_at (.int .i64 (-1)) rfl rfl ?_))
  refine EL_nil (thn_n (E_ret ?_))
  obtain rfl := sinj h
  exact end1 rfl rfl (show _ = .int .i64 (-1) from rfl) ⟨_, hfr, rfl⟩
/-- griffe/tie.within$1 -/
def f105 (x0 : Int) (z0 : Int) (z1 : Int) : Option (Bool) :=
 Option.bind (α := Bool) (
  bif (decide (x0 < z0)) then
   some (true)
  else
   some ((decide (x0 > z1)))
  ) fun n0 =>
 some (n0)
theorem en105 : Enters Try.prog 105 := enters_of Try.func105 (by kernel_rfl) rfl
theorem wk105 {gI : Gh} {wI : World} {x0 : Int} {z0 : Int} {z1 : Int} {pf0 : Value} (qf0 : PT gI.m wI z0 pf0) {pf1 : Value} (qf1 : PT gI.m wI z1 pf1) {r : Bool} (h : f105 x0 z0 z1 = some r) : Fn Try.prog 105 #[.int .i64 (x0), pf0, pf1] gI wI (fun _ _ v => v = .bool (r)) := by
 unfold f105 at h
 refine fn_of_E Try.func105 rfl (Nat.le_of_ble_eq_true rfl) fun g0 hm hfr => ?_
 have qf0 : PT g0.m wI z0 pf0 := hm ▸ qf0
 have qf1 : PT g0.m wI z1 pf1 := hm ▸ qf1
 show E _ 13 none _ _ _ _ _
 refine E_seq (E_region (EL_at (.bool false) rfl rfl ?_))
 refine EL_nil (thn_n ?_)
 obtain ⟨n0, hx, h⟩ := bsome h
 refine E_join (fun e w => ∃ (g : Gh) , Fr gI wI g w ∧ e 4 = .bool (n0)) (fun Q' hQ => ?_) (fun u0 w7 hR => ?_)
 ·replace h := hx
  clear hx
  refine E_region (EL_mw (.int .i64 (x0)) rfl rfl ?_)
  refine EL_do .plain rfl (D_load (g := g0) Try.isAgg3 Try.sizeOf3 rfl qf0 fun v4 r4 => ?_)
  obtain rfl := RV_int.1 r4
  refine EL_in (.bool ((decide (x0 < z0)))) rfl rfl rfl rfl ?_
  refine EL_mw (.bool ((decide (x0 < z0)))) rfl rfl ?_
  rcases csome h with ⟨j0, h⟩ | ⟨j0, h⟩
  ·refine EL_skip (.no2 rfl rfl j0 rfl) rfl ?_
   refine EL_skip (.no2 rfl rfl j0 rfl) rfl ?_
   refine EL_skip (.no2 rfl rfl j0 rfl) rfl ?_
   refine EL_pur (v := .bool true) (P_pick (b := (decide (x0 < z0))) rfl (pick_t j0 rfl)) .plain rfl ?_
   refine EL_at (.bool true) rfl rfl ?_
   refine EL_nil ?_
   obtain rfl := sinj h
   exact hQ _ _ ⟨g0, hfr, rfl⟩
  ·refine EL_pur (v := .int .i64 (x0)) (P_move rfl) (.yes2 rfl rfl j0) rfl ?_
   refine EL_do (.yes2 rfl rfl j0) rfl (D_load (g := g0) Try.isAgg3 Try.sizeOf3 rfl qf1 fun v6 r6 => ?_)
   obtain rfl := RV_int.1 r6
   refine EL_pur (v := .bool ((decide (x0 > z1)))) (P_int rfl rfl rfl) (.yes2 rfl rfl j0) rfl ?_
   refine EL_pur (v := .bool ((decide (x0 > z1)))) (P_pick (b := (decide (x0 < z0))) rfl (pick_f j0 rfl)) .plain rfl ?_
   refine EL_at (.bool ((decide (x0 > z1)))) rfl rfl ?_
   refine EL_nil ?_
   obtain rfl := sinj h
   exact hQ _ _ ⟨g0, hfr, rfl⟩
 ·clear hx
  obtain ⟨g7, hfr, o0⟩ := hR
  refine E_ret ?_
  obtain rfl := sinj h
  exact end1 rfl rfl (show _ = .bool (n0) from o0) ⟨_, hfr, rfl⟩
/-- griffe/point.within$1 -/
def f106 (x0 : Int) (z0 : Int) (z1 : Int) : Option (Bool) :=
 Option.bind (α := Bool) (
  bif (decide (x0 < z0)) then
   some (true)
  else
   some ((decide (x0 > z1)))
  ) fun n0 =>
 some (n0)
theorem en106 : Enters Try.prog 106 := enters_of Try.func106 (by kernel_rfl) rfl
theorem wk106 {gI : Gh} {wI : World} {x0 : Int} {z0 : Int} {z1 : Int} {pf0 : Value} (qf0 : PT gI.m wI z0 pf0) {pf1 : Value} (qf1 : PT gI.m wI z1 pf1) {r : Bool} (h : f106 x0 z0 z1 = some r) : Fn Try.prog 106 #[.int .i64 (x0), pf0, pf1] gI wI (fun _ _ v => v = .bool (r)) := by
 unfold f106 at h
 refine fn_of_E Try.func106 rfl (Nat.le_of_ble_eq_true rfl) fun g0 hm hfr => ?_
 have qf0 : PT g0.m wI z0 pf0 := hm ▸ qf0
 have qf1 : PT g0.m wI z1 pf1 := hm ▸ qf1
 show E _ 13 none _ _ _ _ _
 refine E_seq (E_region (EL_at (.bool false) rfl rfl ?_))
 refine EL_nil (thn_n ?_)
 obtain ⟨n0, hx, h⟩ := bsome h
 refine E_join (fun e w => ∃ (g : Gh) , Fr gI wI g w ∧ e 4 = .bool (n0)) (fun Q' hQ => ?_) (fun u0 w7 hR => ?_)
 ·replace h := hx
  clear hx
  refine E_region (EL_mw (.int .i64 (x0)) rfl rfl ?_)
  refine EL_do .plain rfl (D_load (g := g0) Try.isAgg3 Try.sizeOf3 rfl qf0 fun v4 r4 => ?_)
  obtain rfl := RV_int.1 r4
  refine EL_in (.bool ((decide (x0 < z0)))) rfl rfl rfl rfl ?_
  refine EL_mw (.bool ((decide (x0 < z0)))) rfl rfl ?_
  rcases csome h with ⟨j0, h⟩ | ⟨j0, h⟩
  ·refine EL_skip (.no2 rfl rfl j0 rfl) rfl ?_
   refine EL_skip (.no2 rfl rfl j0 rfl) rfl ?_
   refine EL_skip (.no2 rfl rfl j0 rfl) rfl ?_
   refine EL_pur (v := .bool true) (P_pick (b := (decide (x0 < z0))) rfl (pick_t j0 rfl)) .plain rfl ?_
   refine EL_at (.bool true) rfl rfl ?_
   refine EL_nil ?_
   obtain rfl := sinj h
   exact hQ _ _ ⟨g0, hfr, rfl⟩
  ·refine EL_pur (v := .int .i64 (x0)) (P_move rfl) (.yes2 rfl rfl j0) rfl ?_
   refine EL_do (.yes2 rfl rfl j0) rfl (D_load (g := g0) Try.isAgg3 Try.sizeOf3 rfl qf1 fun v6 r6 => ?_)
   obtain rfl := RV_int.1 r6
   refine EL_pur (v := .bool ((decide (x0 > z1)))) (P_int rfl rfl rfl) (.yes2 rfl rfl j0) rfl ?_
   refine EL_pur (v := .bool ((decide (x0 > z1)))) (P_pick (b := (decide (x0 < z0))) rfl (pick_f j0 rfl)) .plain rfl ?_
   refine EL_at (.bool ((decide (x0 > z1)))) rfl rfl ?_
   refine EL_nil ?_
   obtain rfl := sinj h
   exact hQ _ _ ⟨g0, hfr, rfl⟩
 ·clear hx
  obtain ⟨g7, hfr, o0⟩ := hR
  refine E_ret ?_
  obtain rfl := sinj h
  exact end1 rfl rfl (show _ = .bool (n0) from o0) ⟨_, hfr, rfl⟩
/-- slices.insertionSortCmpFunc[griffe/api.FaultDamage] -/
def f107 (x0 : List FaultDamage) (x1 : Int) (x2 : Int) (x3 : FaultDamage → FaultDamage → Option Int) : Option ((List FaultDamage)) :=
 lp (σ := (List FaultDamage) × Int) (fun k1 (i3, y0) =>
  jn (σ := Unit) (fun (_ : Unit) =>
   Option.bind (α := (List FaultDamage)) (
    lp (σ := (List FaultDamage) × Int) (fun s4 (o0, j0) =>
     jn (σ := Unit) (fun (_ : Unit) =>
      Option.bind (α := (List FaultDamage)) (
       (idx o0 (w64 (j0 - (1 : Int)))).bind fun j3 =>
       (idx o0 j0).bind fun e4 =>
       (idx o0 j0).bind fun _x6 =>
       (idx ((List.set o0 (Int.toNat j0) j3)) (w64 (j0 - (1 : Int)))).bind fun _y6 =>
       some ((List.set ((List.set o0 (Int.toNat j0) j3)) (Int.toNat (w64 (j0 - (1 : Int)))) e4))
       ) fun i2 =>
      s4 (i2, (w64 (j0 - (1 : Int))))
      ) fun u4 =>
     Option.bind (α := Bool) (
      bif (decide (j0 > x1)) then
       (idx o0 j0).bind fun x4 =>
       (idx o0 (w64 (j0 - (1 : Int)))).bind fun z4 =>
       (x3 x4 z4).bind fun q2 =>
       some ((decide (q2 < (0 : Int))))
      else
       some (false)
      ) fun j1 =>
     bif j1 then
      u4 ()
     else
      some (o0)
     ) big (i3, y0)
    ) fun j2 =>
   k1 (j2, (w64 (y0 + (1 : Int))))
   ) fun k4 =>
  bif (decide (y0 < x2)) then
   k4 ()
  else
   some (i3)
  ) big (x0, (w64 (x1 + (1 : Int))))
theorem en107 : Enters Try.prog 107 := enters_of Try.func107 (by kernel_rfl) rfl
theorem wk107 {iI : Nat} {gI : Gh} {wI : World} {x0 : List FaultDamage} {x1 : Int} {x2 : Int} {x3 : FaultDamage → FaultDamage → Option Int} {up0 : Value} (mp0 : OM iI gI wI 62 x0 up0) {up3 : Value} (rp3 : FnV2 Try.prog x3 up3 gI wI) {r : (List FaultDamage)} (h : f107 x0 x1 x2 x3 = some r) : FnM Try.prog 107 #[up0, .int .i64 (x1), .int .i64 (x2), up3] iI gI wI (fun g w v => v = .tuple #[] ∧ OM iI g w 62 r up0) := by
 unfold f107 at h
 refine fnM_of_E Try.func107 rfl (Nat.le_of_ble_eq_true rfl) fun g0 hm hfr => ?_
 have o6 := mp0
 replace mp0 := mp0.enter
 rw [← hm] at mp0
 replace hm : g0.m = gI.m := by rw [hm]
 obtain ⟨ff3, fa3, fc3, rfl, fen3, fcl3⟩ := rp3
 show E _ 53 none _ _ _ _ _
 refine E_seq (E_region (EL_mw (.int .i64 (x1)) rfl rfl ?_))
 refine EL_in (.int .i64 ((w64 (x1 + (1 : Int))))) rfl rfl rfl rfl ?_
 refine EL_at (.int .i64 ((w64 (x1 + (1 : Int))))) rfl rfl ?_
 refine EL_nil (thn_n (E_block ?_))
 refine E_lp h (fun (s : (List FaultDamage) × Int) e w => ∃ (g : Gh) , FrM iI gI wI g w ∧ e 0 = up0 ∧ OM 1 g w 62 (s.1 : List FaultDamage) up0 ∧ e 1 = .int .i64 (x1) ∧ e 2 = .int .i64 (x2) ∧ e 3 = (.func (.func ff3) fa3 fc3) ∧ e 8 = .int .i64 (s.2)) ⟨g0, hfr, rfl, mp0, rfl, rfl, rfl, rfl⟩ (fun X1 k1 hk1 => ?_)
 rintro ⟨i3, y0⟩ p8 w2 ⟨g2, hfr, z6, c5, a7, d5, b7, e5⟩ h
 refine E_joinC h (fun (s : Unit) e w => ∃ (g : Gh) , FrM iI gI wI g w ∧ e 0 = up0 ∧ OM 1 g w 62 (i3 : List FaultDamage) up0 ∧ e 1 = .int .i64 (x1) ∧ e 2 = .int .i64 (x2) ∧ e 3 = (.func (.func ff3) fa3 fc3) ∧ e 8 = .int .i64 (y0)) (fun X4 k4 hk4 h => ?_) ?_
 ·refine E_seq (E_region (EL_mv e5 rfl ?_))
  refine EL_mv d5 rfl ?_
  refine EL_in (.bool ((decide (y0 < x2)))) rfl rfl rfl rfl ?_
  refine EL_nil (thn_n ?_)
  rcases csome h with ⟨i5, h⟩ | ⟨i5, h⟩
  ·refine E_ct i5 rfl ?_
   exact E_skip (thn_n (hk4 () _ _ ⟨g2, hfr, z6, c5, a7, d5, b7, e5⟩ h))
  ·refine E_cf i5 rfl ?_
   refine E_exit ?_
   refine thn_e ?_
   refine thn_e ?_
   refine blk_hit ?_
   obtain rfl := sinj h
   exact end0n rfl rfl ⟨_, hfr, rfl, o6.back c5⟩
 ·rintro _ q8 w6 ⟨g6, hfr, c7, d7, e7, g7, i7, j5⟩ h
  obtain ⟨j2, hx, h⟩ := bsome h
  refine E_join (fun e w => ∃ (g : Gh) , FrM iI gI wI g w ∧ e 0 = up0 ∧ OM 1 g w 62 (j2 : List FaultDamage) up0 ∧ e 1 = .int .i64 (x1) ∧ e 2 = .int .i64 (x2) ∧ e 3 = (.func (.func ff3) fa3 fc3) ∧ e 8 = .int .i64 (y0)) (fun Q' hQ => ?_) (fun x7 c8 hR => ?_)
  ·replace h := hx
   clear hx
   refine E_block ?_
   refine E_seq (E_region (EL_mv j5 rfl ?_))
   refine EL_at (.int .i64 (y0)) rfl rfl ?_
   refine EL_nil (thn_n (E_block ?_))
   refine E_lp h (fun (s : (List FaultDamage) × Int) e w => ∃ (g : Gh) , FrM iI gI wI g w ∧ e 0 = up0 ∧ OM 1 g w 62 (s.1 : List FaultDamage) up0 ∧ e 1 = .int .i64 (x1) ∧ e 2 = .int .i64 (x2) ∧ e 3 = (.func (.func ff3) fa3 fc3) ∧ e 8 = .int .i64 (y0) ∧ e 9 = .int .i64 (s.2)) ⟨g6, hfr, c7, d7, e7, g7, i7, j5, rfl⟩ (fun X296 s4 p6 => ?_)
   rintro ⟨o0, j0⟩ y7 d8 ⟨l5, hfr, m2, u0, p2, o3, s2, p3, m1⟩ h
   refine E_joinC h (fun (s : Unit) e w => ∃ (g : Gh) , FrM iI gI wI g w ∧ e 0 = up0 ∧ OM 1 g w 62 (o0 : List FaultDamage) up0 ∧ e 1 = .int .i64 (x1) ∧ e 2 = .int .i64 (x2) ∧ e 3 = (.func (.func ff3) fa3 fc3) ∧ e 8 = .int .i64 (y0) ∧ e 9 = .int .i64 (j0)) (fun X410 u4 q6 h => ?_) ?_
   ·obtain ⟨j1, hx, h⟩ := bsome h
    refine E_join (fun e w => ∃ (g : Gh) , FrM iI gI wI g w ∧ e 0 = up0 ∧ OM 1 g w 62 (o0 : List FaultDamage) up0 ∧ e 1 = .int .i64 (x1) ∧ e 2 = .int .i64 (x2) ∧ e 3 = (.func (.func ff3) fa3 fc3) ∧ e 8 = .int .i64 (y0) ∧ e 9 = .int .i64 (j0) ∧ e 34 = .bool (j1)) (fun Q' hQ => ?_) (fun z7 e8 hR => ?_)
    ·replace h := hx
     clear hx
     rcases csome h with ⟨n0, h⟩ | ⟨n0, h⟩
     ·obtain ⟨x4, j4, h⟩ := bsome h
      refine L_loadM (x := .tmp 25) Try.isAgg62 Try.sizeOf62 u0 j4 fun m5 j7 r6 => ?_
      obtain ⟨z4, m4, h⟩ := bsome h
      refine L_loadM (x := .tmp 30) Try.isAgg62 Try.sizeOf62 u0 m4 fun n5 l7 s6 => ?_
      obtain ⟨q2, t6, h⟩ := bsome h
      refine E_drawL (g := l5) (n := 17) [(14, (fun v g w => v = .int .i64 (q2)))] [0, 1, 2, 3, 4, 5, 6, 7, 8, 9, 10, 11, 12, 13, 14, 15, 16] rfl mixed (by kernel_rfl) (⟨fun _ => up_eq _, trivial⟩) ?_
      refine L_pur (c := .int .i64 (j0)) rfl rfl .plain (fun _ _ hd => P_move m1) ?_
      refine L_pur (c := .int .i64 (x1)) rfl rfl .plain (fun _ _ hd => P_move p2) ?_
      refine L_pur (c := .bool ((decide (j0 > x1)))) rfl rfl .plain (fun _ _ hd => P_int rfl rfl rfl) ?_
      refine L_pur (c := .bool ((decide (j0 > x1)))) rfl rfl .plain (fun _ _ hd => P_move rfl) ?_
      refine L_pur (c := (.func (.func ff3) fa3 fc3)) rfl rfl (.yes2 rfl rfl n0) (fun _ _ hd => P_move s2) ?_
      refine L_pur (c := up0) rfl rfl (.yes2 rfl rfl n0) (fun _ _ hd => P_move m2) ?_
      refine L_pur (c := .int .i64 (j0)) rfl rfl (.yes2 rfl rfl n0) (fun _ _ hd => P_move m1) ?_
      refine L_pur (c := ePtr up0 j0 5) rfl rfl (.yes2 rfl rfl n0) (fun _ _ hd => P_indexAddrM (α := FaultDamage) Try.underlying29 Try.sizeOf62 rfl u0 rfl j4) ?_
      refine L_ld (c := m5) rfl rfl (.yes2 rfl rfl n0) (fun _ _ h => ⟨h.ch, fun b hb _ => h.below.block b hb⟩) r6 rfl ?_
      refine L_pur (c := up0) rfl rfl (.yes2 rfl rfl n0) (fun _ _ hd => P_move m2) ?_
      refine L_pur (c := .int .i64 (j0)) rfl rfl (.yes2 rfl rfl n0) (fun _ _ hd => P_move m1) ?_
      refine L_pur (c := .int .i64 ((w64 (j0 - (1 : Int))))) rfl rfl (.yes2 rfl rfl n0) (fun _ _ hd => P_int rfl rfl rfl) ?_
      refine L_pur (c := ePtr up0 (w64 (j0 - (1 : Int))) 5) rfl rfl (.yes2 rfl rfl n0) (fun _ _ hd => P_indexAddrM (α := FaultDamage) Try.underlying29 Try.sizeOf62 rfl u0 rfl m4) ?_
      refine L_ld (c := n5) rfl rfl (.yes2 rfl rfl n0) (fun _ _ h => ⟨h.ch, fun b hb _ => h.below.block b hb⟩) s6 rfl ?_
      refine L_do (φ := fun v g w => v = .int .i64 (q2)) rfl rfl (.yes2 rfl rfl n0) (fun g w hd => D_callv (g := g) (vs := [m5, n5]) rfl fen3 (.cons rfl (.cons rfl .nil)) (fcl3 _ _ (hfr.ext hd.1).ch _ _ _ _ _  (j7.ext hd.1) (l7.ext hd.1) t6) fun g' w' v hs hr => ⟨g', hs, RV_int.1 hr⟩) (fun g8 hv => ?_)
      obtain ⟨_, _, _, rfl⟩ := hv
      refine L_pur (c := .bool ((decide (q2 < (0 : Int))))) rfl rfl (.yes2 rfl rfl n0) (fun _ _ hd => P_int rfl rfl rfl) ?_
      refine L_pur (c := .bool ((decide (q2 < (0 : Int))))) rfl rfl .plain (fun _ _ hd => P_pick (b := (decide (j0 > x1))) rfl (pick_t n0 rfl)) ?_
      refine L_nil fun m7 i8 hall => ?_
      have hs := hall.1
      have hfr := hfr.ext hs
      have u0 := u0.ext hs
      clear hs hall
      refine EL_nil ?_
      obtain rfl := sinj h
      exact hQ _ _ ⟨m7, hfr, m2, u0, p2, o3, s2, p3, m1, rfl⟩
     ·refine E_drawL (g := l5) (n := 17) [] [0, 1, 2, 3, 4, 5, 6, 7, 8, 9, 10, 11, 12, 13, 14, 15, 16] rfl mixed (by kernel_rfl) trivial ?_
      refine L_pur (c := .int .i64 (j0)) rfl rfl .plain (fun _ _ hd => P_move m1) ?_
      refine L_pur (c := .int .i64 (x1)) rfl rfl .plain (fun _ _ hd => P_move p2) ?_
      refine L_pur (c := .bool ((decide (j0 > x1)))) rfl rfl .plain (fun _ _ hd => P_int rfl rfl rfl) ?_
      refine L_pur (c := .bool ((decide (j0 > x1)))) rfl rfl .plain (fun _ _ hd => P_move rfl) ?_
      refine L_skip rfl (.no2 rfl rfl n0 rfl) ?_
      refine L_skip rfl (.no2 rfl rfl n0 rfl) ?_
      refine L_skip rfl (.no2 rfl rfl n0 rfl) ?_
      refine L_skip rfl (.no2 rfl rfl n0 rfl) ?_
      refine L_skip rfl (.no2 rfl rfl n0 rfl) ?_
      refine L_skip rfl (.no2 rfl rfl n0 rfl) ?_
      refine L_skip rfl (.no2 rfl rfl n0 rfl) ?_
      refine L_skip rfl (.no2 rfl rfl n0 rfl) ?_
      refine L_skip rfl (.no2 rfl rfl n0 rfl) ?_
      refine L_skip rfl (.no2 rfl rfl n0 rfl) ?_
      refine L_skip rfl (.no2 rfl rfl n0 rfl) ?_
      refine L_skip rfl (.no2 rfl rfl n0 rfl) ?_
      refine L_pur (c := .bool false) rfl rfl .plain (fun _ _ hd => P_pick (b := (decide (j0 > x1))) rfl (pick_f n0 rfl)) ?_
      refine L_nil fun n7 j8 hall => ?_
      have hs := hall.1
      have hfr := hfr.ext hs
      have u0 := u0.ext hs
      clear hs hall
      refine EL_nil ?_
      obtain rfl := sinj h
      exact hQ _ _ ⟨n7, hfr, m2, u0, p2, o3, s2, p3, m1, rfl⟩
    ·clear hx
     obtain ⟨o5, hfr, q3, s3, u3, z3, c4, d4, p5, d3⟩ := hR
     rcases csome h with ⟨m3, h⟩ | ⟨m3, h⟩
     ·refine E_cond_true (Eq.trans (show ev _ _ = .bool (j1) from d3) (congrArg Value.bool m3)) ?_
      exact E_skip (thn_n (q6 () _ _ ⟨o5, hfr, q3, s3, u3, z3, c4, d4, p5⟩ h))
     ·refine E_cond_false (Eq.trans (show ev _ _ = .bool (j1) from d3) (congrArg Value.bool m3)) ?_
      refine E_exit ?_
      refine thn_e ?_
      refine thn_e ?_
      refine blk_hit ?_
      refine blk_n ?_
      obtain rfl := sinj h
      exact hQ _ _ ⟨o5, hfr, q3, s3, u3, z3, c4, d4⟩
   ·rintro _ a8 k8 ⟨o7, hfr, z1, i1, q5, t5, u5, x5, d2⟩ h
    obtain ⟨i2, hx, h⟩ := bsome h
    refine E_join (fun e w => ∃ (g : Gh) , FrM iI gI wI g w ∧ e 0 = up0 ∧ OM 1 g w 62 (i2 : List FaultDamage) up0 ∧ e 1 = .int .i64 (x1) ∧ e 2 = .int .i64 (x2) ∧ e 3 = (.func (.func ff3) fa3 fc3) ∧ e 8 = .int .i64 (y0) ∧ e 9 = .int .i64 (j0)) (fun Q' hQ => ?_) (fun b8 l8 hR => ?_)
    ·replace h := hx
     clear hx
     refine E_block ?_
     obtain ⟨j3, n4, h⟩ := bsome h
     refine L_loadM (x := .tmp 45) Try.isAgg62 Try.sizeOf62 i1 n4 fun p7 i4 u6 => ?_
     obtain ⟨e4, o4, h⟩ := bsome h
     refine L_loadM (x := .tmp 49) Try.isAgg62 Try.sizeOf62 i1 o4 fun q7 z2 v6 => ?_
     obtain ⟨x6, p4, h⟩ := bsome h
     refine E_drawTL (g := o7) (n := 15) [2, 3, 4] [] [0, 1, 2, 3, 4, 5, 6, 7, 8, 9, 10, 11, 12, 13, 14] rfl mixed (by kernel_rfl) trivial rfl ?_
     refine L_pur (c := up0) rfl rfl .plain (fun _ _ hd => P_move z1) ?_
     refine L_pur (c := .int .i64 (j0)) rfl rfl .plain (fun _ _ hd => P_move d2) ?_
     refine L_purL (c := up0) rfl rfl .plain (P_move z1) ?_
     refine L_purL (c := .int .i64 (j0)) rfl rfl .plain (P_move d2) ?_
     refine L_purL (c := .int .i64 ((w64 (j0 - (1 : Int))))) rfl rfl .plain (P_int rfl rfl rfl) ?_
     refine L_pur (c := up0) rfl rfl .plain (fun _ _ hd => P_move z1) ?_
     refine L_pur (c := .int .i64 (j0)) rfl rfl .plain (fun _ _ hd => P_move d2) ?_
     refine L_pur (c := .int .i64 ((w64 (j0 - (1 : Int))))) rfl rfl .plain (fun _ _ hd => P_int rfl rfl rfl) ?_
     refine L_pur (c := ePtr up0 (w64 (j0 - (1 : Int))) 5) rfl rfl .plain (fun _ _ hd => P_indexAddrM (α := FaultDamage) Try.underlying29 Try.sizeOf62 rfl i1 rfl n4) ?_
     refine L_ld (c := p7) rfl rfl .plain (fun _ _ h => ⟨h.ch, fun b hb _ => h.below.block b hb⟩) u6 rfl ?_
     refine L_pur (c := up0) rfl rfl .plain (fun _ _ hd => P_move z1) ?_
     refine L_pur (c := .int .i64 (j0)) rfl rfl .plain (fun _ _ hd => P_move d2) ?_
     refine L_pur (c := ePtr up0 j0 5) rfl rfl .plain (fun _ _ hd => P_indexAddrM (α := FaultDamage) Try.underlying29 Try.sizeOf62 rfl i1 rfl o4) ?_
     refine L_ld (c := q7) rfl rfl .plain (fun _ _ h => ⟨h.ch, fun b hb _ => h.below.block b hb⟩) v6 rfl ?_
     refine L_pur (c := ePtr up0 j0 5) rfl rfl .plain (fun _ _ hd => P_indexAddrM (α := FaultDamage) Try.underlying29 Try.sizeOf62 rfl i1 rfl p4) ?_
     refine L_nil fun r7 m8 hall => ?_
     have hs := hall.1
     have hfr := hfr.ext hs
     have i1 := i1.ext hs
     have i4 := i4.ext hs
     have z2 := z2.ext hs
     clear hs hall
     refine TL_do .plain rfl (D_storeM (g := r7) (α := FaultDamage) (a' := j3) Try.sizeOf62 rfl i1 p4 rfl i4 fun s7 n8 hs b581 => ?_)
     have hfr := hfr.stp hs
     have z2 := z2.stp hs
     obtain ⟨y6, q4, h⟩ := bsome h
     refine TL_pur (v := ePtr up0 (w64 (j0 - (1 : Int))) 5) (P_indexAddrM (α := FaultDamage) Try.underlying29 Try.sizeOf62 rfl b581 rfl q4) .plain rfl ?_
     refine TL_do .plain rfl (D_storeM (g := s7) (α := FaultDamage) (a' := e4) Try.sizeOf62 rfl b581 q4 rfl z2 fun t7 o8 hs b583 => ?_)
     have hfr := hfr.stp hs
     refine TL_nil ?_
     refine blk_n ?_
     obtain rfl := sinj h
     exact hQ _ _ ⟨t7, hfr, z1, b583, q5, t5, u5, x5, d2⟩
    ·clear hx
     obtain ⟨u7, hfr, y5, z5, a6, b6, c6, d6, e6⟩ := hR
     refine E_region (EL_mv e6 rfl ?_)
     refine EL_in (.int .i64 ((w64 (j0 - (1 : Int))))) rfl rfl rfl rfl ?_
     refine EL_at (.int .i64 ((w64 (j0 - (1 : Int))))) rfl rfl ?_
     exact EL_nil (thn_n (p6 (i2, (w64 (j0 - (1 : Int)))) _ _ ⟨u7, hfr, y5, z5, a6, b6, c6, d6, rfl⟩ h))
  ·clear hx
   obtain ⟨v7, hfr, i6, j6, k6, l6, m6, n6⟩ := hR
   refine E_region (EL_mv n6 rfl ?_)
   refine EL_in (.int .i64 ((w64 (y0 + (1 : Int))))) rfl rfl rfl rfl ?_
   refine EL_at (.int .i64 ((w64 (y0 + (1 : Int))))) rfl rfl ?_
   exact EL_nil (thn_n (hk1 (j2, (w64 (y0 + (1 : Int)))) _ _ ⟨v7, hfr, i6, j6, k6, l6, m6, rfl⟩ h))
/-- griffe/tie.mark -/
def f110 (x0 : Bool) : Option (UInt8) :=
 jn (σ := Unit) (fun (_ : Unit) =>
  some ((46 : UInt8))
  ) fun k2 =>
 bif x0 then
  some ((120 : UInt8))
 else
  k2 ()
theorem en110 : Enters Try.prog 110 := enters_of Try.func110 (by kernel_rfl) rfl
theorem wk110 {gI : Gh} {wI : World} {x0 : Bool}  {r : UInt8} (h : f110 x0 = some r) : Fn Try.prog 110 #[.bool (x0)] gI wI (fun _ _ v => v = .int .u8 (UInt8.toNat (r))) := by
 unfold f110 at h
 refine fn_of_E Try.func110 rfl (Nat.le_of_ble_eq_true rfl) fun g0 hm hfr => ?_
 show E _ 4 none _ _ _ _ _
 refine E_seq (E_region (EL_at (.int .u8 (UInt8.toNat 0)) rfl rfl ?_))
 refine EL_nil (thn_n (E_joinC h (fun (s : Unit) e w => ∃ (g : Gh) , Fr gI wI g w) (fun X2 k2 hk2 h => ?_) ?_))
 ·refine E_seq (E_region (EL_mw (.bool (x0)) rfl rfl ?_))
  refine EL_nil (thn_n ?_)
  rcases csome h with ⟨hc3, h⟩ | ⟨hc3, h⟩
  ·refine E_ct hc3 rfl ?_
   refine E_seq (E_region (EL_at (.int .u8 (UInt8.toNat 120)) rfl rfl ?_))
   refine EL_nil (thn_n (E_ret (thn_r ?_)))
   obtain rfl := sinj h
   exact end1 rfl rfl (show _ = .int .u8 (UInt8.toNat 120) from rfl) ⟨_, hfr, rfl⟩
  ·refine E_cf hc3 rfl ?_
   exact E_skip (thn_n (hk2 () _ _ ⟨g0, hfr⟩ h))
 ·rintro _ j0 w4 ⟨g4, hfr⟩ h
  refine E_seq (E_region (EL_at (.int .u8 (UInt8.toNat 46)) rfl rfl ?_))
  refine EL_nil (thn_n (E_ret ?_))
  obtain rfl := sinj h
  exact end1 rfl rfl (show _ = .int .u8 (UInt8.toNat 46) from rfl) ⟨_, hfr, rfl⟩
/-- (griffe/tie.harness).lifted -/
def f111 (x0 : TieTieHarness) (x1 : Int) (x2 : Int) : Option (Bool) :=
 (idx (((x0).TieHarness).Warps) x2).bind fun y5 =>
 (shr64 x1 y5).bind fun y8 =>
 some (((bit64 .and y8 (1 : Int)) == (1 : Int)))
theorem en111 : Enters Try.prog 111 := enters_of Try.func111 (by kernel_rfl) rfl
theorem wk111 {gI : Gh} {wI : World} {x0 : TieTieHarness} {x1 : Int} {x2 : Int} {up0 : Value} (rp0 : RV gI.m wI x0 up0) {r : Bool} (h : f111 x0 x1 x2 = some r) : Fn Try.prog 111 #[up0, .int .i64 (x1), .int .i64 (x2)] gI wI (fun _ _ v => v = .bool (r)) := by
 unfold f111 at h
 refine fn_of_E Try.func111 rfl (Nat.le_of_ble_eq_true rfl) fun g0 hm hfr => ?_
 have rp0 : RV g0.m wI x0 up0 := hm ▸ rp0
 show E _ 17 none _ _ _ _ _
 refine E_seq (E_region (EL_do .plain rfl (D_box (g := g0) rfl rp0 fun g1 w1 p1 hs q1 => ?_)))
 have hfr := hfr.ext hs
 refine EL_at (.bool false) rfl rfl ?_
 refine EL_nil (thn_n (E_seq (E_region (EL_mw (.int .i64 (x1)) rfl rfl ?_))))
 refine EL_pur (v := fPtr p1 0) (P_fieldAddr at_145_0 rfl (PT.ptr q1)) .plain rfl ?_
 have q2 := PT_field (part_TieTieHarness_0).1 q1
 refine EL_pur (v := fPtr (fPtr p1 0) 1) (P_fieldAddr at_24_1 rfl (PT.ptr q2)) .plain rfl ?_
 have q3 := PT_field (part_TieHarness_1).1 q2
 refine EL_do .plain rfl (D_load (g := g1) Try.isAgg22 Try.sizeOf22 rfl q3 fun v4 r4 => ?_)
 refine EL_mw (.int .i64 (x2)) rfl rfl ?_
 obtain ⟨y5, j0, h⟩ := bsome h
 refine EL_pur (v := ePtr v4 x2 1) (P_indexAddr (α := Int) Try.underlying22 Try.sizeOf3 rfl r4 rfl j0) .plain rfl ?_
 have q6 := PT_idx r4 j0
 refine EL_do .plain rfl (D_load (g := g1) Try.isAgg3 Try.sizeOf3 rfl q6 fun v7 r7 => ?_)
 obtain rfl := RV_int.1 r7
 obtain ⟨y8, n0, h⟩ := bsome h
 refine EL_pur (v := .int .i64 (y8)) (P_int rfl rfl (congrArg (Option.map (Value.int .i64)) n0)) .plain rfl ?_
 refine EL_in (.int .i64 ((bit64 .and y8 (1 : Int)))) rfl rfl rfl rfl ?_
 refine EL_in (.bool (((bit64 .and y8 (1 : Int)) == (1 : Int)))) rfl rfl rfl rfl ?_
 refine EL_at (.bool (((bit64 .and y8 (1 : Int)) == (1 : Int)))) rfl rfl ?_
 refine EL_nil (thn_n (E_ret ?_))
 obtain rfl := sinj h
 exact end1 rfl rfl (show _ = .bool (((bit64 .and y8 (1 : Int)) == (1 : Int))) from rfl) ⟨_, hfr, rfl⟩
/-- slices.swapRangeCmpFunc[griffe/api.FaultDamage] -/
def f115 (x0 : List FaultDamage) (x1 : Int) (x2 : Int) (x3 : Int) (_x4 : FaultDamage → FaultDamage → Option Int) : Option ((List FaultDamage)) :=
 lp (σ := (List FaultDamage) × Int) (fun k1 (n0, j0) =>
  jn (σ := Unit) (fun (_ : Unit) =>
   Option.bind (α := (List FaultDamage)) (
    (idx n0 (w64 (x2 + j0))).bind fun d2 =>
    (idx n0 (w64 (x1 + j0))).bind fun y44 =>
    (idx n0 (w64 (x1 + j0))).bind fun _m4 =>
    (idx ((List.set n0 (Int.toNat (w64 (x1 + j0))) d2)) (w64 (x2 + j0))).bind fun _n4 =>
    some ((List.set ((List.set n0 (Int.toNat (w64 (x1 + j0))) d2)) (Int.toNat (w64 (x2 + j0))) y44))
    ) fun y0 =>
   k1 (y0, (w64 (j0 + (1 : Int))))
   ) fun k4 =>
  bif (decide (j0 < x3)) then
   k4 ()
  else
   some (n0)
  ) big (x0, (0 : Int))
theorem en115 : Enters Try.prog 115 := enters_of Try.func115 (by kernel_rfl) rfl
theorem wk115 {iI : Nat} {gI : Gh} {wI : World} {x0 : List FaultDamage} {x1 : Int} {x2 : Int} {x3 : Int} {x4 : FaultDamage → FaultDamage → Option Int} {up0 : Value} (mp0 : OM iI gI wI 62 x0 up0) {up4 : Value} (rp4 : FnV2 Try.prog x4 up4 gI wI) {r : (List FaultDamage)} (h : f115 x0 x1 x2 x3 x4 = some r) : FnM Try.prog 115 #[up0, .int .i64 (x1), .int .i64 (x2), .int .i64 (x3), up4] iI gI wI (fun g w v => v = .tuple #[] ∧ OM iI g w 62 r up0) := by
 unfold f115 at h
 refine fnM_of_E Try.func115 rfl (Nat.le_of_ble_eq_true rfl) fun g0 hm hfr => ?_
 have m3 := mp0
 replace mp0 := mp0.enter
 rw [← hm] at mp0
 replace hm : g0.m = gI.m := by rw [hm]
 obtain ⟨ff4, fa4, fc4, rfl, fen4, fcl4⟩ := rp4
 show E _ 38 none _ _ _ _ _
 refine E_seq (E_region (EL_at (.int .i64 (0)) rfl rfl ?_))
 refine EL_nil (thn_n (E_block ?_))
 refine E_lp h (fun (s : (List FaultDamage) × Int) e w => ∃ (g : Gh) , FrM iI gI wI g w ∧ e 0 = up0 ∧ OM 1 g w 62 (s.1 : List FaultDamage) up0 ∧ e 1 = .int .i64 (x1) ∧ e 2 = .int .i64 (x2) ∧ e 3 = .int .i64 (x3) ∧ e 10 = .int .i64 (s.2)) ⟨g0, hfr, rfl, mp0, rfl, rfl, rfl, rfl⟩ (fun X1 k1 hk1 => ?_)
 rintro ⟨n0, j0⟩ d5 w2 ⟨g2, hfr, z3, j2, c4, d4, m2, i2⟩ h
 refine E_joinC h (fun (s : Unit) e w => ∃ (g : Gh) , FrM iI gI wI g w ∧ e 0 = up0 ∧ OM 1 g w 62 (n0 : List FaultDamage) up0 ∧ e 1 = .int .i64 (x1) ∧ e 2 = .int .i64 (x2) ∧ e 3 = .int .i64 (x3) ∧ e 10 = .int .i64 (j0)) (fun X4 k4 hk4 h => ?_) ?_
 ·refine E_seq (E_region (EL_mv i2 rfl ?_))
  refine EL_mv m2 rfl ?_
  refine EL_in (.bool ((decide (j0 < x3)))) rfl rfl rfl rfl ?_
  refine EL_nil (thn_n ?_)
  rcases csome h with ⟨p2, h⟩ | ⟨p2, h⟩
  ·refine E_ct p2 rfl ?_
   exact E_skip (thn_n (hk4 () _ _ ⟨g2, hfr, z3, j2, c4, d4, m2, i2⟩ h))
  ·refine E_cf p2 rfl ?_
   refine E_exit ?_
   refine thn_e ?_
   refine thn_e ?_
   refine blk_hit ?_
   obtain rfl := sinj h
   exact end0n rfl rfl ⟨_, hfr, rfl, m3.back j2⟩
 ·rintro _ e5 w6 ⟨g6, hfr, i1, o0, m1, z1, e4, u0⟩ h
  obtain ⟨y0, hx, h⟩ := bsome h
  refine E_join (fun e w => ∃ (g : Gh) , FrM iI gI wI g w ∧ e 0 = up0 ∧ OM 1 g w 62 (y0 : List FaultDamage) up0 ∧ e 1 = .int .i64 (x1) ∧ e 2 = .int .i64 (x2) ∧ e 3 = .int .i64 (x3) ∧ e 10 = .int .i64 (j0)) (fun Q' hQ => ?_) (fun c5 i5 hR => ?_)
  ·replace h := hx
   clear hx
   refine E_block ?_
   obtain ⟨d2, q2, h⟩ := bsome h
   refine L_loadM (x := .tmp 28) Try.isAgg62 Try.sizeOf62 o0 q2 fun o4 s2 i4 => ?_
   obtain ⟨y44, z2, h⟩ := bsome h
   refine L_loadM (x := .tmp 34) Try.isAgg62 Try.sizeOf62 o0 z2 fun p4 j1 j4 => ?_
   obtain ⟨m4, d3, h⟩ := bsome h
   refine E_drawTL (g := g6) (n := 21) [4, 5, 6, 7] [] [0, 1, 2, 3, 4, 5, 6, 7, 8, 9, 10, 11, 12, 13, 14, 15, 16, 17, 18, 19, 20] rfl mixed (by kernel_rfl) trivial rfl ?_
   refine L_pur (c := up0) rfl rfl .plain (fun _ _ hd => P_move i1) ?_
   refine L_pur (c := .int .i64 (x1)) rfl rfl .plain (fun _ _ hd => P_move m1) ?_
   refine L_pur (c := .int .i64 (j0)) rfl rfl .plain (fun _ _ hd => P_move u0) ?_
   refine L_pur (c := .int .i64 ((w64 (x1 + j0)))) rfl rfl .plain (fun _ _ hd => P_int rfl rfl rfl) ?_
   refine L_purL (c := up0) rfl rfl .plain (P_move i1) ?_
   refine L_purL (c := .int .i64 (x2)) rfl rfl .plain (P_move z1) ?_
   refine L_purL (c := .int .i64 (j0)) rfl rfl .plain (P_move u0) ?_
   refine L_purL (c := .int .i64 ((w64 (x2 + j0)))) rfl rfl .plain (P_int rfl rfl rfl) ?_
   refine L_pur (c := up0) rfl rfl .plain (fun _ _ hd => P_move i1) ?_
   refine L_pur (c := .int .i64 (x2)) rfl rfl .plain (fun _ _ hd => P_move z1) ?_
   refine L_pur (c := .int .i64 (j0)) rfl rfl .plain (fun _ _ hd => P_move u0) ?_
   refine L_pur (c := .int .i64 ((w64 (x2 + j0)))) rfl rfl .plain (fun _ _ hd => P_int rfl rfl rfl) ?_
   refine L_pur (c := ePtr up0 (w64 (x2 + j0)) 5) rfl rfl .plain (fun _ _ hd => P_indexAddrM (α := FaultDamage) Try.underlying29 Try.sizeOf62 rfl o0 rfl q2) ?_
   refine L_ld (c := o4) rfl rfl .plain (fun _ _ h => ⟨h.ch, fun b hb _ => h.below.block b hb⟩) i4 rfl ?_
   refine L_pur (c := up0) rfl rfl .plain (fun _ _ hd => P_move i1) ?_
   refine L_pur (c := .int .i64 (x1)) rfl rfl .plain (fun _ _ hd => P_move m1) ?_
   refine L_pur (c := .int .i64 (j0)) rfl rfl .plain (fun _ _ hd => P_move u0) ?_
   refine L_pur (c := .int .i64 ((w64 (x1 + j0)))) rfl rfl .plain (fun _ _ hd => P_int rfl rfl rfl) ?_
   refine L_pur (c := ePtr up0 (w64 (x1 + j0)) 5) rfl rfl .plain (fun _ _ hd => P_indexAddrM (α := FaultDamage) Try.underlying29 Try.sizeOf62 rfl o0 rfl z2) ?_
   refine L_ld (c := p4) rfl rfl .plain (fun _ _ h => ⟨h.ch, fun b hb _ => h.below.block b hb⟩) j4 rfl ?_
   refine L_pur (c := ePtr up0 (w64 (x1 + j0)) 5) rfl rfl .plain (fun _ _ hd => P_indexAddrM (α := FaultDamage) Try.underlying29 Try.sizeOf62 rfl o0 rfl d3) ?_
   refine L_nil fun q4 j5 hall => ?_
   have hs := hall.1
   have hfr := hfr.ext hs
   have o0 := o0.ext hs
   have s2 := s2.ext hs
   have j1 := j1.ext hs
   clear hs hall
   refine TL_do .plain rfl (D_storeM (g := q4) (α := FaultDamage) (a' := d2) Try.sizeOf62 rfl o0 d3 rfl s2 fun s4 l5 hs b74 => ?_)
   have hfr := hfr.stp hs
   have j1 := j1.stp hs
   obtain ⟨n4, i3, h⟩ := bsome h
   refine TL_pur (v := ePtr up0 (w64 (x2 + j0)) 5) (P_indexAddrM (α := FaultDamage) Try.underlying29 Try.sizeOf62 rfl b74 rfl i3) .plain rfl ?_
   refine TL_do .plain rfl (D_storeM (g := s4) (α := FaultDamage) (a' := y44) Try.sizeOf62 rfl b74 i3 rfl j1 fun u4 m5 hs b76 => ?_)
   have hfr := hfr.stp hs
   refine TL_nil ?_
   refine blk_n ?_
   obtain rfl := sinj h
   exact hQ _ _ ⟨u4, hfr, i1, b76, m1, z1, e4, u0⟩
  ·clear hx
   obtain ⟨z4, hfr, o3, p3, q3, s3, u3, j3⟩ := hR
   refine E_region (EL_mv j3 rfl ?_)
   refine EL_in (.int .i64 ((w64 (j0 + (1 : Int))))) rfl rfl rfl rfl ?_
   refine EL_at (.int .i64 ((w64 (j0 + (1 : Int))))) rfl rfl ?_
   exact EL_nil (thn_n (hk1 (y0, (w64 (j0 + (1 : Int)))) _ _ ⟨z4, hfr, o3, p3, q3, s3, u3, rfl⟩ h))
/-- slices.ContainsFunc[[]griffe/api.FaultDamage,griffe/api.FaultDamage] -/
def f53 (x0 : List FaultDamage) (x1 : FaultDamage → Option Bool) : Option (Bool) :=
 (f75 x0 x1).bind fun y2 =>
 some ((decide (y2 ≥ (0 : Int))))
theorem en53 : Enters Try.prog 53 := enters_of Try.func53 (by kernel_rfl) rfl
theorem wk53 {gI : Gh} {wI : World} {x0 : List FaultDamage} {x1 : FaultDamage → Option Bool} {up0 : Value} (rp0 : RV gI.m wI x0 up0) {up1 : Value} (rp1 : FnV1 Try.prog x1 up1 gI wI) {r : Bool} (h : f53 x0 x1 = some r) : Fn Try.prog 53 #[up0, up1] gI wI (fun _ _ v => v = .bool (r)) := by
 unfold f53 at h
 refine fn_of_E Try.func53 rfl (Nat.le_of_ble_eq_true rfl) fun g0 hm hfr => ?_
 have rp0 : RV g0.m wI x0 up0 := hm ▸ rp0
 obtain ⟨ff1, fa1, fc1, rfl, fen1, fcl1⟩ := rp1
 show E _ 9 none _ _ _ _ _
 refine E_seq (E_region (EL_at (.bool false) rfl rfl ?_))
 refine EL_nil (thn_n (E_seq (E_region (EL_mw up0 rfl rfl ?_))))
 refine EL_mw ((.func (.func ff1) fa1 fc1)) rfl rfl ?_
 obtain ⟨y2, j0, h⟩ := bsome h
 refine EL_do .plain rfl (D_call (g := g0) (vs := [up0, (.func (.func ff1) fa1 fc1)]) en75 (.cons rfl (.cons rfl .nil)) (wk75 rp0 (FnV1.ch ⟨_, _, _, rfl, fen1, fcl1⟩ hfr.ch) j0) fun g1 w1_ v1 hs hr => ?_)
 have hfr := hfr.ext hs
 subst hr
 refine EL_in (.bool ((decide (y2 ≥ (0 : Int))))) rfl rfl rfl rfl ?_
 refine EL_at (.bool ((decide (y2 ≥ (0 : Int))))) rfl rfl ?_
 refine EL_nil (thn_n (E_ret ?_))
 obtain rfl := sinj h
 exact end1 rfl rfl (show _ = .bool ((decide (y2 ≥ (0 : Int)))) from rfl) ⟨_, hfr, rfl⟩
/-- griffe/fault.differ -/
def f56 (x0 : List Str) (x1 : List Str) : Option (It (Int × Int)) :=
 some ((fun σ cons s => f83 x0 x1 σ cons s))
theorem en56 : Enters Try.prog 56 := enters_of Try.func56 (by kernel_rfl) rfl
theorem wk56 {gI : Gh} {wI : World} {x0 : List Str} {x1 : List Str} {up0 : Value} (rp0 : RV gI.m wI x0 up0) {up1 : Value} (rp1 : RV gI.m wI x1 up1) {r : It (Int × Int)} (h : f56 x0 x1 = some r) : Fn Try.prog 56 #[up0, up1] gI wI (fun m w v => ItV Try.prog (RA2 (α := Int) (β := Int)) (r) v m w) := by
 unfold f56 at h
 refine fn_of_E Try.func56 rfl (Nat.le_of_ble_eq_true rfl) fun g0 hm hfr => ?_
 have rp0 : RV g0.m wI x0 up0 := hm ▸ rp0
 have rp1 : RV g0.m wI x1 up1 := hm ▸ rp1
 show E _ 6 none _ _ _ _ _
 refine E_seq (E_region (EL_do .plain rfl (D_box (g := g0) rfl rp0 fun g1 w1 p1 hs q1 => ?_)))
 have hfr := hfr.ext hs
 have rp1 := rp1.ext hs
 refine EL_do .plain rfl (D_box (g := g1) rfl rp1 fun g2 w2 p2 hs q2 => ?_)
 have hfr := hfr.ext hs
 have q1 := q1.ext hs
 refine EL_at (.nilFunc) rfl rfl ?_
 refine EL_nil (thn_n (E_seq (E_region (EL_pur (v := (.func (.func 83) #[] #[p1, p2])) (P_makeFunc (capf_0_2 (show ev _ _ = p1 from rfl) (show ev _ _ = p2 from rfl))) .plain rfl ?_))))
 refine EL_at ((.func (.func 83) #[] #[p1, p2])) rfl rfl ?_
 refine EL_nil (thn_n (E_ret ?_))
 obtain rfl := sinj h
 exact end1 rfl rfl (show _ = (.func (.func 83) #[] #[p1, p2]) from rfl) ⟨_, hfr, (show ItV Try.prog (RA2 (α := Int) (β := Int)) (fun σ cons s => f83 x0 x1 σ cons s) ((.func (.func 83) #[] #[p1, p2])) g2.m w2 from ⟨83, #[], #[p1, p2], rfl, en83, fun g' w' hch σ cons s s' h => wk83  (q1.ch hch) (q2.ch hch) h⟩)⟩
/-- griffe/grifferef01.Same -/
def f58 (x0 : Design) (x1 : Design) : Option (Bool) :=
 jn (σ := Unit) (fun (_ : Unit) =>
  jn (σ := Unit) (fun (_ : Unit) =>
   some (true)
   ) fun c5 =>
  lp (σ := Int) (fun d5 j0 =>
   jn (σ := Unit) (fun (_ : Unit) =>
    jn (σ := Unit) (fun (_ : Unit) =>
     d5 ((w64 (j0 + (1 : Int))))
     ) fun i3 =>
    (idx ((x0).Rows) j0).bind fun u0 =>
    (idx ((x1).Rows) j0).bind fun y0 =>
    bif (u0 != y0) then
     some (false)
    else
     i3 ()
    ) fun e5 =>
   bif (decide (j0 < (((x0).Rows).length : Int))) then
    e5 ()
   else
    c5 ()
   ) big ((0 : Int))
  ) fun k8 =>
 (f84 x0 x1).bind fun j3 =>
 bif (!j3) then
  some (false)
 else
  k8 ()
theorem en58 : Enters Try.prog 58 := enters_of Try.func58 (by kernel_rfl) rfl
theorem wk58 {gI : Gh} {wI : World} {x0 : Design} {x1 : Design} {up0 : Value} (rp0 : RV gI.m wI x0 up0) {up1 : Value} (rp1 : RV gI.m wI x1 up1) {r : Bool} (h : f58 x0 x1 = some r) : Fn Try.prog 58 #[up0, up1] gI wI (fun _ _ v => v = .bool (r)) := by
 unfold f58 at h
 refine fn_of_E Try.func58 rfl (Nat.le_of_ble_eq_true rfl) fun g0 hm hfr => ?_
 have rp0 : RV g0.m wI x0 up0 := hm ▸ rp0
 have rp1 : RV g0.m wI x1 up1 := hm ▸ rp1
 show E _ 28 none _ _ _ _ _
 refine E_seq (E_region (EL_do .plain rfl (D_box (g := g0) rfl rp0 fun g1 w1 p1 hs q1 => ?_)))
 have hfr := hfr.ext hs
 have rp1 := rp1.ext hs
 refine EL_do .plain rfl (D_box (g := g1) rfl rp1 fun g2 w2 p2 hs q2 => ?_)
 have hfr := hfr.ext hs
 have q1 := q1.ext hs
 refine EL_at (.bool false) rfl rfl ?_
 refine EL_nil (thn_n (E_joinC h (fun (s : Unit) e w => ∃ (g : Gh) , Fr gI wI g w ∧ e 2 = p1 ∧ PT g.m w (x0 : Design) p1 ∧ e 3 = p2 ∧ PT g.m w (x1 : Design) p2) (fun X8 k8 z5 h => ?_) ?_))
 ·refine E_seq (E_region (EL_do .plain rfl (D_load (g := g2) Try.isAgg26 Try.sizeOf26 rfl q1 fun v9 r9 => ?_)))
  refine EL_do .plain rfl (D_load (g := g2) Try.isAgg26 Try.sizeOf26 rfl q2 fun a6 b6 => ?_)
  obtain ⟨j3, i5, h⟩ := bsome h
  refine EL_do .plain rfl (D_call (g := g2) (vs := [v9, a6]) en84 (.cons rfl (.cons rfl .nil)) (wk84 r9 b6 i5) fun c6 m6 x6 hs hr => ?_)
  have hfr := hfr.ext hs
  have q1 := q1.ext hs
  have q2 := q2.ext hs
  subst hr
  refine EL_pur (v := .bool (!j3)) (P_not rfl) .plain rfl ?_
  refine EL_nil (thn_n ?_)
  rcases csome h with ⟨z1, h⟩ | ⟨z1, h⟩
  ·refine E_ct z1 rfl ?_
   refine E_seq (E_region (EL_at (.bool false) rfl rfl ?_))
   refine EL_nil (thn_n (E_ret (thn_r ?_)))
   obtain rfl := sinj h
   exact end1 rfl rfl (show _ = .bool false from rfl) ⟨_, hfr, rfl⟩
  ·refine E_cf z1 rfl ?_
   exact E_skip (thn_n (z5 () _ _ ⟨c6, hfr, rfl, q1, rfl, q2⟩ h))
 ·rintro _ n6 y6 ⟨d6, hfr, i4, j4, m4, n4⟩ h
  refine E_joinC h (fun (s : Unit) e w => ∃ (g : Gh) , Fr gI wI g w) (fun X79 c5 j5 h => ?_) ?_
  ·refine E_seq (E_region (EL_at (.int .i64 (0)) rfl rfl ?_))
   refine EL_nil (thn_n (E_block ?_))
   refine E_lp h (fun (s : Int) e w => ∃ (g : Gh) , Fr gI wI g w ∧ e 2 = p1 ∧ PT g.m w (x0 : Design) p1 ∧ e 3 = p2 ∧ PT g.m w (x1 : Design) p2 ∧ e 5 = .int .i64 (s)) ⟨d6, hfr, i4, j4, m4, n4, rfl⟩ (fun X80 d5 l5 => ?_)
   rintro j0 o6 z6 ⟨m3, hfr, i2, i1, o4, p4, j2⟩ h
   refine E_joinC h (fun (s : Unit) e w => ∃ (g : Gh) , Fr gI wI g w ∧ e 2 = p1 ∧ PT g.m w (x0 : Design) p1 ∧ e 3 = p2 ∧ PT g.m w (x1 : Design) p2 ∧ e 5 = .int .i64 (j0)) (fun X85 e5 m5 h => ?_) ?_
   ·refine E_seq (E_region (EL_mv j2 rfl ?_))
    refine EL_pur (v := fPtr p1 1) (P_fieldAddr at_26_1 i2 (PT.ptr i1)) .plain rfl ?_
    have e6 := PT_field (part_Design_1).1 i1
    refine EL_do .plain rfl (D_load (g := m3) Try.isAgg22 Try.sizeOf22 rfl e6 fun a7 i6 => ?_)
    refine EL_pur (v := .int .i64 (((x0).Rows).length : Int)) (P_len Try.underlying22 rfl i6) .plain rfl ?_
    refine EL_pur (v := .bool ((decide (j0 < (((x0).Rows).length : Int))))) (P_int rfl rfl rfl) .plain rfl ?_
    refine EL_nil (thn_n ?_)
    rcases csome h with ⟨d2, h⟩ | ⟨d2, h⟩
    ·refine E_ct d2 rfl ?_
     exact E_skip (thn_n (m5 () _ _ ⟨m3, hfr, i2, i1, o4, p4, j2⟩ h))
    ·refine E_cf d2 rfl ?_
     refine E_exit ?_
     refine thn_e ?_
     refine thn_e ?_
     refine blk_hit ?_
     exact thn_n (j5 () _ _ ⟨m3, hfr⟩ h)
   ·rintro _ p6 b7 ⟨j6, hfr, m2, n0, s2, o0, j1⟩ h
    refine E_joinC h (fun (s : Unit) e w => ∃ (g : Gh) , Fr gI wI g w ∧ e 2 = p1 ∧ PT g.m w (x0 : Design) p1 ∧ e 3 = p2 ∧ PT g.m w (x1 : Design) p2 ∧ e 5 = .int .i64 (j0)) (fun X116 i3 q4 h => ?_) ?_
    ·refine E_block ?_
     refine E_seq ?_
     have n5 := PT_field (part_Design_1).1 n0
     refine L_load (x := .tmp 17) Try.isAgg22 Try.sizeOf22 n5 fun o3 p3 s4 => ?_
     obtain ⟨u0, z2, h⟩ := bsome h
     have o5 := PT_idx p3 z2
     refine L_load (x := .tmp 20) Try.isAgg3 Try.sizeOf3 o5 fun q6 p5 u4 => ?_
     obtain rfl := RV_int.1 p5
     have q5 := PT_field (part_Design_1).1 o0
     refine L_load (x := .tmp 22) Try.isAgg22 Try.sizeOf22 q5 fun q3 s3 x4 => ?_
     obtain ⟨y0, d3, h⟩ := bsome h
     have t5 := PT_idx s3 d3
     refine L_load (x := .tmp 25) Try.isAgg3 Try.sizeOf3 t5 fun r6 u5 z4 => ?_
     obtain rfl := RV_int.1 u5
     refine E_drawL (g := j6) (n := 11) [] [0, 1, 2, 3, 4, 5, 6, 7, 8, 9, 10] rfl mixed (by kernel_rfl) trivial ?_
     refine L_pur (c := fPtr p1 1) rfl rfl .plain (fun _ _ hd => P_fieldAddr at_26_1 m2 (PT.ptr n0)) ?_
     refine L_ld (c := o3) rfl rfl .plain (fun _ _ h => h.ch) s4 rfl ?_
     refine L_pur (c := .int .i64 (j0)) rfl rfl .plain (fun _ _ hd => P_move j1) ?_
     refine L_pur (c := ePtr o3 j0 1) rfl rfl .plain (fun _ _ hd => P_indexAddr (α := Int) Try.underlying22 Try.sizeOf3 rfl p3 rfl z2) ?_
     refine L_ld (c := .int .i64 (u0)) rfl rfl .plain (fun _ _ h => h.ch) u4 rfl ?_
     refine L_pur (c := fPtr p2 1) rfl rfl .plain (fun _ _ hd => P_fieldAddr at_26_1 s2 (PT.ptr o0)) ?_
     refine L_ld (c := q3) rfl rfl .plain (fun _ _ h => h.ch) x4 rfl ?_
     refine L_pur (c := .int .i64 (j0)) rfl rfl .plain (fun _ _ hd => P_move j1) ?_
     refine L_pur (c := ePtr q3 j0 1) rfl rfl .plain (fun _ _ hd => P_indexAddr (α := Int) Try.underlying22 Try.sizeOf3 rfl s3 rfl d3) ?_
     refine L_ld (c := .int .i64 (y0)) rfl rfl .plain (fun _ _ h => h.ch) z4 rfl ?_
     refine L_pur (c := .bool ((u0 != y0))) rfl rfl .plain (fun _ _ hd => P_int rfl rfl rfl) ?_
     refine L_nil fun x5 s6 hall => ?_
     have hs := hall.1
     have hfr := hfr.ext hs
     have n0 := n0.ext hs
     have o0 := o0.ext hs
     clear hs hall
     refine EL_nil (thn_n ?_)
     rcases csome h with ⟨m1, h⟩ | ⟨m1, h⟩
     ·refine E_ct m1 rfl ?_
      refine E_seq (E_region (EL_at (.bool false) rfl rfl ?_))
      refine EL_nil (thn_n (E_ret (blk_r ?_)))
      refine thn_r ?_
      refine thn_r ?_
      refine blk_r ?_
      refine thn_r ?_
      obtain rfl := sinj h
      exact end1 rfl rfl (show _ = .bool false from rfl) ⟨_, hfr, rfl⟩
     ·refine E_cf m1 rfl ?_
      exact E_skip (blk_n (thn_n (q4 () _ _ ⟨x5, hfr, m2, n0, s2, o0, j1⟩ h)))
    ·rintro _ k6 t6 ⟨y5, hfr, u3, z3, c4, d4, e4⟩ h
     refine E_region (EL_mv e4 rfl ?_)
     refine EL_in (.int .i64 ((w64 (j0 + (1 : Int))))) rfl rfl rfl rfl ?_
     refine EL_at (.int .i64 ((w64 (j0 + (1 : Int))))) rfl rfl ?_
     exact EL_nil (thn_n (l5 ((w64 (j0 + (1 : Int)))) _ _ ⟨y5, hfr, u3, z3, c4, d4, rfl⟩ h))
  ·rintro _ l6 u6 ⟨v6, hfr⟩ h
   refine E_seq (E_region (EL_at (.bool true) rfl rfl ?_))
   refine EL_nil (thn_n (E_ret ?_))
   obtain rfl := sinj h
   exact end1 rfl rfl (show _ = .bool true from rfl) ⟨_, hfr, rfl⟩
/-- slices.ContainsFunc[[]griffe/api.FaultSight,griffe/api.FaultSight] -/
def f63 (x0 : List FaultSight) (x1 : FaultSight → Option Bool) : Option (Bool) :=
 (f89 x0 x1).bind fun y2 =>
 some ((decide (y2 ≥ (0 : Int))))
theorem en63 : Enters Try.prog 63 := enters_of Try.func63 (by kernel_rfl) rfl
theorem wk63 {gI : Gh} {wI : World} {x0 : List FaultSight} {x1 : FaultSight → Option Bool} {up0 : Value} (rp0 : RV gI.m wI x0 up0) {up1 : Value} (rp1 : FnV1 Try.prog x1 up1 gI wI) {r : Bool} (h : f63 x0 x1 = some r) : Fn Try.prog 63 #[up0, up1] gI wI (fun _ _ v => v = .bool (r)) := by
 unfold f63 at h
 refine fn_of_E Try.func63 rfl (Nat.le_of_ble_eq_true rfl) fun g0 hm hfr => ?_
 have rp0 : RV g0.m wI x0 up0 := hm ▸ rp0
 obtain ⟨ff1, fa1, fc1, rfl, fen1, fcl1⟩ := rp1
 show E _ 9 none _ _ _ _ _
 refine E_seq (E_region (EL_at (.bool false) rfl rfl ?_))
 refine EL_nil (thn_n (E_seq (E_region (EL_mw up0 rfl rfl ?_))))
 refine EL_mw ((.func (.func ff1) fa1 fc1)) rfl rfl ?_
 obtain ⟨y2, j0, h⟩ := bsome h
 refine EL_do .plain rfl (D_call (g := g0) (vs := [up0, (.func (.func ff1) fa1 fc1)]) en89 (.cons rfl (.cons rfl .nil)) (wk89 rp0 (FnV1.ch ⟨_, _, _, rfl, fen1, fcl1⟩ hfr.ch) j0) fun g1 w1_ v1 hs hr => ?_)
 have hfr := hfr.ext hs
 subst hr
 refine EL_in (.bool ((decide (y2 ≥ (0 : Int))))) rfl rfl rfl rfl ?_
 refine EL_at (.bool ((decide (y2 ≥ (0 : Int))))) rfl rfl ?_
 refine EL_nil (thn_n (E_ret ?_))
 obtain rfl := sinj h
 exact end1 rfl rfl (show _ = .bool ((decide (y2 ≥ (0 : Int)))) from rfl) ⟨_, hfr, rfl⟩
/-- griffe/fault.fits -/
def f65 (x0 : List Str) (x1 : List FaultSight) : Option (Bool) :=
 (f63 x1 ((fun a0 => f91 a0 x0))).bind fun y3 =>
 some ((!y3))
theorem en65 : Enters Try.prog 65 := enters_of Try.func65 (by kernel_rfl) rfl
theorem wk65 {gI : Gh} {wI : World} {x0 : List Str} {x1 : List FaultSight} {up0 : Value} (rp0 : RV gI.m wI x0 up0) {up1 : Value} (rp1 : RV gI.m wI x1 up1) {r : Bool} (h : f65 x0 x1 = some r) : Fn Try.prog 65 #[up0, up1] gI wI (fun _ _ v => v = .bool (r)) := by
 unfold f65 at h
 refine fn_of_E Try.func65 rfl (Nat.le_of_ble_eq_true rfl) fun g0 hm hfr => ?_
 have rp0 : RV g0.m wI x0 up0 := hm ▸ rp0
 have rp1 : RV g0.m wI x1 up1 := hm ▸ rp1
 show E _ 9 none _ _ _ _ _
 refine E_seq (E_region (EL_do .plain rfl (D_box (g := g0) rfl rp0 fun g1 w1 p1 hs q1 => ?_)))
 have hfr := hfr.ext hs
 have rp1 := rp1.ext hs
 refine EL_at (.bool false) rfl rfl ?_
 refine EL_nil (thn_n (E_seq (E_region (EL_mw up1 rfl rfl ?_))))
 refine EL_pur (v := (.func (.func 91) #[] #[p1])) (P_makeFunc (capf_0_1 (show ev _ _ = p1 from rfl))) .plain rfl ?_
 obtain ⟨y3, j0, h⟩ := bsome h
 refine EL_do .plain rfl (D_call (g := g1) (vs := [up1, (.func (.func 91) #[] #[p1])]) en63 (.cons rfl (.cons rfl .nil)) (wk63 rp1 ⟨91, #[], #[p1], rfl, en91, fun g' w' hch a0 b0 r hu0 hr => by exact Fn.mono (wk91 hu0 (q1.ch hch) hr) fun _ _ _ h => RV_bool.2 h⟩ j0) fun g2 w2_ v2 hs hr => ?_)
 have hfr := hfr.ext hs
 subst hr
 refine EL_pur (v := .bool (!y3)) (P_not rfl) .plain rfl ?_
 refine EL_at (.bool (!y3)) rfl rfl ?_
 refine EL_nil (thn_n (E_ret ?_))
 obtain rfl := sinj h
 exact end1 rfl rfl (show _ = .bool (!y3) from rfl) ⟨_, hfr, rfl⟩
/-- griffe/grifferef03.Check -/
def f66 (x0 : TieHarness) : Option (Int) :=
 jn (σ := Unit) (fun (_ : Unit) =>
  jn (σ := Unit) (fun (_ : Unit) =>
   jn (σ := Unit) (fun (_ : Unit) =>
    jn (σ := Unit) (fun (_ : Unit) =>
     some ((0 : Int))
     ) fun n4 =>
    lp (σ := Int) (fun o4 j0 =>
     jn (σ := Unit) (fun (_ : Unit) =>
      jn (σ := Unit) (fun (_ : Unit) =>
       o4 ((w64 (j0 + (1 : Int))))
       ) fun j3 =>
      (idx ((x0).Warps) j0).bind fun u0 =>
      (f92 u0 ((0 : Int)) ((w64 ((x0).Hooks - (1 : Int))))).bind fun o0 =>
      bif (!o0) then
       some ((2 : Int))
      else
       j3 ()
      ) fun p4 =>
     bif (decide (j0 < (((x0).Warps).length : Int))) then
      p4 ()
     else
      n4 ()
     ) big ((0 : Int))
    ) fun q4 =>
   bif ((((x0).Warps).length : Int) == (0 : Int)) then
    some ((7 : Int))
   else
    q4 ()
   ) fun s4 =>
  bif (decide ((((x0).Warps).length : Int) > (96 : Int))) then
   some ((5 : Int))
  else
   s4 ()
  ) fun k7 =>
 (f92 ((x0).Hooks) ((1 : Int)) ((24 : Int))).bind fun y11 =>
 bif (!y11) then
  some ((2 : Int))
 else
  k7 ()
theorem en66 : Enters Try.prog 66 := enters_of Try.func66 (by kernel_rfl) rfl
theorem wk66 {gI : Gh} {wI : World} {x0 : TieHarness} {up0 : Value} (rp0 : RV gI.m wI x0 up0) {r : Int} (h : f66 x0 = some r) : Fn Try.prog 66 #[up0] gI wI (fun _ _ v => v = .int .i64 (r)) := by
 unfold f66 at h
 refine fn_of_E Try.func66 rfl (Nat.le_of_ble_eq_true rfl) fun g0 hm hfr => ?_
 have rp0 : RV g0.m wI x0 up0 := hm ▸ rp0
 show E _ 33 none _ _ _ _ _
 refine E_seq (E_region (EL_do .plain rfl (D_box (g := g0) rfl rp0 fun g1 w1 p1 hs q1 => ?_)))
 have hfr := hfr.ext hs
 refine EL_at (.int .i64 (0)) rfl rfl ?_
 refine EL_nil (thn_n (E_joinC h (fun (s : Unit) e w => ∃ (g : Gh) , Fr gI wI g w ∧ e 1 = p1 ∧ PT g.m w (x0 : TieHarness) p1) (fun X7 k7 u5 h => ?_) ?_))
 ·refine E_seq (E_region (EL_pur (v := fPtr p1 0) (P_fieldAddr at_24_0 rfl (PT.ptr q1)) .plain rfl ?_))
  have q8 := PT_field (part_TieHarness_0).1 q1
  refine EL_do .plain rfl (D_load (g := g1) Try.isAgg3 Try.sizeOf3 rfl q8 fun v9 r9 => ?_)
  obtain rfl := RV_int.1 r9
  obtain ⟨y11, z4, h⟩ := bsome h
  refine EL_do .plain rfl (D_call (g := g1) (vs := [.int .i64 ((x0).Hooks), .int .i64 (1), .int .i64 (24)]) en92 (.cons rfl (.cons rfl (.cons rfl .nil))) (wk92  z4) fun x5 l6 z6 hs hr => ?_)
  have hfr := hfr.ext hs
  have q1 := q1.ext hs
  subst hr
  refine EL_pur (v := .bool (!y11)) (P_not rfl) .plain rfl ?_
  refine EL_nil (thn_n ?_)
  rcases csome h with ⟨d2, h⟩ | ⟨d2, h⟩
  ·refine E_ct d2 rfl ?_
   refine E_seq (E_region (EL_at (.int .i64 (2)) rfl rfl ?_))
   refine EL_nil (thn_n (E_ret (thn_r ?_)))
   obtain rfl := sinj h
   exact end1 rfl rfl (show _ = .int .i64 (2) from rfl) ⟨_, hfr, rfl⟩
  ·refine E_cf d2 rfl ?_
   exact E_skip (thn_n (u5 () _ _ ⟨x5, hfr, rfl, q1⟩ h))
 ·rintro _ m6 a7 ⟨u4, hfr, p2, y0⟩ h
  refine E_joinC h (fun (s : Unit) e w => ∃ (g : Gh) , Fr gI wI g w ∧ e 1 = p1 ∧ PT g.m w (x0 : TieHarness) p1) (fun X17 s4 c5 h => ?_) ?_
  ·refine E_seq (E_region (EL_pur (v := fPtr p1 1) (P_fieldAddr at_24_1 p2 (PT.ptr y0)) .plain rfl ?_))
   have y5 := PT_field (part_TieHarness_1).1 y0
   refine EL_do .plain rfl (D_load (g := u4) Try.isAgg22 Try.sizeOf22 rfl y5 fun b7 z5 => ?_)
   refine EL_pur (v := .int .i64 (((x0).Warps).length : Int)) (P_len Try.underlying22 rfl z5) .plain rfl ?_
   refine EL_pur (v := .bool ((decide ((((x0).Warps).length : Int) > (96 : Int))))) (P_int rfl rfl rfl) .plain rfl ?_
   refine EL_nil (thn_n ?_)
   rcases csome h with ⟨i2, h⟩ | ⟨i2, h⟩
   ·refine E_ct i2 rfl ?_
    refine E_seq (E_region (EL_at (.int .i64 (5)) rfl rfl ?_))
    refine EL_nil (thn_n (E_ret (thn_r ?_)))
    obtain rfl := sinj h
    exact end1 rfl rfl (show _ = .int .i64 (5) from rfl) ⟨_, hfr, rfl⟩
   ·refine E_cf i2 rfl ?_
    exact E_skip (thn_n (c5 () _ _ ⟨u4, hfr, p2, y0⟩ h))
  ·rintro _ n6 c7 ⟨x4, hfr, q2, i1⟩ h
   refine E_joinC h (fun (s : Unit) e w => ∃ (g : Gh) , Fr gI wI g w ∧ e 1 = p1 ∧ PT g.m w (x0 : TieHarness) p1) (fun X25 q4 d5 h => ?_) ?_
   ·refine E_seq (E_region (EL_pur (v := fPtr p1 1) (P_fieldAddr at_24_1 q2 (PT.ptr i1)) .plain rfl ?_))
    have a6 := PT_field (part_TieHarness_1).1 i1
    refine EL_do .plain rfl (D_load (g := x4) Try.isAgg22 Try.sizeOf22 rfl a6 fun d7 b6 => ?_)
    refine EL_pur (v := .int .i64 (((x0).Warps).length : Int)) (P_len Try.underlying22 rfl b6) .plain rfl ?_
    refine EL_in (.bool (((((x0).Warps).length : Int) == (0 : Int)))) rfl rfl rfl rfl ?_
    refine EL_nil (thn_n ?_)
    rcases csome h with ⟨j2, h⟩ | ⟨j2, h⟩
    ·refine E_ct j2 rfl ?_
     refine E_seq (E_region (EL_at (.int .i64 (7)) rfl rfl ?_))
     refine EL_nil (thn_n (E_ret (thn_r ?_)))
     obtain rfl := sinj h
     exact end1 rfl rfl (show _ = .int .i64 (7) from rfl) ⟨_, hfr, rfl⟩
    ·refine E_cf j2 rfl ?_
     exact E_skip (thn_n (d5 () _ _ ⟨x4, hfr, q2, i1⟩ h))
   ·rintro _ o6 e7 ⟨c6, hfr, z3, c4⟩ h
    refine E_joinC h (fun (s : Unit) e w => ∃ (g : Gh) , Fr gI wI g w) (fun X88 n4 e5 h => ?_) ?_
    ·refine E_seq (E_region (EL_at (.int .i64 (0)) rfl rfl ?_))
     refine EL_nil (thn_n (E_block ?_))
     refine E_lp h (fun (s : Int) e w => ∃ (g : Gh) , Fr gI wI g w ∧ e 1 = p1 ∧ PT g.m w (x0 : TieHarness) p1 ∧ e 3 = .int .i64 (s)) ⟨c6, hfr, z3, c4, rfl⟩ (fun X89 o4 i5 => ?_)
     rintro j0 p6 g7 ⟨m3, hfr, s2, j1, z2⟩ h
     refine E_joinC h (fun (s : Unit) e w => ∃ (g : Gh) , Fr gI wI g w ∧ e 1 = p1 ∧ PT g.m w (x0 : TieHarness) p1 ∧ e 3 = .int .i64 (j0)) (fun X94 p4 j5 h => ?_) ?_
     ·refine E_seq (E_region (EL_mv z2 rfl ?_))
      refine EL_pur (v := fPtr p1 1) (P_fieldAddr at_24_1 s2 (PT.ptr j1)) .plain rfl ?_
      have d6 := PT_field (part_TieHarness_1).1 j1
      refine EL_do .plain rfl (D_load (g := m3) Try.isAgg22 Try.sizeOf22 rfl d6 fun i7 e6 => ?_)
      refine EL_pur (v := .int .i64 (((x0).Warps).length : Int)) (P_len Try.underlying22 rfl e6) .plain rfl ?_
      refine EL_pur (v := .bool ((decide (j0 < (((x0).Warps).length : Int))))) (P_int rfl rfl rfl) .plain rfl ?_
      refine EL_nil (thn_n ?_)
      rcases csome h with ⟨m2, h⟩ | ⟨m2, h⟩
      ·refine E_ct m2 rfl ?_
       exact E_skip (thn_n (j5 () _ _ ⟨m3, hfr, s2, j1, z2⟩ h))
      ·refine E_cf m2 rfl ?_
       refine E_exit ?_
       refine thn_e ?_
       refine thn_e ?_
       refine blk_hit ?_
       exact thn_n (e5 () _ _ ⟨m3, hfr⟩ h)
     ·rintro _ q6 j7 ⟨i6, hfr, m1, n0, d3⟩ h
      refine E_joinC h (fun (s : Unit) e w => ∃ (g : Gh) , Fr gI wI g w ∧ e 1 = p1 ∧ PT g.m w (x0 : TieHarness) p1 ∧ e 3 = .int .i64 (j0)) (fun X122 j3 d4 h => ?_) ?_
      ·refine E_block ?_
       refine E_seq ?_
       have l5 := PT_field (part_TieHarness_1).1 n0
       refine L_load (x := .tmp 23) Try.isAgg22 Try.sizeOf22 l5 fun o3 p3 e4 => ?_
       obtain ⟨u0, i3, h⟩ := bsome h
       have m5 := PT_idx p3 i3
       refine L_load (x := .tmp 26) Try.isAgg3 Try.sizeOf3 m5 fun r6 n5 i4 => ?_
       obtain rfl := RV_int.1 n5
       have o5 := PT_field (part_TieHarness_0).1 n0
       refine L_load (x := .tmp 28) Try.isAgg3 Try.sizeOf3 o5 fun s6 p5 j4 => ?_
       obtain rfl := RV_int.1 p5
       obtain ⟨o0, m4, h⟩ := bsome h
       refine E_drawL (g := i6) (n := 10) [(8, (fun v g w => v = .bool (o0)))] [0, 1, 2, 3, 4, 5, 6, 7, 8, 9] rfl mixed (by kernel_rfl) (⟨fun _ => up_eq _, trivial⟩) ?_
       refine L_pur (c := fPtr p1 1) rfl rfl .plain (fun _ _ hd => P_fieldAddr at_24_1 m1 (PT.ptr n0)) ?_
       refine L_ld (c := o3) rfl rfl .plain (fun _ _ h => h.ch) e4 rfl ?_
       refine L_pur (c := .int .i64 (j0)) rfl rfl .plain (fun _ _ hd => P_move d3) ?_
       refine L_pur (c := ePtr o3 j0 1) rfl rfl .plain (fun _ _ hd => P_indexAddr (α := Int) Try.underlying22 Try.sizeOf3 rfl p3 rfl i3) ?_
       refine L_ld (c := .int .i64 (u0)) rfl rfl .plain (fun _ _ h => h.ch) i4 rfl ?_
       refine L_pur (c := fPtr p1 0) rfl rfl .plain (fun _ _ hd => P_fieldAddr at_24_0 m1 (PT.ptr n0)) ?_
       refine L_ld (c := .int .i64 ((x0).Hooks)) rfl rfl .plain (fun _ _ h => h.ch) j4 rfl ?_
       refine L_pur (c := .int .i64 ((w64 ((x0).Hooks - (1 : Int))))) rfl rfl .plain (fun _ _ hd => P_int rfl rfl rfl) ?_
       refine L_do (φ := fun v g w => v = .bool (o0)) rfl rfl .plain (fun g w hd => D_call (g := g) (vs := [.int .i64 (u0), .int .i64 (0), .int .i64 ((w64 ((x0).Hooks - (1 : Int))))]) en92 (.cons rfl (.cons rfl (.cons rfl .nil))) (wk92  m4) fun g' w' v hs hr => ⟨g', hs, hr⟩) (fun t6 hv => ?_)
       obtain ⟨_, _, _, rfl⟩ := hv
       refine L_pur (c := .bool (!o0)) rfl rfl .plain (fun _ _ hd => P_not rfl) ?_
       refine L_nil fun q5 u6 hall => ?_
       have hs := hall.1
       have hfr := hfr.ext hs
       have n0 := n0.ext hs
       clear hs hall
       refine EL_nil (thn_n ?_)
       rcases csome h with ⟨z1, h⟩ | ⟨z1, h⟩
       ·refine E_ct z1 rfl ?_
        refine E_seq (E_region (EL_at (.int .i64 (2)) rfl rfl ?_))
        refine EL_nil (thn_n (E_ret (blk_r ?_)))
        refine thn_r ?_
        refine thn_r ?_
        refine blk_r ?_
        refine thn_r ?_
        obtain rfl := sinj h
        exact end1 rfl rfl (show _ = .int .i64 (2) from rfl) ⟨_, hfr, rfl⟩
       ·refine E_cf z1 rfl ?_
        exact E_skip (blk_n (thn_n (d4 () _ _ ⟨q5, hfr, m1, n0, d3⟩ h)))
      ·rintro _ j6 v6 ⟨t5, hfr, q3, s3, u3⟩ h
       refine E_region (EL_mv u3 rfl ?_)
       refine EL_in (.int .i64 ((w64 (j0 + (1 : Int))))) rfl rfl rfl rfl ?_
       refine EL_at (.int .i64 ((w64 (j0 + (1 : Int))))) rfl rfl ?_
       exact EL_nil (thn_n (i5 ((w64 (j0 + (1 : Int)))) _ _ ⟨t5, hfr, q3, s3, rfl⟩ h))
    ·rintro _ k6 x6 ⟨y6, hfr⟩ h
     refine E_seq (E_region (EL_at (.int .i64 (0)) rfl rfl ?_))
     refine EL_nil (thn_n (E_ret ?_))
     obtain rfl := sinj h
     exact end1 rfl rfl (show _ = .int .i64 (0) from rfl) ⟨_, hfr, rfl⟩
/-- griffe/grifferef01.Check -/
def f67 (x0 : Design) : Option (Int) :=
 jn (σ := Unit) (fun (_ : Unit) =>
  jn (σ := Unit) (fun (_ : Unit) =>
   jn (σ := Unit) (fun (_ : Unit) =>
    jn (σ := Unit) (fun (_ : Unit) =>
     some ((0 : Int))
     ) fun s4 =>
    lp (σ := Int) (fun u4 j0 =>
     jn (σ := Unit) (fun (_ : Unit) =>
      jn (σ := Unit) (fun (_ : Unit) =>
       u4 ((w64 (j0 + (1 : Int))))
       ) fun m3 =>
      (idx ((x0).Rows) j0).bind fun i1 =>
      (shl64 (1 : Int) (wu64 (x0).Hooks)).bind fun o0 =>
      (f93 i1 ((0 : Int)) ((w64 (o0 - (1 : Int))))).bind fun u0 =>
      bif (!u0) then
       some ((2 : Int))
      else
       m3 ()
      ) fun o3 =>
     bif (decide (j0 < (((x0).Rows).length : Int))) then
      o3 ()
     else
      s4 ()
     ) big ((0 : Int))
    ) fun x4 =>
   bif ((((x0).Rows).length : Int) == (0 : Int)) then
    some ((7 : Int))
   else
    x4 ()
   ) fun z4 =>
  bif (decide ((((x0).Rows).length : Int) > (60 : Int))) then
   some ((5 : Int))
  else
   z4 ()
  ) fun k7 =>
 (f93 ((x0).Hooks) ((1 : Int)) ((24 : Int))).bind fun y11 =>
 bif (!y11) then
  some ((2 : Int))
 else
  k7 ()
theorem en67 : Enters Try.prog 67 := enters_of Try.func67 (by kernel_rfl) rfl
theorem wk67 {gI : Gh} {wI : World} {x0 : Design} {up0 : Value} (rp0 : RV gI.m wI x0 up0) {r : Int} (h : f67 x0 = some r) : Fn Try.prog 67 #[up0] gI wI (fun _ _ v => v = .int .i64 (r)) := by
 unfold f67 at h
 refine fn_of_E Try.func67 rfl (Nat.le_of_ble_eq_true rfl) fun g0 hm hfr => ?_
 have rp0 : RV g0.m wI x0 up0 := hm ▸ rp0
 show E _ 35 none _ _ _ _ _
 refine E_seq (E_region (EL_do .plain rfl (D_box (g := g0) rfl rp0 fun g1 w1 p1 hs q1 => ?_)))
 have hfr := hfr.ext hs
 refine EL_at (.int .i64 (0)) rfl rfl ?_
 refine EL_nil (thn_n (E_joinC h (fun (s : Unit) e w => ∃ (g : Gh) , Fr gI wI g w ∧ e 1 = p1 ∧ PT g.m w (x0 : Design) p1) (fun X7 k7 b6 h => ?_) ?_))
 ·refine E_seq (E_region (EL_pur (v := fPtr p1 0) (P_fieldAddr at_26_0 rfl (PT.ptr q1)) .plain rfl ?_))
  have q8 := PT_field (part_Design_0).1 q1
  refine EL_do .plain rfl (D_load (g := g1) Try.isAgg3 Try.sizeOf3 rfl q8 fun v9 r9 => ?_)
  obtain rfl := RV_int.1 r9
  obtain ⟨y11, e5, h⟩ := bsome h
  refine EL_do .plain rfl (D_call (g := g1) (vs := [.int .i64 ((x0).Hooks), .int .i64 (1), .int .i64 (24)]) en93 (.cons rfl (.cons rfl (.cons rfl .nil))) (wk93  e5) fun c6 o6 d7 hs hr => ?_)
  have hfr := hfr.ext hs
  have q1 := q1.ext hs
  subst hr
  refine EL_pur (v := .bool (!y11)) (P_not rfl) .plain rfl ?_
  refine EL_nil (thn_n ?_)
  rcases csome h with ⟨m2, h⟩ | ⟨m2, h⟩
  ·refine E_ct m2 rfl ?_
   refine E_seq (E_region (EL_at (.int .i64 (2)) rfl rfl ?_))
   refine EL_nil (thn_n (E_ret (thn_r ?_)))
   obtain rfl := sinj h
   exact end1 rfl rfl (show _ = .int .i64 (2) from rfl) ⟨_, hfr, rfl⟩
  ·refine E_cf m2 rfl ?_
   exact E_skip (thn_n (b6 () _ _ ⟨c6, hfr, rfl, q1⟩ h))
 ·rintro _ p6 e7 ⟨c5, hfr, s2, j1⟩ h
  refine E_joinC h (fun (s : Unit) e w => ∃ (g : Gh) , Fr gI wI g w ∧ e 1 = p1 ∧ PT g.m w (x0 : Design) p1) (fun X17 z4 i5 h => ?_) ?_
  ·refine E_seq (E_region (EL_pur (v := fPtr p1 1) (P_fieldAddr at_26_1 s2 (PT.ptr j1)) .plain rfl ?_))
   have d6 := PT_field (part_Design_1).1 j1
   refine EL_do .plain rfl (D_load (g := c5) Try.isAgg22 Try.sizeOf22 rfl d6 fun g7 e6 => ?_)
   refine EL_pur (v := .int .i64 (((x0).Rows).length : Int)) (P_len Try.underlying22 rfl e6) .plain rfl ?_
   refine EL_pur (v := .bool ((decide ((((x0).Rows).length : Int) > (60 : Int))))) (P_int rfl rfl rfl) .plain rfl ?_
   refine EL_nil (thn_n ?_)
   rcases csome h with ⟨p2, h⟩ | ⟨p2, h⟩
   ·refine E_ct p2 rfl ?_
    refine E_seq (E_region (EL_at (.int .i64 (5)) rfl rfl ?_))
    refine EL_nil (thn_n (E_ret (thn_r ?_)))
    obtain rfl := sinj h
    exact end1 rfl rfl (show _ = .int .i64 (5) from rfl) ⟨_, hfr, rfl⟩
   ·refine E_cf p2 rfl ?_
    exact E_skip (thn_n (i5 () _ _ ⟨c5, hfr, s2, j1⟩ h))
  ·rintro _ q6 i7 ⟨d5, hfr, z2, m1⟩ h
   refine E_joinC h (fun (s : Unit) e w => ∃ (g : Gh) , Fr gI wI g w ∧ e 1 = p1 ∧ PT g.m w (x0 : Design) p1) (fun X25 x4 j5 h => ?_) ?_
   ·refine E_seq (E_region (EL_pur (v := fPtr p1 1) (P_fieldAddr at_26_1 z2 (PT.ptr m1)) .plain rfl ?_))
    have i6 := PT_field (part_Design_1).1 m1
    refine EL_do .plain rfl (D_load (g := d5) Try.isAgg22 Try.sizeOf22 rfl i6 fun j7 j6 => ?_)
    refine EL_pur (v := .int .i64 (((x0).Rows).length : Int)) (P_len Try.underlying22 rfl j6) .plain rfl ?_
    refine EL_in (.bool (((((x0).Rows).length : Int) == (0 : Int)))) rfl rfl rfl rfl ?_
    refine EL_nil (thn_n ?_)
    rcases csome h with ⟨q2, h⟩ | ⟨q2, h⟩
    ·refine E_ct q2 rfl ?_
     refine E_seq (E_region (EL_at (.int .i64 (7)) rfl rfl ?_))
     refine EL_nil (thn_n (E_ret (thn_r ?_)))
     obtain rfl := sinj h
     exact end1 rfl rfl (show _ = .int .i64 (7) from rfl) ⟨_, hfr, rfl⟩
    ·refine E_cf q2 rfl ?_
     exact E_skip (thn_n (j5 () _ _ ⟨d5, hfr, z2, m1⟩ h))
   ·rintro _ r6 l7 ⟨k6, hfr, d4, e4⟩ h
    refine E_joinC h (fun (s : Unit) e w => ∃ (g : Gh) , Fr gI wI g w) (fun X94 s4 l5 h => ?_) ?_
    ·refine E_seq (E_region (EL_at (.int .i64 (0)) rfl rfl ?_))
     refine EL_nil (thn_n (E_block ?_))
     refine E_lp h (fun (s : Int) e w => ∃ (g : Gh) , Fr gI wI g w ∧ e 1 = p1 ∧ PT g.m w (x0 : Design) p1 ∧ e 3 = .int .i64 (s)) ⟨k6, hfr, d4, e4, rfl⟩ (fun X95 u4 m5 => ?_)
     rintro j0 s6 m7 ⟨p3, hfr, d3, z1, i3⟩ h
     refine E_joinC h (fun (s : Unit) e w => ∃ (g : Gh) , Fr gI wI g w ∧ e 1 = p1 ∧ PT g.m w (x0 : Design) p1 ∧ e 3 = .int .i64 (j0)) (fun X100 o3 i4 h => ?_) ?_
     ·refine E_seq (E_region (EL_mv i3 rfl ?_))
      refine EL_pur (v := fPtr p1 1) (P_fieldAddr at_26_1 d3 (PT.ptr z1)) .plain rfl ?_
      have n5 := PT_field (part_Design_1).1 z1
      refine EL_do .plain rfl (D_load (g := p3) Try.isAgg22 Try.sizeOf22 rfl n5 fun t6 o5 => ?_)
      refine EL_pur (v := .int .i64 (((x0).Rows).length : Int)) (P_len Try.underlying22 rfl o5) .plain rfl ?_
      refine EL_pur (v := .bool ((decide (j0 < (((x0).Rows).length : Int))))) (P_int rfl rfl rfl) .plain rfl ?_
      refine EL_nil (thn_n ?_)
      rcases csome h with ⟨d2, h⟩ | ⟨d2, h⟩
      ·refine E_ct d2 rfl ?_
       exact E_skip (thn_n (i4 () _ _ ⟨p3, hfr, d3, z1, i3⟩ h))
      ·refine E_cf d2 rfl ?_
       refine E_exit ?_
       refine thn_e ?_
       refine thn_e ?_
       refine blk_hit ?_
       exact thn_n (l5 () _ _ ⟨p3, hfr⟩ h)
     ·rintro _ l6 u6 ⟨p5, hfr, y0, n0, j2⟩ h
      refine E_joinC h (fun (s : Unit) e w => ∃ (g : Gh) , Fr gI wI g w ∧ e 1 = p1 ∧ PT g.m w (x0 : Design) p1 ∧ e 3 = .int .i64 (j0)) (fun X131 m3 j4 h => ?_) ?_
      ·refine E_block ?_
       refine E_seq ?_
       have q5 := PT_field (part_Design_1).1 n0
       refine L_load (x := .tmp 23) Try.isAgg22 Try.sizeOf22 q5 fun q3 s3 m4 => ?_
       obtain ⟨i1, j3, h⟩ := bsome h
       have t5 := PT_idx s3 j3
       refine L_load (x := .tmp 26) Try.isAgg3 Try.sizeOf3 t5 fun v6 u5 n4 => ?_
       obtain rfl := RV_int.1 u5
       have x5 := PT_field (part_Design_0).1 n0
       refine L_load (x := .tmp 28) Try.isAgg3 Try.sizeOf3 x5 fun x6 y5 o4 => ?_
       obtain rfl := RV_int.1 y5
       obtain ⟨o0, p4, h⟩ := bsome h
       obtain ⟨u0, q4, h⟩ := bsome h
       refine E_drawL (g := p5) (n := 12) [(10, (fun v g w => v = .bool (u0)))] [0, 1, 2, 3, 4, 5, 6, 7, 8, 9, 10, 11] rfl mixed (by kernel_rfl) (⟨fun _ => up_eq _, trivial⟩) ?_
       refine L_pur (c := fPtr p1 1) rfl rfl .plain (fun _ _ hd => P_fieldAddr at_26_1 y0 (PT.ptr n0)) ?_
       refine L_ld (c := q3) rfl rfl .plain (fun _ _ h => h.ch) m4 rfl ?_
       refine L_pur (c := .int .i64 (j0)) rfl rfl .plain (fun _ _ hd => P_move j2) ?_
       refine L_pur (c := ePtr q3 j0 1) rfl rfl .plain (fun _ _ hd => P_indexAddr (α := Int) Try.underlying22 Try.sizeOf3 rfl s3 rfl j3) ?_
       refine L_ld (c := .int .i64 (i1)) rfl rfl .plain (fun _ _ h => h.ch) n4 rfl ?_
       refine L_pur (c := fPtr p1 0) rfl rfl .plain (fun _ _ hd => P_fieldAddr at_26_0 y0 (PT.ptr n0)) ?_
       refine L_ld (c := .int .i64 ((x0).Hooks)) rfl rfl .plain (fun _ _ h => h.ch) o4 rfl ?_
       refine L_pur (c := .int .u64 (wu64 (x0).Hooks)) rfl rfl .plain (fun _ _ hd => P_intu64 Try.underlying3 Try.underlying121 rfl) ?_
       refine L_pur (c := .int .i64 (o0)) rfl rfl .plain (fun _ _ hd => P_shlu rfl rfl p4) ?_
       refine L_pur (c := .int .i64 ((w64 (o0 - (1 : Int))))) rfl rfl .plain (fun _ _ hd => P_int rfl rfl rfl) ?_
       refine L_do (φ := fun v g w => v = .bool (u0)) rfl rfl .plain (fun g w hd => D_call (g := g) (vs := [.int .i64 (i1), .int .i64 (0), .int .i64 ((w64 (o0 - (1 : Int))))]) en93 (.cons rfl (.cons rfl (.cons rfl .nil))) (wk93  q4) fun g' w' v hs hr => ⟨g', hs, hr⟩) (fun y6 hv => ?_)
       obtain ⟨_, _, _, rfl⟩ := hv
       refine L_pur (c := .bool (!u0)) rfl rfl .plain (fun _ _ hd => P_not rfl) ?_
       refine L_nil fun z5 z6 hall => ?_
       have hs := hall.1
       have hfr := hfr.ext hs
       have n0 := n0.ext hs
       clear hs hall
       refine EL_nil (thn_n ?_)
       rcases csome h with ⟨i2, h⟩ | ⟨i2, h⟩
       ·refine E_ct i2 rfl ?_
        refine E_seq (E_region (EL_at (.int .i64 (2)) rfl rfl ?_))
        refine EL_nil (thn_n (E_ret (blk_r ?_)))
        refine thn_r ?_
        refine thn_r ?_
        refine blk_r ?_
        refine thn_r ?_
        obtain rfl := sinj h
        exact end1 rfl rfl (show _ = .int .i64 (2) from rfl) ⟨_, hfr, rfl⟩
       ·refine E_cf i2 rfl ?_
        exact E_skip (blk_n (thn_n (j4 () _ _ ⟨z5, hfr, y0, n0, j2⟩ h)))
      ·rintro _ m6 a7 ⟨a6, hfr, u3, z3, c4⟩ h
       refine E_region (EL_mv c4 rfl ?_)
       refine EL_in (.int .i64 ((w64 (j0 + (1 : Int))))) rfl rfl rfl rfl ?_
       refine EL_at (.int .i64 ((w64 (j0 + (1 : Int))))) rfl rfl ?_
       exact EL_nil (thn_n (m5 ((w64 (j0 + (1 : Int)))) _ _ ⟨a6, hfr, u3, z3, rfl⟩ h))
    ·rintro _ n6 b7 ⟨c7, hfr⟩ h
     refine E_seq (E_region (EL_at (.int .i64 (0)) rfl rfl ?_))
     refine EL_nil (thn_n (E_ret ?_))
     obtain rfl := sinj h
     exact end1 rfl rfl (show _ = .int .i64 (0) from rfl) ⟨_, hfr, rfl⟩
/-- griffe/fault.Groups$1 -/
def f70 (x0 : List Int) (z0 : List (List Str)) (z1 : List Str) : Option (Bool) :=
 (idx x0 (0 : Int)).bind fun y2 =>
 (idx z0 y2).bind fun y5 =>
 (f71 y5 z1).bind fun j0 =>
 some (j0)
theorem en70 : Enters Try.prog 70 := enters_of Try.func70 (by kernel_rfl) rfl
theorem wk70 {gI : Gh} {wI : World} {x0 : List Int} {z0 : List (List Str)} {z1 : List Str} {up0 : Value} (rp0 : RV gI.m wI x0 up0) {pf0 : Value} (qf0 : PT gI.m wI z0 pf0) {pf1 : Value} (qf1 : PT gI.m wI z1 pf1) {r : Bool} (h : f70 x0 z0 z1 = some r) : Fn Try.prog 70 #[up0, pf0, pf1] gI wI (fun _ _ v => v = .bool (r)) := by
 unfold f70 at h
 refine fn_of_E Try.func70 rfl (Nat.le_of_ble_eq_true rfl) fun g0 hm hfr => ?_
 have qf0 : PT g0.m wI z0 pf0 := hm ▸ qf0
 have qf1 : PT g0.m wI z1 pf1 := hm ▸ qf1
 have rp0 : RV g0.m wI x0 up0 := hm ▸ rp0
 show E _ 13 none _ _ _ _ _
 refine E_seq (E_region (EL_at (.bool false) rfl rfl ?_))
 refine EL_nil (thn_n (E_seq (L_load (x := .tmp 1) Try.isAgg78 Try.sizeOf78 qf0 fun v1 r1 hl1 => ?_)))
 obtain ⟨y2, n0, h⟩ := bsome h
 have q3 := PT_idx rp0 n0
 refine L_load (x := .tmp 7) Try.isAgg3 Try.sizeOf3 q3 fun v4 r4 y0 => ?_
 obtain rfl := RV_int.1 r4
 obtain ⟨y5, o0, h⟩ := bsome h
 have q6 := PT_idx r1 o0
 refine L_load (x := .tmp 9) Try.isAgg36 Try.sizeOf36 q6 fun v7 r7 i1 => ?_
 refine L_load (x := .tmp 2) Try.isAgg36 Try.sizeOf36 qf1 fun v8 r8 j1 => ?_
 obtain ⟨j0, u0, h⟩ := bsome h
 refine E_drawL (g := g0) (n := 9) [(7, (fun v g w => v = .bool (j0)))] [0, 1, 2, 3, 4, 5, 6, 7, 8] rfl mixed (by kernel_rfl) (⟨fun _ => up_eq _, trivial⟩) ?_
 refine L_ld (c := v1) rfl rfl .plain (fun _ _ h => h.ch) hl1 rfl ?_
 refine L_pur (c := up0) rfl rfl .plain (fun _ _ hd => P_move rfl) ?_
 refine L_pur (c := ePtr up0 (0 : Int) 1) rfl rfl .plain (fun _ _ hd => P_indexAddr (α := Int) Try.underlying22 Try.sizeOf3 rfl rp0 rfl n0) ?_
 refine L_ld (c := .int .i64 (y2)) rfl rfl .plain (fun _ _ h => h.ch) y0 rfl ?_
 refine L_pur (c := ePtr v1 y2 1) rfl rfl .plain (fun _ _ hd => P_indexAddr (α := List Str) Try.underlying78 Try.sizeOf36 rfl r1 rfl o0) ?_
 refine L_ld (c := v7) rfl rfl .plain (fun _ _ h => h.ch) i1 rfl ?_
 refine L_ld (c := v8) rfl rfl .plain (fun _ _ h => h.ch) j1 rfl ?_
 refine L_do (φ := fun v g w => v = .bool (j0)) rfl rfl .plain (fun g w hd => D_call (g := g) (vs := [v7, v8]) en71 (.cons rfl (.cons rfl .nil)) (wk71 (r7.ext hd.1) (r8.ext hd.1) u0) fun g' w' v hs hr => ⟨g', hs, hr⟩) (fun v9 hv => ?_)
 obtain ⟨_, _, _, rfl⟩ := hv
 refine L_pur (c := .bool (j0)) rfl rfl .plain (fun _ _ hd => P_assign rfl) ?_
 refine L_nil fun m1 d2 hall => ?_
 have hs := hall.1
 have hfr := hfr.ext hs
 clear hs hall
 refine EL_nil (thn_n (E_ret ?_))
 obtain rfl := sinj h
 exact end1 rfl rfl (show _ = .bool (j0) from rfl) ⟨_, hfr, rfl⟩
/-- (griffe/fault.loom).round$1 -/
def f79 (x0 : FaultDamage) (x1 : FaultDamage) : Option (Int) :=
 (f80 ((x0).Kind)).bind fun y6 =>
 (f80 ((x1).Kind)).bind fun j0 =>
 some ((w64 (y6 - j0)))
theorem en79 : Enters Try.prog 79 := enters_of Try.func79 (by kernel_rfl) rfl
theorem wk79 {gI : Gh} {wI : World} {x0 : FaultDamage} {x1 : FaultDamage} {up0 : Value} (rp0 : RV gI.m wI x0 up0) {up1 : Value} (rp1 : RV gI.m wI x1 up1) {r : Int} (h : f79 x0 x1 = some r) : Fn Try.prog 79 #[up0, up1] gI wI (fun _ _ v => v = .int .i64 (r)) := by
 unfold f79 at h
 refine fn_of_E Try.func79 rfl (Nat.le_of_ble_eq_true rfl) fun g0 hm hfr => ?_
 have rp0 : RV g0.m wI x0 up0 := hm ▸ rp0
 have rp1 : RV g0.m wI x1 up1 := hm ▸ rp1
 show E _ 12 none _ _ _ _ _
 refine E_seq (E_region (EL_do .plain rfl (D_box (g := g0) rfl rp0 fun g1 w1 p1 hs q1 => ?_)))
 have hfr := hfr.ext hs
 have rp1 := rp1.ext hs
 refine EL_do .plain rfl (D_box (g := g1) rfl rp1 fun g2 w2 p2 hs q2 => ?_)
 have hfr := hfr.ext hs
 have q1 := q1.ext hs
 refine EL_at (.int .i64 (0)) rfl rfl ?_
 refine EL_nil (thn_n (E_seq ?_))
 have q3 := PT_field (part_FaultDamage_0).1 q1
 refine L_load (x := .tmp 5) Try.isAgg60 Try.sizeOf60 q3 fun v4 r4 o0 => ?_
 obtain rfl := RV_int.1 r4
 obtain ⟨y6, u0, h⟩ := bsome h
 have q7 := PT_field (part_FaultDamage_0).1 q2
 refine L_load (x := .tmp 8) Try.isAgg60 Try.sizeOf60 q7 fun v8 r8 y0 => ?_
 obtain rfl := RV_int.1 r8
 obtain ⟨j0, n0, h⟩ := bsome h
 refine E_drawL (g := g2) (n := 8) [(2, (fun v g w => v = .int .i64 (y6))), (5, (fun v g w => v = .int .i64 (j0)))] [0, 1, 2, 3, 4, 5, 6, 7] rfl mixed (by kernel_rfl) (⟨fun _ => up_eq _, fun _ => up_eq _, trivial⟩) ?_
 refine L_pur (c := fPtr p1 0) rfl rfl .plain (fun _ _ hd => P_fieldAddr at_62_0 rfl (PT.ptr q1)) ?_
 refine L_ld (c := .int .i64 ((x0).Kind)) rfl rfl .plain (fun _ _ h => h.ch) o0 rfl ?_
 refine L_do (φ := fun v g w => v = .int .i64 (y6)) rfl rfl .plain (fun g w hd => D_call (g := g) (vs := [.int .i64 ((x0).Kind)]) en80 (.cons rfl .nil) (wk80  u0) fun g' w' v hs hr => ⟨g', hs, hr⟩) (fun v5 hv => ?_)
 obtain ⟨_, _, _, rfl⟩ := hv
 refine L_pur (c := fPtr p2 0) rfl rfl .plain (fun _ _ hd => P_fieldAddr at_62_0 rfl (PT.ptr q2)) ?_
 refine L_ld (c := .int .i64 ((x1).Kind)) rfl rfl .plain (fun _ _ h => h.ch) y0 rfl ?_
 refine L_do (φ := fun v g w => v = .int .i64 (j0)) rfl rfl .plain (fun g w hd => D_call (g := g) (vs := [.int .i64 ((x1).Kind)]) en80 (.cons rfl .nil) (wk80  n0) fun g' w' v hs hr => ⟨g', hs, hr⟩) (fun v9 hv => ?_)
 obtain ⟨_, _, _, rfl⟩ := hv
 refine L_pur (c := .int .i64 ((w64 (y6 - j0)))) rfl rfl .plain (fun _ _ hd => P_int rfl rfl rfl) ?_
 refine L_pur (c := .int .i64 ((w64 (y6 - j0)))) rfl rfl .plain (fun _ _ hd => P_assign rfl) ?_
 refine L_nil fun i1 j1 hall => ?_
 have hs := hall.1
 have hfr := hfr.ext hs
 clear hs hall
 refine EL_nil (thn_n (E_ret ?_))
 obtain rfl := sinj h
 exact end1 rfl rfl (show _ = .int .i64 ((w64 (y6 - j0))) from rfl) ⟨_, hfr, rfl⟩
/-- griffe/grifferef01.Table -/
def f85 (x0 : Design) : Option ((List (List Bool))) :=
 Option.bind (α := (List (List Bool))) (
  lp (σ := (List (List Bool)) × Int) (fun e5 (y0, j0) =>
   jn (σ := Unit) (fun (_ : Unit) =>
    Option.bind (α := (List (List Bool))) (
     (idx ((x0).Rows) j0).bind fun z1 =>
     (f103 z1 ((x0).Hooks)).bind fun n0 =>
     (apnd 24 y0 (([n0] : List (List Bool)))).bind fun q3 =>
     some (q3)
     ) fun u0 =>
    e5 (u0, (w64 (j0 + (1 : Int))))
    ) fun i5 =>
   bif (decide (j0 < (((x0).Rows).length : Int))) then
    i5 ()
   else
    some (y0)
   ) big (([] : List (List Bool)), (0 : Int))
  ) fun i1 =>
 some (i1)
theorem en85 : Enters Try.prog 85 := enters_of Try.func85 (by kernel_rfl) rfl
/-- slices.ContainsFunc[[]int,int] -/
def f87 (x0 : List Int) (x1 : Int → Option Bool) : Option (Bool) :=
 (f104 x0 x1).bind fun y2 =>
 some ((decide (y2 ≥ (0 : Int))))
theorem en87 : Enters Try.prog 87 := enters_of Try.func87 (by kernel_rfl) rfl
theorem wk87 {gI : Gh} {wI : World} {x0 : List Int} {x1 : Int → Option Bool} {up0 : Value} (rp0 : RV gI.m wI x0 up0) {up1 : Value} (rp1 : FnV1 Try.prog x1 up1 gI wI) {r : Bool} (h : f87 x0 x1 = some r) : Fn Try.prog 87 #[up0, up1] gI wI (fun _ _ v => v = .bool (r)) := by
 unfold f87 at h
 refine fn_of_E Try.func87 rfl (Nat.le_of_ble_eq_true rfl) fun g0 hm hfr => ?_
 have rp0 : RV g0.m wI x0 up0 := hm ▸ rp0
 obtain ⟨ff1, fa1, fc1, rfl, fen1, fcl1⟩ := rp1
 show E _ 9 none _ _ _ _ _
 refine E_seq (E_region (EL_at (.bool false) rfl rfl ?_))
 refine EL_nil (thn_n (E_seq (E_region (EL_mw up0 rfl rfl ?_))))
 refine EL_mw ((.func (.func ff1) fa1 fc1)) rfl rfl ?_
 obtain ⟨y2, j0, h⟩ := bsome h
 refine EL_do .plain rfl (D_call (g := g0) (vs := [up0, (.func (.func ff1) fa1 fc1)]) en104 (.cons rfl (.cons rfl .nil)) (wk104 rp0 (FnV1.ch ⟨_, _, _, rfl, fen1, fcl1⟩ hfr.ch) j0) fun g1 w1_ v1 hs hr => ?_)
 have hfr := hfr.ext hs
 subst hr
 refine EL_in (.bool ((decide (y2 ≥ (0 : Int))))) rfl rfl rfl rfl ?_
 refine EL_at (.bool ((decide (y2 ≥ (0 : Int))))) rfl rfl ?_
 refine EL_nil (thn_n (E_ret ?_))
 obtain rfl := sinj h
 exact end1 rfl rfl (show _ = .bool ((decide (y2 ≥ (0 : Int)))) from rfl) ⟨_, hfr, rfl⟩
/-- griffe/tie.within -/
def f94 (x0 : Int) (x1 : Int) (x2 : List Int) : Option (Bool) :=
 (f87 x2 ((fun a0 => f105 a0 x0 x1))).bind fun y4 =>
 some ((!y4))
theorem en94 : Enters Try.prog 94 := enters_of Try.func94 (by kernel_rfl) rfl
theorem wk94 {gI : Gh} {wI : World} {x0 : Int} {x1 : Int} {x2 : List Int} {up2 : Value} (rp2 : RV gI.m wI x2 up2) {r : Bool} (h : f94 x0 x1 x2 = some r) : Fn Try.prog 94 #[.int .i64 (x0), .int .i64 (x1), up2] gI wI (fun _ _ v => v = .bool (r)) := by
 unfold f94 at h
 refine fn_of_E Try.func94 rfl (Nat.le_of_ble_eq_true rfl) fun g0 hm hfr => ?_
 have rp2 : RV g0.m wI x2 up2 := hm ▸ rp2
 show E _ 11 none _ _ _ _ _
 refine E_seq (E_region (EL_do .plain rfl (D_box (g := g0) rfl (RV_int.2 rfl) fun g1 w1 p1 hs q1 => ?_)))
 have hfr := hfr.ext hs
 have rp2 := rp2.ext hs
 refine EL_do .plain rfl (D_box (g := g1) rfl (RV_int.2 rfl) fun g2 w2 p2 hs q2 => ?_)
 have hfr := hfr.ext hs
 have rp2 := rp2.ext hs
 have q1 := q1.ext hs
 refine EL_at (.bool false) rfl rfl ?_
 refine EL_nil (thn_n (E_seq (E_region (EL_mw up2 rfl rfl ?_))))
 refine EL_pur (v := (.func (.func 105) #[] #[p1, p2])) (P_makeFunc (capf_0_2 (show ev _ _ = p1 from rfl) (show ev _ _ = p2 from rfl))) .plain rfl ?_
 obtain ⟨y4, j0, h⟩ := bsome h
 refine EL_do .plain rfl (D_call (g := g2) (vs := [up2, (.func (.func 105) #[] #[p1, p2])]) en87 (.cons rfl (.cons rfl .nil)) (wk87 rp2 ⟨105, #[], #[p1, p2], rfl, en105, fun g' w' hch a0 b0 r hu0 hr => by obtain rfl := RV_int.1 hu0; exact Fn.mono (wk105  (q1.ch hch) (q2.ch hch) hr) fun _ _ _ h => RV_bool.2 h⟩ j0) fun g3 w3_ v3 hs hr => ?_)
 have hfr := hfr.ext hs
 subst hr
 refine EL_pur (v := .bool (!y4)) (P_not rfl) .plain rfl ?_
 refine EL_at (.bool (!y4)) rfl rfl ?_
 refine EL_nil (thn_n (E_ret ?_))
 obtain rfl := sinj h
 exact end1 rfl rfl (show _ = .bool (!y4) from rfl) ⟨_, hfr, rfl⟩
/-- griffe/point.within -/
def f95 (x0 : Int) (x1 : Int) (x2 : List Int) : Option (Bool) :=
 (f87 x2 ((fun a0 => f106 a0 x0 x1))).bind fun y4 =>
 some ((!y4))
theorem en95 : Enters Try.prog 95 := enters_of Try.func95 (by kernel_rfl) rfl
theorem wk95 {gI : Gh} {wI : World} {x0 : Int} {x1 : Int} {x2 : List Int} {up2 : Value} (rp2 : RV gI.m wI x2 up2) {r : Bool} (h : f95 x0 x1 x2 = some r) : Fn Try.prog 95 #[.int .i64 (x0), .int .i64 (x1), up2] gI wI (fun _ _ v => v = .bool (r)) := by
 unfold f95 at h
 refine fn_of_E Try.func95 rfl (Nat.le_of_ble_eq_true rfl) fun g0 hm hfr => ?_
 have rp2 : RV g0.m wI x2 up2 := hm ▸ rp2
 show E _ 11 none _ _ _ _ _
 refine E_seq (E_region (EL_do .plain rfl (D_box (g := g0) rfl (RV_int.2 rfl) fun g1 w1 p1 hs q1 => ?_)))
 have hfr := hfr.ext hs
 have rp2 := rp2.ext hs
 refine EL_do .plain rfl (D_box (g := g1) rfl (RV_int.2 rfl) fun g2 w2 p2 hs q2 => ?_)
 have hfr := hfr.ext hs
 have rp2 := rp2.ext hs
 have q1 := q1.ext hs
 refine EL_at (.bool false) rfl rfl ?_
 refine EL_nil (thn_n (E_seq (E_region (EL_mw up2 rfl rfl ?_))))
 refine EL_pur (v := (.func (.func 106) #[] #[p1, p2])) (P_makeFunc (capf_0_2 (show ev _ _ = p1 from rfl) (show ev _ _ = p2 from rfl))) .plain rfl ?_
 obtain ⟨y4, j0, h⟩ := bsome h
 refine EL_do .plain rfl (D_call (g := g2) (vs := [up2, (.func (.func 106) #[] #[p1, p2])]) en87 (.cons rfl (.cons rfl .nil)) (wk87 rp2 ⟨106, #[], #[p1, p2], rfl, en106, fun g' w' hch a0 b0 r hu0 hr => by obtain rfl := RV_int.1 hu0; exact Fn.mono (wk106  (q1.ch hch) (q2.ch hch) hr) fun _ _ _ h => RV_bool.2 h⟩ j0) fun g3 w3_ v3 hs hr => ?_)
 have hfr := hfr.ext hs
 subst hr
 refine EL_pur (v := .bool (!y4)) (P_not rfl) .plain rfl ?_
 refine EL_at (.bool (!y4)) rfl rfl ?_
 refine EL_nil (thn_n (E_ret ?_))
 obtain rfl := sinj h
 exact end1 rfl rfl (show _ = .bool (!y4) from rfl) ⟨_, hfr, rfl⟩
/-- (griffe/tie.harness).pick -/
def f102 (x0 : TieTieHarness) (x1 : Int) : Option (Str) :=
 Option.bind (α := List UInt8) (
  lp (σ := List UInt8 × Int) (fun z3 (i1, j0) =>
   bif (decide (j0 < ((((x0).TieHarness).Warps).length : Int))) then
    Option.bind (α := List UInt8) (
     (f111 x0 x1 j0).bind fun q2 =>
     (f110 q2).bind fun s2 =>
     (apnd 1 i1 [s2]).bind fun c4 =>
     some (c4)
     ) fun u0 =>
    z3 (u0, (w64 (j0 + (1 : Int))))
   else
    some (i1)
   ) big (([] : List UInt8), (0 : Int))
  ) fun j1 =>
 (sbstr j1).bind fun i2 =>
 some (i2)
theorem en102 : Enters Try.prog 102 := enters_of Try.func102 (by kernel_rfl) rfl
theorem wk102 {gI : Gh} {wI : World} {x0 : TieTieHarness} {x1 : Int} {up0 : Value} (rp0 : RV gI.m wI x0 up0) {r : Str} (h : f102 x0 x1 = some r) : Fn Try.prog 102 #[up0, .int .i64 (x1)] gI wI (fun _ _ v => v = Str.v (r)) := by
 unfold f102 at h
 refine fn_of_E Try.func102 rfl (Nat.le_of_ble_eq_true rfl) fun g0 hm hfr => ?_
 have rp0 : RV g0.m wI x0 up0 := hm ▸ rp0
 show E _ 22 none _ _ _ _ _
 refine E_seq (E_region (EL_do .plain rfl (D_box (g := g0) rfl rp0 fun g1 w1 p1 hs q1 => ?_)))
 have hfr := hfr.ext hs
 refine EL_at (Str.v (⟨[]⟩ : Str)) rfl rfl ?_
 refine EL_nil (thn_n (E_seq (E_region (EL_do .plain rfl (D_allocOc (g := g1) 2005 ((⟨.pointer none, rfl⟩, []) : Fv × List UInt8) Try.zeroValue154 (fun m w => ⟨_, rep_two (show GoT.rep m w (⟨.pointer none, rfl⟩ : Fv) [.pointer none] from rfl) rep_nil, rfl⟩) fun g2 w2 p2 hs b2 cb => ?_)))))
 have hfr := hfr.stp hs
 have q1 := q1.stp hs
 replace b2 : SB 2005 60501 g2 w2 5 154 [] p2 := ⟨_, b2, cb.osf rfl, .inl rfl⟩
 clear cb
 refine EL_nil (thn_n ?_)
 obtain ⟨j1, hx, h⟩ := bsome h
 refine E_join (fun e w => ∃ (g : Gh) , Fr gI wI g w ∧ e 5 = p2 ∧ SB 2005 60501 g w 5 154 (j1) p2) (fun Q' hQ => ?_) (fun d5 o4 hR => ?_)
 ·replace h := hx
  clear hx
  refine E_seq (E_region (EL_pur (v := fPtr p1 0) (P_fieldAddr at_145_0 rfl (PT.ptr q1)) .plain rfl ?_))
  have d4 := PT_field (part_TieTieHarness_0).1 q1
  refine EL_pur (v := fPtr (fPtr p1 0) 1) (P_fieldAddr at_24_1 rfl (PT.ptr d4)) .plain rfl ?_
  have p4 := PT_field (part_TieHarness_1).1 d4
  refine EL_do .plain rfl (D_load (g := g2) Try.isAgg22 Try.sizeOf22 rfl p4 fun m5 q4 => ?_)
  refine EL_pur (v := .int .i64 ((((x0).TieHarness).Warps).length : Int)) (P_len Try.underlying22 rfl q4) .plain rfl ?_
  refine EL_mw (.int .i64 (0)) rfl rfl ?_
  refine EL_nil (thn_n (E_block ?_))
  refine E_lp h (fun (s : List UInt8 × Int) e w => ∃ (g : Gh) , Fr gI wI g w ∧ e 1 = .int .i64 (x1) ∧ e 2 = p1 ∧ PT g.m w (x0 : TieTieHarness) p1 ∧ e 5 = p2 ∧ SB 2005 60501 g w 5 154 (s.1) p2 ∧ e 10 = .int .i64 (((((x0).TieHarness).Warps).length : Int)) ∧ e 11 = .int .i64 (s.2)) ⟨g2, hfr, rfl, rfl, q1, rfl, b2, rfl, rfl⟩ (fun X27 z3 e4 => ?_)
  rintro ⟨i1, j0⟩ e5 n5 ⟨z2, hfr, j2, m2, n0, m1, o0, z1, y0⟩ h
  refine E_seq (E_region (EL_pur (v := .bool ((decide (j0 < ((((x0).TieHarness).Warps).length : Int))))) (P_int y0 z1 rfl) .plain rfl ?_))
  refine EL_nil (thn_n (E_seq ?_))
  rcases csome h with ⟨d2, h⟩ | ⟨d2, h⟩
  ·refine E_ct d2 rfl ?_
   refine E_skip (thn_n ?_)
   obtain ⟨u0, hx, h⟩ := bsome h
   refine E_join (fun e w => ∃ (g : Gh) , Fr gI wI g w ∧ e 1 = .int .i64 (x1) ∧ e 2 = p1 ∧ PT g.m w (x0 : TieTieHarness) p1 ∧ e 5 = p2 ∧ SB 2005 60501 g w 5 154 (u0) p2 ∧ e 10 = .int .i64 (((((x0).TieHarness).Warps).length : Int)) ∧ e 11 = .int .i64 (j0)) (fun Q' hQ => ?_) (fun i5 o5 hR => ?_)
   ·replace h := hx
    clear hx
    refine E_block ?_
    refine E_seq (E_region (EL_mv y0 rfl ?_))
    refine EL_at (.int .i64 (j0)) rfl rfl ?_
    refine EL_nil (thn_n (E_region (EL_do .plain rfl (D_load (g := z2) Try.isAgg145 Try.sizeOf145 m2 n0 fun s4 u4 => ?_))))
    refine EL_mv j2 rfl ?_
    refine EL_mw (.int .i64 (j0)) rfl rfl ?_
    obtain ⟨q2, i4, h⟩ := bsome h
    refine EL_do .plain rfl (D_call (g := z2) (vs := [s4, .int .i64 (x1), .int .i64 (j0)]) en111 (.cons rfl (.cons rfl (.cons rfl .nil))) (wk111 u4 i4) fun x4 j5 p5 hs hr => ?_)
    have hfr := hfr.ext hs
    have n0 := n0.ext hs
    have o0 := o0.ext hs
    subst hr
    obtain ⟨s2, j4, h⟩ := bsome h
    refine EL_do .plain rfl (D_call (g := x4) (vs := [.bool (q2)]) en110 (.cons rfl .nil) (wk110  j4) fun q5 l5 t5 hs hr => ?_)
    have hfr := hfr.ext hs
    have n0 := n0.ext hs
    have o0 := o0.ext hs
    subst hr
    obtain ⟨c4, m4, h⟩ := bsome h
    refine EL_do .plain rfl (D_callC (vs := [p2, .int .u8 (UInt8.toNat (s2))]) en109 (.cons m1 (.cons rfl .nil)) (wk109 (i := 2005) (j := 60501) rfl rfl o0 m4) fun u5 x5 hq => ?_)
    obtain ⟨hv, z4, ⟨_, _, _, _, hs1, hs2, hs3⟩, b42⟩ := hq
    subst hv
    have hfr := hfr.stp hs1
    have n0 := n0.stp hs1
    have hfr := hfr.stp hs2
    have n0 := n0.stp hs2
    have hfr := hfr.stp hs3
    have n0 := n0.stp hs3
    clear hs1 hs2 hs3
    refine EL_nil (blk_n ?_)
    obtain rfl := sinj h
    exact hQ _ _ ⟨z4, hfr, j2, m2, n0, m1, b42, z1, y0⟩
   ·clear hx
    obtain ⟨c5, hfr, j3, m3, o3, p3, q3, d3, i3⟩ := hR
    refine E_region (EL_in (.int .i64 ((w64 (j0 + (1 : Int))))) i3 rfl rfl rfl ?_)
    refine EL_mw (.int .i64 ((w64 (j0 + (1 : Int))))) rfl rfl ?_
    exact EL_nil (thn_n (e4 (u0, (w64 (j0 + (1 : Int)))) _ _ ⟨c5, hfr, j3, m3, o3, p3, q3, d3, rfl⟩ h))
  ·refine E_cf d2 rfl ?_
   refine E_exit ?_
   refine thn_e ?_
   refine thn_e ?_
   refine blk_hit ?_
   obtain rfl := sinj h
   exact hQ _ _ ⟨z2, hfr, m1, o0⟩
 ·clear hx
  obtain ⟨y5, hfr, s3, u3⟩ := hR
  refine E_seq (E_region ?_)
  obtain ⟨i2, n4, h⟩ := bsome h
  obtain ⟨hne46, hye46⟩ := sbstr_h n4
  refine EL_do .plain rfl (D_callC (vs := [p2]) en112 (.cons s3 .nil) (wk112 (i := 2005) (j := 60501) rfl u3 hne46) fun z5 o4 hq => ?_)
  obtain ⟨hv, a6, hs⟩ := hq
  rw [← hye46] at hv
  subst hv
  have hfr := hfr.stp hs
  refine EL_at (Str.v i2) rfl rfl ?_
  refine EL_nil (thn_n (E_ret ?_))
  obtain rfl := sinj h
  exact end1 rfl rfl (show _ = Str.v i2 from rfl) ⟨_, hfr, rfl⟩
/-- slices.rotateCmpFunc[griffe/api.FaultDamage] -/
def f113 (x0 : List FaultDamage) (x1 : Int) (x2 : Int) (x3 : Int) (x4 : FaultDamage → FaultDamage → Option Int) : Option ((List FaultDamage)) :=
 Option.bind (α := (List FaultDamage) × Int) (
  lp (σ := (List FaultDamage) × Int × Int) (fun o3 (j1, j0, n0) =>
   jn (σ := Unit) (fun (_ : Unit) =>
    bif (decide (j0 > n0)) then
     (f115 j1 ((w64 (x2 - j0))) x2 n0 x4).bind fun p3 =>
     o3 (p3, (w64 (j0 - n0)), n0)
    else
     (f115 j1 ((w64 (x2 - j0))) ((w64 ((w64 (x2 + n0)) - j0))) j0 x4).bind fun q3 =>
     o3 (q3, j0, (w64 (n0 - j0)))
    ) fun e4 =>
   bif (j0 != n0) then
    e4 ()
   else
    some (j1, j0)
   ) big (x0, (w64 (x2 - x1)), (w64 (x3 - x2)))
  ) fun (i2, u0) =>
 (f115 i2 ((w64 (x2 - u0))) x2 u0 x4).bind fun i4 =>
 some (i4)
theorem en113 : Enters Try.prog 113 := enters_of Try.func113 (by kernel_rfl) rfl
theorem wk113 {iI : Nat} {gI : Gh} {wI : World} {x0 : List FaultDamage} {x1 : Int} {x2 : Int} {x3 : Int} {x4 : FaultDamage → FaultDamage → Option Int} {up0 : Value} (mp0 : OM iI gI wI 62 x0 up0) {up4 : Value} (rp4 : FnV2 Try.prog x4 up4 gI wI) {r : (List FaultDamage)} (h : f113 x0 x1 x2 x3 x4 = some r) : FnM Try.prog 113 #[up0, .int .i64 (x1), .int .i64 (x2), .int .i64 (x3), up4] iI gI wI (fun g w v => v = .tuple #[] ∧ OM iI g w 62 r up0) := by
 unfold f113 at h
 refine fnM_of_E Try.func113 rfl (Nat.le_of_ble_eq_true rfl) fun g0 hm hfr => ?_
 have u3 := mp0
 replace mp0 := mp0.enter
 rw [← hm] at mp0
 replace hm : g0.m = gI.m := by rw [hm]
 obtain ⟨ff4, fa4, fc4, rfl, fen4, fcl4⟩ := rp4
 show E _ 58 none _ _ _ _ _
 refine E_seq (E_region (EL_mw (.int .i64 (x2)) rfl rfl ?_))
 refine EL_mw (.int .i64 (x1)) rfl rfl ?_
 refine EL_in (.int .i64 ((w64 (x2 - x1)))) rfl rfl rfl rfl ?_
 refine EL_at (.int .i64 ((w64 (x2 - x1)))) rfl rfl ?_
 refine EL_nil (thn_n (E_seq (E_region (EL_mw (.int .i64 (x3)) rfl rfl ?_))))
 refine EL_mw (.int .i64 (x2)) rfl rfl ?_
 refine EL_in (.int .i64 ((w64 (x3 - x2)))) rfl rfl rfl rfl ?_
 refine EL_at (.int .i64 ((w64 (x3 - x2)))) rfl rfl ?_
 refine EL_nil (thn_n ?_)
 obtain ⟨⟨i2, u0⟩, hx, h⟩ := bsome h
 refine E_join (fun e w => ∃ (g : Gh) , FrM iI gI wI g w ∧ e 0 = up0 ∧ OM 1 g w 62 (i2 : List FaultDamage) up0 ∧ e 2 = .int .i64 (x2) ∧ e 4 = (.func (.func ff4) fa4 fc4) ∧ e 10 = .int .i64 (u0)) (fun Q' hQ => ?_) (fun d5 n4 hR => ?_)
 ·replace h := hx
  clear hx
  refine E_block ?_
  refine E_lp h (fun (s : (List FaultDamage) × Int × Int) e w => ∃ (g : Gh) , FrM iI gI wI g w ∧ e 0 = up0 ∧ OM 1 g w 62 (s.1 : List FaultDamage) up0 ∧ e 2 = .int .i64 (x2) ∧ e 4 = (.func (.func ff4) fa4 fc4) ∧ e 10 = .int .i64 (s.2.1) ∧ e 11 = .int .i64 (s.2.2)) ⟨g0, hfr, rfl, mp0, rfl, rfl, rfl, rfl⟩ (fun X12 o3 s3 => ?_)
  rintro ⟨j1, j0, n0⟩ e5 m5 ⟨j4, hfr, s2, z2, d3, i3, d2, j2⟩ h
  refine E_joinC h (fun (s : Unit) e w => ∃ (g : Gh) , FrM iI gI wI g w ∧ e 0 = up0 ∧ OM 1 g w 62 (j1 : List FaultDamage) up0 ∧ e 2 = .int .i64 (x2) ∧ e 4 = (.func (.func ff4) fa4 fc4) ∧ e 10 = .int .i64 (j0) ∧ e 11 = .int .i64 (n0)) (fun X15 e4 o4 h => ?_) ?_
  ·refine E_seq (E_region (EL_mv d2 rfl ?_))
   refine EL_mv j2 rfl ?_
   refine EL_in (.bool ((j0 != n0))) rfl rfl rfl rfl ?_
   refine EL_nil (thn_n ?_)
   rcases csome h with ⟨p2, h⟩ | ⟨p2, h⟩
   ·refine E_ct p2 rfl ?_
    exact E_skip (thn_n (o4 () _ _ ⟨j4, hfr, s2, z2, d3, i3, d2, j2⟩ h))
   ·refine E_cf p2 rfl ?_
    refine E_exit ?_
    refine thn_e ?_
    refine thn_e ?_
    refine blk_hit ?_
    obtain ⟨rfl, rfl⟩ := pairs2 h
    exact hQ _ _ ⟨j4, hfr, s2, z2, d3, i3, d2⟩
  ·rintro _ i5 n5 ⟨m4, hfr, m1, j3, i1, z1, o0, y0⟩ h
   refine E_block ?_
   refine E_seq (E_region (EL_mv o0 rfl ?_))
   refine EL_mv y0 rfl ?_
   refine EL_in (.bool ((decide (j0 > n0)))) rfl rfl rfl rfl ?_
   refine EL_nil (thn_n ?_)
   rcases csome h with ⟨q2, h⟩ | ⟨q2, h⟩
   ·refine E_ct q2 rfl ?_
    refine E_seq (E_region (EL_mv m1 rfl ?_))
    refine EL_mv i1 rfl ?_
    refine EL_mv o0 rfl ?_
    refine EL_in (.int .i64 ((w64 (x2 - j0)))) rfl rfl rfl rfl ?_
    refine EL_mv i1 rfl ?_
    refine EL_mv y0 rfl ?_
    refine EL_mv z1 rfl ?_
    obtain ⟨p3, p4, h⟩ := bsome h
    refine EL_do .plain rfl (D_callM (g := m4) (i := 1) (vs := [up0, .int .i64 ((w64 (x2 - j0))), .int .i64 (x2), .int .i64 (n0), (.func (.func ff4) fa4 fc4)]) en115 (.cons rfl (.cons rfl (.cons rfl (.cons rfl (.cons rfl .nil))))) (wk115 j3 (FnV2.ch ⟨_, _, _, rfl, fen4, fcl4⟩ hfr.ch) p4) fun u4 j5 o5 hs hr => ?_)
    obtain ⟨hrv, b19⟩ := hr
    subst hrv
    have hfr := hfr.stp hs
    refine EL_nil (thn_n (E_region (EL_mv o0 rfl ?_)))
    refine EL_mv y0 rfl ?_
    refine EL_in (.int .i64 ((w64 (j0 - n0)))) rfl rfl rfl rfl ?_
    refine EL_at (.int .i64 ((w64 (j0 - n0)))) rfl rfl ?_
    exact EL_nil (blk_n (thn_n (s3 (p3, (w64 (j0 - n0)), n0) _ _ ⟨u4, hfr, m1, b19, i1, z1, rfl, y0⟩ h)))
   ·refine E_cf q2 rfl ?_
    refine E_seq (E_region (EL_mv m1 rfl ?_))
    refine EL_mv i1 rfl ?_
    refine EL_mv o0 rfl ?_
    refine EL_in (.int .i64 ((w64 (x2 - j0)))) rfl rfl rfl rfl ?_
    refine EL_mv i1 rfl ?_
    refine EL_mv y0 rfl ?_
    refine EL_in (.int .i64 ((w64 (x2 + n0)))) rfl rfl rfl rfl ?_
    refine EL_mv o0 rfl ?_
    refine EL_in (.int .i64 ((w64 ((w64 (x2 + n0)) - j0)))) rfl rfl rfl rfl ?_
    refine EL_mv o0 rfl ?_
    refine EL_mv z1 rfl ?_
    obtain ⟨q3, q4, h⟩ := bsome h
    refine EL_do .plain rfl (D_callM (g := m4) (i := 1) (vs := [up0, .int .i64 ((w64 (x2 - j0))), .int .i64 ((w64 ((w64 (x2 + n0)) - j0))), .int .i64 (j0), (.func (.func ff4) fa4 fc4)]) en115 (.cons rfl (.cons rfl (.cons rfl (.cons rfl (.cons rfl .nil))))) (wk115 j3 (FnV2.ch ⟨_, _, _, rfl, fen4, fcl4⟩ hfr.ch) q4) fun z4 l5 p5 hs hr => ?_)
    obtain ⟨hrv, b21⟩ := hr
    subst hrv
    have hfr := hfr.stp hs
    refine EL_nil (thn_n (E_region (EL_mv y0 rfl ?_)))
    refine EL_mv o0 rfl ?_
    refine EL_in (.int .i64 ((w64 (n0 - j0)))) rfl rfl rfl rfl ?_
    refine EL_at (.int .i64 ((w64 (n0 - j0)))) rfl rfl ?_
    exact EL_nil (blk_n (thn_n (s3 (q3, j0, (w64 (n0 - j0))) _ _ ⟨z4, hfr, m1, b21, i1, z1, o0, rfl⟩ h)))
 ·clear hx
  obtain ⟨c5, hfr, z3, c4, m3, d4, m2⟩ := hR
  refine E_region (EL_mv z3 rfl ?_)
  refine EL_mv m3 rfl ?_
  refine EL_mv m2 rfl ?_
  refine EL_in (.int .i64 ((w64 (x2 - u0)))) rfl rfl rfl rfl ?_
  refine EL_mv m3 rfl ?_
  refine EL_mv m2 rfl ?_
  refine EL_mv d4 rfl ?_
  obtain ⟨i4, s4, h⟩ := bsome h
  refine EL_do .plain rfl (D_callM (g := c5) (i := 1) (vs := [up0, .int .i64 ((w64 (x2 - u0))), .int .i64 (x2), .int .i64 (u0), (.func (.func ff4) fa4 fc4)]) en115 (.cons rfl (.cons rfl (.cons rfl (.cons rfl (.cons rfl .nil))))) (wk115 c4 (FnV2.ch ⟨_, _, _, rfl, fen4, fcl4⟩ hfr.ch) s4) fun q5 n4 t5 hs hr => ?_)
  obtain ⟨hrv, b24⟩ := hr
  subst hrv
  have hfr := hfr.stp hs
  refine EL_nil ?_
  obtain rfl := sinj h
  exact end0n rfl rfl ⟨_, hfr, rfl, u3.back b24⟩
/-- griffe/grifferef05.Like -/
def f21 (x0 : FaultLoom) (x1 : FaultLoom) : Option (Bool) :=
 Option.bind (α := Bool) (
  (f57 ((x0).Harness) ((x1).Harness)).bind fun o0 =>
  bif o0 then
   (f58 ((x0).Design) ((x1).Design)).bind fun u0 =>
   some (u0)
  else
   some (false)
  ) fun n0 =>
 some (n0)
theorem en21 : Enters Try.prog 21 := enters_of Try.func21 (by kernel_rfl) rfl
theorem wk21 {gI : Gh} {wI : World} {x0 : FaultLoom} {x1 : FaultLoom} {up0 : Value} (rp0 : RV gI.m wI x0 up0) {up1 : Value} (rp1 : RV gI.m wI x1 up1) {r : Bool} (h : f21 x0 x1 = some r) : Fn Try.prog 21 #[up0, up1] gI wI (fun _ _ v => v = .bool (r)) := by
 unfold f21 at h
 refine fn_of_E Try.func21 rfl (Nat.le_of_ble_eq_true rfl) fun g0 hm hfr => ?_
 have rp0 : RV g0.m wI x0 up0 := hm ▸ rp0
 have rp1 : RV g0.m wI x1 up1 := hm ▸ rp1
 show E _ 17 none _ _ _ _ _
 refine E_seq (E_region (EL_do .plain rfl (D_box (g := g0) rfl rp0 fun g1 w1 p1 hs q1 => ?_)))
 have hfr := hfr.ext hs
 have rp1 := rp1.ext hs
 refine EL_do .plain rfl (D_box (g := g1) rfl rp1 fun g2 w2 p2 hs q2 => ?_)
 have hfr := hfr.ext hs
 have q1 := q1.ext hs
 refine EL_at (.bool false) rfl rfl ?_
 refine EL_nil (thn_n ?_)
 obtain ⟨n0, hx, h⟩ := bsome h
 refine E_join (fun e w => ∃ (g : Gh) , Fr gI wI g w ∧ e 4 = .bool (n0)) (fun Q' hQ => ?_) (fun q3 z3 hR => ?_)
 ·replace h := hx
  clear hx
  refine E_region (EL_pur (v := fPtr p1 0) (P_fieldAddr at_28_0 rfl (PT.ptr q1)) .plain rfl ?_)
  have z1 := PT_field (part_FaultLoom_0).1 q1
  refine EL_do .plain rfl (D_load (g := g2) Try.isAgg24 Try.sizeOf24 rfl z1 fun d2 i2 => ?_)
  refine EL_pur (v := fPtr p2 0) (P_fieldAddr at_28_0 rfl (PT.ptr q2)) .plain rfl ?_
  have j2 := PT_field (part_FaultLoom_0).1 q2
  refine EL_do .plain rfl (D_load (g := g2) Try.isAgg24 Try.sizeOf24 rfl j2 fun m2 s2 => ?_)
  obtain ⟨o0, j1, h⟩ := bsome h
  refine EL_do .plain rfl (D_call (g := g2) (vs := [d2, m2]) en57 (.cons rfl (.cons rfl .nil)) (wk57 i2 s2 j1) fun y0 s3 c4 hs hr => ?_)
  have hfr := hfr.ext hs
  have q1 := q1.ext hs
  have q2 := q2.ext hs
  subst hr
  refine EL_mw (.bool (o0)) rfl rfl ?_
  rcases csome h with ⟨j0, h⟩ | ⟨j0, h⟩
  ·refine EL_pur (v := fPtr p1 2) (P_fieldAddr at_28_1 rfl (PT.ptr q1)) (.yes2 rfl rfl j0) rfl ?_
   have z2 := PT_field (part_FaultLoom_1).1 q1
   refine EL_do (.yes2 rfl rfl j0) rfl (D_load (g := y0) Try.isAgg26 Try.sizeOf26 rfl z2 fun d3 i3 => ?_)
   refine EL_pur (v := fPtr p2 2) (P_fieldAddr at_28_1 rfl (PT.ptr q2)) (.yes2 rfl rfl j0) rfl ?_
   have j3 := PT_field (part_FaultLoom_1).1 q2
   refine EL_do (.yes2 rfl rfl j0) rfl (D_load (g := y0) Try.isAgg26 Try.sizeOf26 rfl j3 fun m3 o3 => ?_)
   obtain ⟨u0, m1, h⟩ := bsome h
   refine EL_do (.yes2 rfl rfl j0) rfl (D_call (g := y0) (vs := [d3, m3]) en58 (.cons rfl (.cons rfl .nil)) (wk58 i3 o3 m1) fun p3 u3 d4 hs hr => ?_)
   have hfr := hfr.ext hs
   subst hr
   refine EL_pur (v := .bool (u0)) (P_pick (b := o0) rfl (pick_t j0 rfl)) .plain rfl ?_
   refine EL_at (.bool (u0)) rfl rfl ?_
   refine EL_nil ?_
   obtain rfl := sinj h
   exact hQ _ _ ⟨p3, hfr, rfl⟩
  ·refine EL_skip (.no2 rfl rfl j0 rfl) rfl ?_
   refine EL_skip (.no2 rfl rfl j0 rfl) rfl ?_
   refine EL_skip (.no2 rfl rfl j0 rfl) rfl ?_
   refine EL_skip (.no2 rfl rfl j0 rfl) rfl ?_
   refine EL_skip (.no2 rfl rfl j0 rfl) rfl ?_
   refine EL_pur (v := .bool false) (P_pick (b := o0) rfl (pick_f j0 rfl)) .plain rfl ?_
   refine EL_at (.bool false) rfl rfl ?_
   refine EL_nil ?_
   obtain rfl := sinj h
   exact hQ _ _ ⟨y0, hfr, rfl⟩
 ·clear hx
  obtain ⟨e4, hfr, i1⟩ := hR
  refine E_ret ?_
  obtain rfl := sinj h
  exact end1 rfl rfl (show _ = .bool (n0) from i1) ⟨_, hfr, rfl⟩
/-- griffe/grifferef05.Loom -/
def f33 (x0 : FaultLoom) : Option (Int) :=
 jn (σ := Unit) (fun (_ : Unit) =>
  jn (σ := Unit) (fun (_ : Unit) =>
   jn (σ := Unit) (fun (_ : Unit) =>
    some ((0 : Int))
    ) fun k33 =>
   bif (((x0).Harness).Hooks != ((x0).Design).Hooks) then
    some ((4 : Int))
   else
    k33 ()
   ) fun k19 =>
  (f67 ((x0).Design)).bind fun y23 =>
  bif (y23 != (0 : Int)) then
   some (y23)
  else
   k19 ()
  ) fun k7 =>
 (f66 ((x0).Harness)).bind fun y11 =>
 bif (y11 != (0 : Int)) then
  some (y11)
 else
  k7 ()
theorem en33 : Enters Try.prog 33 := enters_of Try.func33 (by kernel_rfl) rfl
theorem wk33 {gI : Gh} {wI : World} {x0 : FaultLoom} {up0 : Value} (rp0 : RV gI.m wI x0 up0) {r : Int} (h : f33 x0 = some r) : Fn Try.prog 33 #[up0] gI wI (fun _ _ v => v = .int .i64 (r)) := by
 unfold f33 at h
 refine fn_of_E Try.func33 rfl (Nat.le_of_ble_eq_true rfl) fun g0 hm hfr => ?_
 have rp0 : RV g0.m wI x0 up0 := hm ▸ rp0
 show E _ 24 none _ _ _ _ _
 refine E_seq (E_region (EL_do .plain rfl (D_box (g := g0) rfl rp0 fun g1 w1 p1 hs q1 => ?_)))
 have hfr := hfr.ext hs
 refine EL_at (.int .i64 (0)) rfl rfl ?_
 refine EL_nil (thn_n (E_joinC h (fun (s : Unit) e w => ∃ (g : Gh) , Fr gI wI g w ∧ e 1 = p1 ∧ PT g.m w (x0 : FaultLoom) p1) (fun X7 k7 s2 h => ?_) ?_))
 ·refine E_seq (E_region (EL_pur (v := fPtr p1 0) (P_fieldAddr at_28_0 rfl (PT.ptr q1)) .plain rfl ?_))
  have q8 := PT_field (part_FaultLoom_0).1 q1
  refine EL_do .plain rfl (D_load (g := g1) Try.isAgg24 Try.sizeOf24 rfl q8 fun v9 r9 => ?_)
  obtain ⟨y11, j2, h⟩ := bsome h
  refine EL_do .plain rfl (D_call (g := g1) (vs := [v9]) en66 (.cons rfl .nil) (wk66 r9 j2) fun z2 u3 i4 hs hr => ?_)
  have hfr := hfr.ext hs
  have q1 := q1.ext hs
  subst hr
  refine EL_at (.int .i64 (y11)) rfl rfl ?_
  refine EL_nil (thn_n (E_seq (E_region (EL_mw (.int .i64 (y11)) rfl rfl ?_))))
  refine EL_in (.bool ((y11 != (0 : Int)))) rfl rfl rfl rfl ?_
  refine EL_nil (thn_n ?_)
  rcases csome h with ⟨o0, h⟩ | ⟨o0, h⟩
  ·refine E_ct o0 rfl ?_
   refine E_seq (E_region (EL_mw (.int .i64 (y11)) rfl rfl ?_))
   refine EL_at (.int .i64 (y11)) rfl rfl ?_
   refine EL_nil (thn_n (E_ret (thn_r ?_)))
   obtain rfl := sinj h
   exact end1 rfl rfl (show _ = .int .i64 (y11) from rfl) ⟨_, hfr, rfl⟩
  ·refine E_cf o0 rfl ?_
   exact E_skip (thn_n (s2 () _ _ ⟨z2, hfr, rfl, q1⟩ h))
 ·rintro _ z3 j4 ⟨z1, hfr, i1, j0⟩ h
  refine E_joinC h (fun (s : Unit) e w => ∃ (g : Gh) , Fr gI wI g w ∧ e 1 = p1 ∧ PT g.m w (x0 : FaultLoom) p1) (fun X19 k19 m2 h => ?_) ?_
  ·refine E_seq (E_region (EL_pur (v := fPtr p1 2) (P_fieldAddr at_28_1 i1 (PT.ptr j0)) .plain rfl ?_))
   have d3 := PT_field (part_FaultLoom_1).1 j0
   refine EL_do .plain rfl (D_load (g := z1) Try.isAgg26 Try.sizeOf26 rfl d3 fun i3 j3 => ?_)
   obtain ⟨y23, p2, h⟩ := bsome h
   refine EL_do .plain rfl (D_call (g := z1) (vs := [i3]) en67 (.cons rfl .nil) (wk67 j3 p2) fun m3 c4 m4 hs hr => ?_)
   have hfr := hfr.ext hs
   have j0 := j0.ext hs
   subst hr
   refine EL_at (.int .i64 (y23)) rfl rfl ?_
   refine EL_nil (thn_n (E_seq (E_region (EL_mw (.int .i64 (y23)) rfl rfl ?_))))
   refine EL_in (.bool ((y23 != (0 : Int)))) rfl rfl rfl rfl ?_
   refine EL_nil (thn_n ?_)
   rcases csome h with ⟨u0, h⟩ | ⟨u0, h⟩
   ·refine E_ct u0 rfl ?_
    refine E_seq (E_region (EL_mw (.int .i64 (y23)) rfl rfl ?_))
    refine EL_at (.int .i64 (y23)) rfl rfl ?_
    refine EL_nil (thn_n (E_ret (thn_r ?_)))
    obtain rfl := sinj h
    exact end1 rfl rfl (show _ = .int .i64 (y23) from rfl) ⟨_, hfr, rfl⟩
   ·refine E_cf u0 rfl ?_
    exact E_skip (thn_n (m2 () _ _ ⟨m3, hfr, i1, j0⟩ h))
  ·rintro _ d4 n4 ⟨m1, hfr, j1, n0⟩ h
   refine E_joinC h (fun (s : Unit) e w => ∃ (g : Gh) , Fr gI wI g w) (fun X33 k33 q2 h => ?_) ?_
   ·refine E_seq (E_region (EL_pur (v := fPtr p1 0) (P_fieldAddr at_28_0 j1 (PT.ptr n0)) .plain rfl ?_))
    have d2 := PT_field (part_FaultLoom_0).1 n0
    refine EL_pur (v := fPtr (fPtr p1 0) 0) (P_fieldAddr at_24_0 rfl (PT.ptr d2)) .plain rfl ?_
    have o3 := PT_field (part_TieHarness_0).1 d2
    refine EL_do .plain rfl (D_load (g := m1) Try.isAgg3 Try.sizeOf3 rfl o3 fun o4 p3 => ?_)
    obtain rfl := RV_int.1 p3
    refine EL_pur (v := fPtr p1 2) (P_fieldAddr at_28_1 j1 (PT.ptr n0)) .plain rfl ?_
    have i2 := PT_field (part_FaultLoom_1).1 n0
    refine EL_pur (v := fPtr (fPtr p1 2) 0) (P_fieldAddr at_26_0 rfl (PT.ptr i2)) .plain rfl ?_
    have q3 := PT_field (part_Design_0).1 i2
    refine EL_do .plain rfl (D_load (g := m1) Try.isAgg3 Try.sizeOf3 rfl q3 fun p4 s3 => ?_)
    obtain rfl := RV_int.1 s3
    refine EL_in (.bool ((((x0).Harness).Hooks != ((x0).Design).Hooks))) rfl rfl rfl rfl ?_
    refine EL_nil (thn_n ?_)
    rcases csome h with ⟨y0, h⟩ | ⟨y0, h⟩
    ·refine E_ct y0 rfl ?_
     refine E_seq (E_region (EL_at (.int .i64 (4)) rfl rfl ?_))
     refine EL_nil (thn_n (E_ret (thn_r ?_)))
     obtain rfl := sinj h
     exact end1 rfl rfl (show _ = .int .i64 (4) from rfl) ⟨_, hfr, rfl⟩
    ·refine E_cf y0 rfl ?_
     exact E_skip (thn_n (q2 () _ _ ⟨m1, hfr⟩ h))
   ·rintro _ e4 q4 ⟨s4, hfr⟩ h
    refine E_seq (E_region (EL_at (.int .i64 (0)) rfl rfl ?_))
    refine EL_nil (thn_n (E_ret ?_))
    obtain rfl := sinj h
    exact end1 rfl rfl (show _ = .int .i64 (0) from rfl) ⟨_, hfr, rfl⟩
theorem v103_0 {iO : Nat} {gI : Gh} {wI : World} {x0 : Int} {x1 : Int}  {r : (List Bool)} (h : f103 x0 x1 = some r) : FnG Try.prog 103 #[.int .i64 (x0), .int .i64 (x1)] gI wI (fun g w v => OM iO g w 4 (r) v) := by
 unfold f103 at h
 refine fnG_of_E Try.func103 rfl (Nat.le_of_ble_eq_true rfl) fun g0 hm hfr => ?_
 show E _ 22 none _ _ _ _ _
 refine E_seq (E_region (EL_at (.slice none 0 0) rfl rfl ?_))
 refine EL_nil (thn_n (E_seq (E_region (EL_do .plain rfl (D_buildSlice (g := g0) 3007 (xs := ([] : List Bool)) (vs := []) Try.underlying110 Try.sizeOf4 Try.zeroValue4 rfl rfl .nil RVs.nil rfl rfl fun g1 w1 v1 hs o1 r1 hxt hfl => ?_)))))
 have hfr := hfr.stp hs
 refine EL_at v1 rfl rfl ?_
 refine EL_nil (thn_n ?_)
 obtain ⟨j1, hx, h⟩ := bsome h
 refine E_join (fun e w => ∃ (g : Gh) (v5 : Value), Fr gI wI g w ∧ e 5 = v5 ∧ RV g.m w (j1 : List Bool) v5 ∧ OS 3007 g w 4 (j1 : List Bool) v5) (fun Q' hQ => ?_) (fun l5 p5 hR => ?_)
 ·replace h := hx
  clear hx
  refine E_seq (E_region (EL_at (.int .i64 (0)) rfl rfl ?_))
  refine EL_nil (thn_n (E_block ?_))
  refine E_lp h (fun (s : Int × (List Bool) × Int) e w => ∃ (g : Gh) (v5 : Value), Fr gI wI g w ∧ e 0 = .int .i64 (s.1) ∧ e 1 = .int .i64 (x1) ∧ e 5 = v5 ∧ RV g.m w (s.2.1 : List Bool) v5 ∧ OS 3007 g w 4 (s.2.1 : List Bool) v5 ∧ e 6 = .int .i64 (s.2.2)) ⟨g1, (v1), hfr, rfl, rfl, rfl, r1, o1, rfl⟩ (fun X19 k19 p4 => ?_)
  rintro ⟨d3, m1, j0⟩ m5 q5 ⟨m4, n0, hfr, i3, z1, d2, i2, j2, m2⟩ h
  refine E_joinC h (fun (s : Unit) e w => ∃ (g : Gh) , Fr gI wI g w ∧ e 0 = .int .i64 (d3) ∧ e 1 = .int .i64 (x1) ∧ e 5 = n0 ∧ RV g.m w (m1 : List Bool) n0 ∧ OS 3007 g w 4 (m1 : List Bool) n0 ∧ e 6 = .int .i64 (j0)) (fun X22 t5 q4 h => ?_) ?_
  ·refine E_seq (E_region (EL_mv m2 rfl ?_))
   refine EL_mv z1 rfl ?_
   refine EL_in (.bool ((decide (j0 < x1)))) rfl rfl rfl rfl ?_
   refine EL_nil (thn_n ?_)
   rcases csome h with ⟨i1, h⟩ | ⟨i1, h⟩
   ·refine E_ct i1 rfl ?_
    exact E_skip (thn_n (q4 () _ _ ⟨m4, hfr, i3, z1, d2, i2, j2, m2⟩ h))
   ·refine E_cf i1 rfl ?_
    refine E_exit ?_
    refine thn_e ?_
    refine thn_e ?_
    refine blk_hit ?_
    obtain rfl := sinj h
    exact hQ _ _ ⟨m4, (n0), hfr, d2, i2, j2⟩
  ·rintro _ n5 u5 ⟨z4, hfr, p2, j3, m3, o0, u0, o3⟩ h
   obtain ⟨⟨q2, y0⟩, hx, h⟩ := bsome h
   refine E_join (fun e w => ∃ (g : Gh) (v5 : Value), Fr gI wI g w ∧ e 0 = .int .i64 (q2) ∧ e 1 = .int .i64 (x1) ∧ e 5 = v5 ∧ RV g.m w (y0 : List Bool) v5 ∧ OS 3007 g w 4 (y0 : List Bool) v5 ∧ e 6 = .int .i64 (j0)) (fun Q' hQ => ?_) (fun o5 x5 hR => ?_)
   ·replace h := hx
    clear hx
    refine E_block ?_
    refine E_seq (E_region (EL_mv m3 rfl ?_))
    refine EL_mv p2 rfl ?_
    obtain ⟨s2, s4, h⟩ := bsome h
    refine EL_pur (v := .int .i64 (s2)) (P_int rfl rfl (congrArg (Option.map (Value.int .i64)) s4)) .plain rfl ?_
    refine EL_in (.bool ((s2 == (1 : Int)))) rfl rfl rfl rfl ?_
    refine EL_do .plain rfl (D_buildSlice (g := z4) 3017 (xs := ([(s2 == (1 : Int))] : List Bool)) (vs := [.bool ((s2 == (1 : Int)))]) Try.underlying110 Try.sizeOf4 Try.zeroValue4 rfl rfl (.cons rfl .nil) (RVs.cons (RV_bool.2 rfl) RVs.nil) rfl rfl fun c5 y5 z5 hs o31 d5 hxt hfl => ?_)
    have hfr := hfr.stp hs
    have o0 := o0.stp hs
    have u0 := u0.stp hs rfl
    obtain ⟨a6, u4, h⟩ := bsome h
    refine EL_do .plain rfl (D_append (g := c5) (i := 3007) Try.underlying110 info_4 rfl rfl u0 o0 rfl d5 u4 fun e5 b6 n4 hs o32 i5 _ => ?_)
    have hfr := hfr.stp hs
    refine EL_at n4 rfl rfl ?_
    refine EL_nil (thn_n (E_region (EL_mv p2 rfl ?_)))
    obtain ⟨o4, x4, h⟩ := bsome h
    refine EL_pur (v := .int .i64 (o4)) (P_int rfl rfl (congrArg (Option.map (Value.int .i64)) x4)) .plain rfl ?_
    refine EL_at (.int .i64 (o4)) rfl rfl ?_
    refine EL_nil (blk_n ?_)
    obtain ⟨rfl, rfl⟩ := pairs2 h
    exact hQ _ _ ⟨e5, (n4), hfr, rfl, j3, rfl, i5, o32, o3⟩
   ·clear hx
    obtain ⟨j5, p3, hfr, q3, s3, u3, z3, c4, d4⟩ := hR
    refine E_region (EL_mv d4 rfl ?_)
    refine EL_in (.int .i64 ((w64 (j0 + (1 : Int))))) rfl rfl rfl rfl ?_
    refine EL_at (.int .i64 ((w64 (j0 + (1 : Int))))) rfl rfl ?_
    exact EL_nil (thn_n (p4 (q2, y0, (w64 (j0 + (1 : Int)))) _ _ ⟨j5, (p3), hfr, q3, s3, u3, z3, c4, rfl⟩ h))
 ·clear hx
  obtain ⟨c6, z2, hfr, e4, i4, j4⟩ := hR
  refine E_seq (E_region (EL_mv e4 rfl ?_))
  refine EL_at z2 rfl rfl ?_
  refine EL_nil (thn_n (E_ret ?_))
  obtain rfl := sinj h
  obtain ⟨gh, hxh, homh⟩ := OM.hand (i := iO) plain_bool hfr j4 i4
  exact end1 rfl rfl (show _ = z2 from rfl) ⟨gh, hxh, homh⟩
/-- griffe/fault.within -/
def f62 (x0 : Int) (x1 : Int) (x2 : List Int) : Option (Bool) :=
 (f87 x2 ((fun a0 => f88 a0 x0 x1))).bind fun y4 =>
 some ((!y4))
theorem en62 : Enters Try.prog 62 := enters_of Try.func62 (by kernel_rfl) rfl
theorem wk62 {gI : Gh} {wI : World} {x0 : Int} {x1 : Int} {x2 : List Int} {up2 : Value} (rp2 : RV gI.m wI x2 up2) {r : Bool} (h : f62 x0 x1 x2 = some r) : Fn Try.prog 62 #[.int .i64 (x0), .int .i64 (x1), up2] gI wI (fun _ _ v => v = .bool (r)) := by
 unfold f62 at h
 refine fn_of_E Try.func62 rfl (Nat.le_of_ble_eq_true rfl) fun g0 hm hfr => ?_
 have rp2 : RV g0.m wI x2 up2 := hm ▸ rp2
 show E _ 11 none _ _ _ _ _
 refine E_seq (E_region (EL_do .plain rfl (D_box (g := g0) rfl (RV_int.2 rfl) fun g1 w1 p1 hs q1 => ?_)))
 have hfr := hfr.ext hs
 have rp2 := rp2.ext hs
 refine EL_do .plain rfl (D_box (g := g1) rfl (RV_int.2 rfl) fun g2 w2 p2 hs q2 => ?_)
 have hfr := hfr.ext hs
 have rp2 := rp2.ext hs
 have q1 := q1.ext hs
 refine EL_at (.bool false) rfl rfl ?_
 refine EL_nil (thn_n (E_seq (E_region (EL_mw up2 rfl rfl ?_))))
 refine EL_pur (v := (.func (.func 88) #[] #[p1, p2])) (P_makeFunc (capf_0_2 (show ev _ _ = p1 from rfl) (show ev _ _ = p2 from rfl))) .plain rfl ?_
 obtain ⟨y4, j0, h⟩ := bsome h
 refine EL_do .plain rfl (D_call (g := g2) (vs := [up2, (.func (.func 88) #[] #[p1, p2])]) en87 (.cons rfl (.cons rfl .nil)) (wk87 rp2 ⟨88, #[], #[p1, p2], rfl, en88, fun g' w' hch a0 b0 r hu0 hr => by obtain rfl := RV_int.1 hu0; exact Fn.mono (wk88  (q1.ch hch) (q2.ch hch) hr) fun _ _ _ h => RV_bool.2 h⟩ j0) fun g3 w3_ v3 hs hr => ?_)
 have hfr := hfr.ext hs
 subst hr
 refine EL_pur (v := .bool (!y4)) (P_not rfl) .plain rfl ?_
 refine EL_at (.bool (!y4)) rfl rfl ?_
 refine EL_nil (thn_n (E_ret ?_))
 obtain rfl := sinj h
 exact end1 rfl rfl (show _ = .bool (!y4) from rfl) ⟨_, hfr, rfl⟩
theorem v85_0 {iO jO : Nat} {gI : Gh} {wI : World} {x0 : Design} {up0 : Value} (rp0 : RV gI.m wI x0 up0) {r : (List (List Bool))} (h : f85 x0 = some r) : FnG Try.prog 85 #[up0] gI wI (fun g w v => NS (RM (α := Bool) 4) iO jO g w 110 r v) := by
 unfold f85 at h
 refine fnG_of_E Try.func85 rfl (Nat.le_of_ble_eq_true rfl) fun g0 hm hfr => ?_
 have rp0 : RV g0.m wI x0 up0 := hm ▸ rp0
 show E _ 25 none _ _ _ _ _
 refine E_seq (E_region (EL_do .plain rfl (D_box (g := g0) rfl rp0 fun g1 w1 p1 hs q1 => ?_)))
 have hfr := hfr.ext hs
 refine EL_at (.slice none 0 0) rfl rfl ?_
 refine EL_nil (thn_n (E_seq (E_region (EL_do .plain rfl (D_buildSlice (g := g1) 3005 (xs := ([] : List (List Bool))) (vs := []) Try.underlying108 Try.sizeOf110 Try.zeroValue110 rfl rfl .nil RVs.nil rfl rfl fun g2 w2 v2 hs o2 r2 hxt hfl => ?_)))))
 have hfr := hfr.stp hs
 have q1 := q1.stp hs
 refine EL_at v2 rfl rfl ?_
 have b3 := RO.ofOS o2
 have c3 : Pool (RM (α := Bool) 4) 9503 g2 w2 [] [] none := Pool.nil
 refine EL_nil (thn_n ?_)
 obtain ⟨j3, hx, h⟩ := bsome h
 refine E_join (fun e w => ∃ (g : Gh) (v3 : Value), Fr gI wI g w ∧ e 3 = v3 ∧ NS (RM (α := Bool) 4) 3005 9503 g w 110 (j3 : List (List Bool)) v3) (fun Q' hQ => ?_) (fun c6 j6 hR => ?_)
 ·replace h := hx
  clear hx
  refine E_seq (E_region (EL_at (.int .i64 (0)) rfl rfl ?_))
  refine EL_nil (thn_n (E_block ?_))
  refine E_lp h (fun (s : (List (List Bool)) × Int) e w => ∃ (g : Gh) (v3 : Value), Fr gI wI g w ∧ e 1 = p1 ∧ PT g.m w (x0 : Design) p1 ∧ e 3 = v3 ∧ NS (RM (α := Bool) 4) 3005 9503 g w 110 (s.1 : List (List Bool)) v3 ∧ e 4 = .int .i64 (s.2)) ⟨g2, (v2), hfr, rfl, q1, rfl, ⟨_, b3, c3⟩, rfl⟩ (fun X67 v6 d5 => ?_)
  rintro ⟨p4, n0⟩ k6 x6 ⟨m3, u0, hfr, m2, y0, p2, ⟨d6, q2, s2⟩, z2⟩ h
  refine E_joinC h (fun (s : Unit) e w => ∃ (g : Gh) , Fr gI wI g w ∧ e 1 = p1 ∧ PT g.m w (x0 : Design) p1 ∧ e 3 = u0 ∧ NS (RM (α := Bool) 4) 3005 9503 g w 110 (p4 : List (List Bool)) u0 ∧ e 4 = .int .i64 (n0)) (fun X72 y6 e5 h => ?_) ?_
  ·refine E_seq (E_region (EL_mv z2 rfl ?_))
   refine EL_pur (v := fPtr p1 1) (P_fieldAddr at_26_1 m2 (PT.ptr y0)) .plain rfl ?_
   have x5 := PT_field (part_Design_1).1 y0
   refine EL_do .plain rfl (D_load (g := m3) Try.isAgg22 Try.sizeOf22 rfl x5 fun z6 y5 => ?_)
   refine EL_pur (v := .int .i64 (((x0).Rows).length : Int)) (P_len Try.underlying22 rfl y5) .plain rfl ?_
   refine EL_pur (v := .bool ((decide (n0 < (((x0).Rows).length : Int))))) (P_int rfl rfl rfl) .plain rfl ?_
   refine EL_nil (thn_n ?_)
   rcases csome h with ⟨j2, h⟩ | ⟨j2, h⟩
   ·refine E_ct j2 rfl ?_
    exact E_skip (thn_n (e5 () _ _ ⟨m3, hfr, m2, y0, p2, ⟨_, q2, s2⟩, z2⟩ h))
   ·refine E_cf j2 rfl ?_
    refine E_exit ?_
    refine thn_e ?_
    refine thn_e ?_
    refine blk_hit ?_
    obtain rfl := sinj h
    exact hQ _ _ ⟨m3, (u0), hfr, p2, ⟨_, q2, s2⟩⟩
  ·rintro _ l6 a7 ⟨z5, hfr, i1, j0, q4, ⟨e6, j1, m1⟩, d3⟩ h
   obtain ⟨d2, hx, h⟩ := bsome h
   refine E_join (fun e w => ∃ (g : Gh) (v3 : Value), Fr gI wI g w ∧ e 1 = p1 ∧ PT g.m w (x0 : Design) p1 ∧ e 3 = v3 ∧ NS (RM (α := Bool) 4) 3005 9503 g w 110 (d2 : List (List Bool)) v3 ∧ e 4 = .int .i64 (n0)) (fun Q' hQ => ?_) (fun i6 m6 hR => ?_)
   ·replace h := hx
    clear hx
    refine E_block ?_
    have i5 := PT_field (part_Design_1).1 j0
    refine L_load (x := .tmp 14) Try.isAgg22 Try.sizeOf22 i5 fun o3 p3 s4 => ?_
    obtain ⟨q3, i3, h⟩ := bsome h
    have j5 := PT_idx p3 i3
    refine L_load (x := .tmp 17) Try.isAgg3 Try.sizeOf3 j5 fun n6 l5 u4 => ?_
    obtain rfl := RV_int.1 l5
    have m5 := PT_field (part_Design_0).1 j0
    refine L_load (x := .tmp 19) Try.isAgg3 Try.sizeOf3 m5 fun o6 n5 x4 => ?_
    obtain rfl := RV_int.1 n5
    obtain ⟨o0, z4, h⟩ := bsome h
    refine E_drawL (g := z5) (n := 10) [(8, (fun v g w => OM 9721 g w 4 o0 v)), (9, (fun v g w => ∃ q : Fv, OM 9721 g w 4 o0 q.v ∧ RV g.m w [q] v))] [0, 1, 2, 3, 4, 5, 6, 7, 8, 9] rfl mixed (by kernel_rfl) (⟨fun _ => up_om, fun _ => up_row, trivial⟩) ?_
    refine L_pur (c := u0) rfl rfl .plain (fun _ _ hd => P_move q4) ?_
    refine L_pur (c := fPtr p1 1) rfl rfl .plain (fun _ _ hd => P_fieldAddr at_26_1 i1 (PT.ptr j0)) ?_
    refine L_ld (c := o3) rfl rfl .plain (fun _ _ h => h.ch) s4 rfl ?_
    refine L_pur (c := .int .i64 (n0)) rfl rfl .plain (fun _ _ hd => P_move d3) ?_
    refine L_pur (c := ePtr o3 n0 1) rfl rfl .plain (fun _ _ hd => P_indexAddr (α := Int) Try.underlying22 Try.sizeOf3 rfl p3 rfl i3) ?_
    refine L_ld (c := .int .i64 (q3)) rfl rfl .plain (fun _ _ h => h.ch) u4 rfl ?_
    refine L_pur (c := fPtr p1 0) rfl rfl .plain (fun _ _ hd => P_fieldAddr at_26_0 i1 (PT.ptr j0)) ?_
    refine L_ld (c := .int .i64 ((x0).Hooks)) rfl rfl .plain (fun _ _ h => h.ch) x4 rfl ?_
    refine L_do (φ := fun v g w => OM 9721 g w 4 o0 v) rfl rfl .plain (fun g w hd => D_callG (g := g) (vs := [.int .i64 (q3), .int .i64 ((x0).Hooks)]) en103 (.cons rfl (.cons rfl .nil)) (v103_0 (iO := 9721)  z4) fun g' w' v hs hr => ⟨g', hs, hr⟩) (fun z1 hv => ?_)
    obtain ⟨_, _, _, rq110⟩ := hv
    have one110 := K_one (rowM (α := Bool) 4) rq110
    refine L_do (φ := fun v g w => ∃ q : Fv, OM 9721 g w 4 o0 q.v ∧ RV g.m w [q] v) rfl rfl .plain (fun g w hd => D_buildSlice (g := g) 3022 (xs := ([⟨z1, one110⟩] : List Fv)) (vs := [z1]) Try.underlying108 Try.sizeOf110 Try.zeroValue110 rfl rfl (.cons rfl .nil) (RVs.cons (RV_fv.2 rfl) RVs.nil) rfl rfl fun g' w' v hs o r hxt hfl => ⟨g', hxt, ⟨z1, one110⟩, OM.ext (word (A := fun g w => OM 9721 g w 4 o0 z1) 8 rfl rfl (deps_of hd)) hxt, r⟩) (fun o5 hv => ?_)
    clear hv
    refine L_nil fun p5 p6 hall => ?_
    have hs := hall.1
    have hfr := hfr.ext hs
    have j0 := j0.ext hs
    have j1 := j1.ext hs
    have m1 := m1.ext (rowM _) hs
    obtain ⟨q5, b126, t5⟩ := (word_all (A := fun g w => ∃ q : Fv, OM 9721 g w 4 o0 q.v ∧ RV g.m w [q] o5) 9 rfl hall)
    clear hs hall
    obtain ⟨q6, c5, h⟩ := bsome h
    refine EL_do .plain rfl (D_appendN (g := p5) (R := (RM (α := Bool) 4)) (i := 3005) (j := 9503) (j' := 9721) (rowM _) q5 Try.underlying108 info_110 rfl rfl ⟨_, j1, m1⟩ rfl t5 b126 c5 rfl rfl rfl rfl fun r6 s6 s3 ga127 hs hs2 bb127 => ?_)
    have hfr := hfr.stp hs
    have j0 := j0.stp hs
    have hfr := hfr.stp hs2
    have j0 := j0.stp hs2
    obtain ⟨t6, b127, c127⟩ := bb127
    clear hs hs2
    refine EL_at s3 rfl rfl ?_
    refine EL_nil (blk_n ?_)
    obtain rfl := sinj h
    exact hQ _ _ ⟨ga127, (s3), hfr, i1, j0, rfl, ⟨_, b127, c127⟩, d3⟩
   ·clear hx
    obtain ⟨u5, u3, hfr, z3, c4, d4, ⟨a6, e4, i4⟩, j4⟩ := hR
    refine E_region (EL_mv j4 rfl ?_)
    refine EL_in (.int .i64 ((w64 (n0 + (1 : Int))))) rfl rfl rfl rfl ?_
    refine EL_at (.int .i64 ((w64 (n0 + (1 : Int))))) rfl rfl ?_
    exact EL_nil (thn_n (d5 (d2, (w64 (n0 + (1 : Int)))) _ _ ⟨u5, (u3), hfr, z3, c4, d4, ⟨_, e4, i4⟩, rfl⟩ h))
 ·clear hx
  obtain ⟨u6, i2, hfr, m4, ⟨b6, n4, o4⟩⟩ := hR
  refine E_seq (E_region (EL_mv m4 rfl ?_))
  refine EL_at i2 rfl rfl ?_
  refine EL_nil (thn_n (E_ret ?_))
  obtain rfl := sinj h
  obtain ⟨gh, hxh, homh⟩ := NS.hand (R := (RM (α := Bool) 4)) (i' := iO) (j' := jO) (rowM _) hfr ⟨_, n4, o4⟩ rfl
  exact end1 rfl rfl (show _ = i2 from rfl) ⟨gh, hxh, homh⟩
/-- griffe/tie.Check -/
def f73 (x0 : TieHarness) : Option (Int) :=
 jn (σ := Unit) (fun (_ : Unit) =>
  some ((0 : Int))
  ) fun m1 =>
 (f94 ((1 : Int)) ((24 : Int)) (([(x0).Hooks] : List Int))).bind fun i1 =>
 bif (!i1) then
  some ((2 : Int))
 else
  bif (decide ((((x0).Warps).length : Int) > (96 : Int))) then
   some ((5 : Int))
  else
   bif ((((x0).Warps).length : Int) == (0 : Int)) then
    some ((7 : Int))
   else
    (f94 ((0 : Int)) ((w64 ((x0).Hooks - (1 : Int)))) ((x0).Warps)).bind fun j1 =>
    bif (!j1) then
     some ((2 : Int))
    else
     m1 ()
theorem en73 : Enters Try.prog 73 := enters_of Try.func73 (by kernel_rfl) rfl
theorem wk73 {gI : Gh} {wI : World} {x0 : TieHarness} {up0 : Value} (rp0 : RV gI.m wI x0 up0) {r : Int} (h : f73 x0 = some r) : Fn Try.prog 73 #[up0] gI wI (fun _ _ v => v = .int .i64 (r)) := by
 unfold f73 at h
 refine fn_of_E Try.func73 rfl (Nat.le_of_ble_eq_true rfl) fun g0 hm hfr => ?_
 have rp0 : RV g0.m wI x0 up0 := hm ▸ rp0
 show E _ 27 none _ _ _ _ _
 refine E_seq (E_region (EL_do .plain rfl (D_box (g := g0) rfl rp0 fun g1 w1 p1 hs q1 => ?_)))
 have hfr := hfr.ext hs
 refine EL_at (.int .i64 (0)) rfl rfl ?_
 refine EL_nil (thn_n (E_joinC h (fun (s : Unit) e w => ∃ (g : Gh) , Fr gI wI g w) (fun X21 m1 z1 h => ?_) ?_))
 ·refine E_block ?_
  refine E_seq (E_region (EL_pur (v := fPtr p1 0) (P_fieldAddr at_24_0 rfl (PT.ptr q1)) .plain rfl ?_))
  have j2 := PT_field (part_TieHarness_0).1 q1
  refine EL_do .plain rfl (D_load (g := g1) Try.isAgg3 Try.sizeOf3 rfl j2 fun e4 m2 => ?_)
  obtain rfl := RV_int.1 m2
  refine EL_do .plain rfl (D_buildSlice (g := g1) 3006 (xs := ([(x0).Hooks] : List Int)) (vs := [.int .i64 ((x0).Hooks)]) Try.underlying22 Try.sizeOf3 Try.zeroValue3 rfl rfl (.cons rfl .nil) (RVs.cons (RV_int.2 rfl) RVs.nil) rfl rfl fun p2 i4 q2 hs o24 s2 hxt hfl => ?_)
  have hfr := hfr.stp hs
  have q1 := q1.stp hs
  obtain ⟨i1, d2, h⟩ := bsome h
  refine EL_do .plain rfl (D_call (g := p2) (vs := [.int .i64 (1), .int .i64 (24), q2]) en94 (.cons rfl (.cons rfl (.cons rfl .nil))) (wk94 s2 d2) fun j0 z3 j4 hs hr => ?_)
  have hfr := hfr.ext hs
  have q1 := q1.ext hs
  subst hr
  refine EL_pur (v := .bool (!i1)) (P_not rfl) .plain rfl ?_
  refine EL_at (.bool (!i1)) rfl rfl ?_
  refine EL_nil (thn_n ?_)
  rcases csome h with ⟨n0, h⟩ | ⟨n0, h⟩
  ·refine E_ct n0 rfl ?_
   refine E_seq (E_region (EL_at (.int .i64 (2)) rfl rfl ?_))
   refine EL_nil (thn_n (E_ret (blk_r ?_)))
   refine thn_r ?_
   obtain rfl := sinj h
   exact end1 rfl rfl (show _ = .int .i64 (2) from rfl) ⟨_, hfr, rfl⟩
  ·refine E_cf n0 rfl ?_
   refine E_seq (E_region (EL_pur (v := fPtr p1 1) (P_fieldAddr at_24_1 rfl (PT.ptr q1)) .plain rfl ?_))
   have z2 := PT_field (part_TieHarness_1).1 q1
   refine EL_do .plain rfl (D_load (g := j0) Try.isAgg22 Try.sizeOf22 rfl z2 fun m4 d3 => ?_)
   refine EL_pur (v := .int .i64 (((x0).Warps).length : Int)) (P_len Try.underlying22 rfl d3) .plain rfl ?_
   refine EL_pur (v := .bool ((decide ((((x0).Warps).length : Int) > (96 : Int))))) (P_int rfl rfl rfl) .plain rfl ?_
   refine EL_pur (v := .bool ((decide ((((x0).Warps).length : Int) > (96 : Int))))) (P_assign rfl) .plain rfl ?_
   refine EL_nil (thn_n ?_)
   rcases csome h with ⟨o0, h⟩ | ⟨o0, h⟩
   ·refine E_ct o0 rfl ?_
    refine E_seq (E_region (EL_at (.int .i64 (5)) rfl rfl ?_))
    refine EL_nil (thn_n (E_ret (blk_r ?_)))
    refine thn_r ?_
    obtain rfl := sinj h
    exact end1 rfl rfl (show _ = .int .i64 (5) from rfl) ⟨_, hfr, rfl⟩
   ·refine E_cf o0 rfl ?_
    refine E_seq (E_region (EL_pur (v := fPtr p1 1) (P_fieldAddr at_24_1 rfl (PT.ptr q1)) .plain rfl ?_))
    have i3 := PT_field (part_TieHarness_1).1 q1
    refine EL_do .plain rfl (D_load (g := j0) Try.isAgg22 Try.sizeOf22 rfl i3 fun n4 j3 => ?_)
    refine EL_pur (v := .int .i64 (((x0).Warps).length : Int)) (P_len Try.underlying22 rfl j3) .plain rfl ?_
    refine EL_in (.bool (((((x0).Warps).length : Int) == (0 : Int)))) rfl rfl rfl rfl ?_
    refine EL_at (.bool (((((x0).Warps).length : Int) == (0 : Int)))) rfl rfl ?_
    refine EL_nil (thn_n ?_)
    rcases csome h with ⟨u0, h⟩ | ⟨u0, h⟩
    ·refine E_ct u0 rfl ?_
     refine E_seq (E_region (EL_at (.int .i64 (7)) rfl rfl ?_))
     refine EL_nil (thn_n (E_ret (blk_r ?_)))
     refine thn_r ?_
     obtain rfl := sinj h
     exact end1 rfl rfl (show _ = .int .i64 (7) from rfl) ⟨_, hfr, rfl⟩
    ·refine E_cf u0 rfl ?_
     refine E_seq (E_region (EL_pur (v := fPtr p1 0) (P_fieldAddr at_24_0 rfl (PT.ptr q1)) .plain rfl ?_))
     have m3 := PT_field (part_TieHarness_0).1 q1
     refine EL_do .plain rfl (D_load (g := j0) Try.isAgg3 Try.sizeOf3 rfl m3 fun o4 o3 => ?_)
     obtain rfl := RV_int.1 o3
     refine EL_in (.int .i64 ((w64 ((x0).Hooks - (1 : Int))))) rfl rfl rfl rfl ?_
     refine EL_pur (v := fPtr p1 1) (P_fieldAddr at_24_1 rfl (PT.ptr q1)) .plain rfl ?_
     have p3 := PT_field (part_TieHarness_1).1 q1
     refine EL_do .plain rfl (D_load (g := j0) Try.isAgg22 Try.sizeOf22 rfl p3 fun q3 s3 => ?_)
     obtain ⟨j1, i2, h⟩ := bsome h
     refine EL_do .plain rfl (D_call (g := j0) (vs := [.int .i64 (0), .int .i64 ((w64 ((x0).Hooks - (1 : Int)))), q3]) en94 (.cons rfl (.cons rfl (.cons rfl .nil))) (wk94 s3 i2) fun u3 c4 p4 hs hr => ?_)
     have hfr := hfr.ext hs
     subst hr
     refine EL_pur (v := .bool (!j1)) (P_not rfl) .plain rfl ?_
     refine EL_at (.bool (!j1)) rfl rfl ?_
     refine EL_nil (thn_n ?_)
     rcases csome h with ⟨y0, h⟩ | ⟨y0, h⟩
     ·refine E_ct y0 rfl ?_
      refine E_seq (E_region (EL_at (.int .i64 (2)) rfl rfl ?_))
      refine EL_nil (thn_n (E_ret (blk_r ?_)))
      refine thn_r ?_
      obtain rfl := sinj h
      exact end1 rfl rfl (show _ = .int .i64 (2) from rfl) ⟨_, hfr, rfl⟩
     ·refine E_cf y0 rfl ?_
      exact E_skip (blk_n (thn_n (z1 () _ _ ⟨u3, hfr⟩ h)))
 ·rintro _ d4 q4 ⟨s4, hfr⟩ h
  refine E_seq (E_region (EL_at (.int .i64 (0)) rfl rfl ?_))
  refine EL_nil (thn_n (E_ret ?_))
  obtain rfl := sinj h
  exact end1 rfl rfl (show _ = .int .i64 (0) from rfl) ⟨_, hfr, rfl⟩
/-- griffe/point.Check -/
def f74 (x0 : Design) : Option (Int) :=
 jn (σ := Unit) (fun (_ : Unit) =>
  some ((0 : Int))
  ) fun z1 =>
 (f95 ((1 : Int)) ((24 : Int)) (([(x0).Hooks] : List Int))).bind fun j1 =>
 bif (!j1) then
  some ((2 : Int))
 else
  bif (decide ((((x0).Rows).length : Int) > (60 : Int))) then
   some ((5 : Int))
  else
   bif ((((x0).Rows).length : Int) == (0 : Int)) then
    some ((7 : Int))
   else
    (shl64 (1 : Int) (x0).Hooks).bind fun o0 =>
    (f95 ((0 : Int)) ((w64 (o0 - (1 : Int)))) ((x0).Rows)).bind fun j0 =>
    bif (!j0) then
     some ((2 : Int))
    else
     z1 ()
theorem en74 : Enters Try.prog 74 := enters_of Try.func74 (by kernel_rfl) rfl
theorem wk74 {gI : Gh} {wI : World} {x0 : Design} {up0 : Value} (rp0 : RV gI.m wI x0 up0) {r : Int} (h : f74 x0 = some r) : Fn Try.prog 74 #[up0] gI wI (fun _ _ v => v = .int .i64 (r)) := by
 unfold f74 at h
 refine fn_of_E Try.func74 rfl (Nat.le_of_ble_eq_true rfl) fun g0 hm hfr => ?_
 have rp0 : RV g0.m wI x0 up0 := hm ▸ rp0
 show E _ 28 none _ _ _ _ _
 refine E_seq (E_region (EL_do .plain rfl (D_box (g := g0) rfl rp0 fun g1 w1 p1 hs q1 => ?_)))
 have hfr := hfr.ext hs
 refine EL_at (.int .i64 (0)) rfl rfl ?_
 refine EL_nil (thn_n (E_joinC h (fun (s : Unit) e w => ∃ (g : Gh) , Fr gI wI g w) (fun X51 z1 i2 h => ?_) ?_))
 ·refine E_block ?_
  refine E_seq (E_region (EL_pur (v := fPtr p1 0) (P_fieldAddr at_26_0 rfl (PT.ptr q1)) .plain rfl ?_))
  have z2 := PT_field (part_Design_0).1 q1
  refine EL_do .plain rfl (D_load (g := g1) Try.isAgg3 Try.sizeOf3 rfl z2 fun o4 d3 => ?_)
  obtain rfl := RV_int.1 d3
  refine EL_do .plain rfl (D_buildSlice (g := g1) 3006 (xs := ([(x0).Hooks] : List Int)) (vs := [.int .i64 ((x0).Hooks)]) Try.underlying22 Try.sizeOf3 Try.zeroValue3 rfl rfl (.cons rfl .nil) (RVs.cons (RV_int.2 rfl) RVs.nil) rfl rfl fun i3 p4 j3 hs o54 m3 hxt hfl => ?_)
  have hfr := hfr.stp hs
  have q1 := q1.stp hs
  obtain ⟨j1, j2, h⟩ := bsome h
  refine EL_do .plain rfl (D_call (g := i3) (vs := [.int .i64 (1), .int .i64 (24), j3]) en95 (.cons rfl (.cons rfl (.cons rfl .nil))) (wk95 m3 j2) fun m1 j4 q4 hs hr => ?_)
  have hfr := hfr.ext hs
  have q1 := q1.ext hs
  subst hr
  refine EL_pur (v := .bool (!j1)) (P_not rfl) .plain rfl ?_
  refine EL_at (.bool (!j1)) rfl rfl ?_
  refine EL_nil (thn_n ?_)
  rcases csome h with ⟨u0, h⟩ | ⟨u0, h⟩
  ·refine E_ct u0 rfl ?_
   refine E_seq (E_region (EL_at (.int .i64 (2)) rfl rfl ?_))
   refine EL_nil (thn_n (E_ret (blk_r ?_)))
   refine thn_r ?_
   obtain rfl := sinj h
   exact end1 rfl rfl (show _ = .int .i64 (2) from rfl) ⟨_, hfr, rfl⟩
  ·refine E_cf u0 rfl ?_
   refine E_seq (E_region (EL_pur (v := fPtr p1 1) (P_fieldAddr at_26_1 rfl (PT.ptr q1)) .plain rfl ?_))
   have o3 := PT_field (part_Design_1).1 q1
   refine EL_do .plain rfl (D_load (g := m1) Try.isAgg22 Try.sizeOf22 rfl o3 fun s4 p3 => ?_)
   refine EL_pur (v := .int .i64 (((x0).Rows).length : Int)) (P_len Try.underlying22 rfl p3) .plain rfl ?_
   refine EL_pur (v := .bool ((decide ((((x0).Rows).length : Int) > (60 : Int))))) (P_int rfl rfl rfl) .plain rfl ?_
   refine EL_pur (v := .bool ((decide ((((x0).Rows).length : Int) > (60 : Int))))) (P_assign rfl) .plain rfl ?_
   refine EL_nil (thn_n ?_)
   rcases csome h with ⟨y0, h⟩ | ⟨y0, h⟩
   ·refine E_ct y0 rfl ?_
    refine E_seq (E_region (EL_at (.int .i64 (5)) rfl rfl ?_))
    refine EL_nil (thn_n (E_ret (blk_r ?_)))
    refine thn_r ?_
    obtain rfl := sinj h
    exact end1 rfl rfl (show _ = .int .i64 (5) from rfl) ⟨_, hfr, rfl⟩
   ·refine E_cf y0 rfl ?_
    refine E_seq (E_region (EL_pur (v := fPtr p1 1) (P_fieldAddr at_26_1 rfl (PT.ptr q1)) .plain rfl ?_))
    have q3 := PT_field (part_Design_1).1 q1
    refine EL_do .plain rfl (D_load (g := m1) Try.isAgg22 Try.sizeOf22 rfl q3 fun u4 s3 => ?_)
    refine EL_pur (v := .int .i64 (((x0).Rows).length : Int)) (P_len Try.underlying22 rfl s3) .plain rfl ?_
    refine EL_in (.bool (((((x0).Rows).length : Int) == (0 : Int)))) rfl rfl rfl rfl ?_
    refine EL_at (.bool (((((x0).Rows).length : Int) == (0 : Int)))) rfl rfl ?_
    refine EL_nil (thn_n ?_)
    rcases csome h with ⟨i1, h⟩ | ⟨i1, h⟩
    ·refine E_ct i1 rfl ?_
     refine E_seq (E_region (EL_at (.int .i64 (7)) rfl rfl ?_))
     refine EL_nil (thn_n (E_ret (blk_r ?_)))
     refine thn_r ?_
     obtain rfl := sinj h
     exact end1 rfl rfl (show _ = .int .i64 (7) from rfl) ⟨_, hfr, rfl⟩
    ·refine E_cf i1 rfl ?_
     refine E_seq ?_
     have u3 := PT_field (part_Design_0).1 q1
     refine L_load (x := .tmp 20) Try.isAgg3 Try.sizeOf3 u3 fun x4 z3 m2 => ?_
     obtain rfl := RV_int.1 z3
     obtain ⟨o0, p2, h⟩ := bsome h
     have c4 := PT_field (part_Design_1).1 q1
     refine L_load (x := .tmp 24) Try.isAgg22 Try.sizeOf22 c4 fun d2 d4 q2 => ?_
     obtain ⟨j0, s2, h⟩ := bsome h
     refine E_drawL (g := m1) (n := 9) [(6, (fun v g w => v = .bool (j0)))] [0, 1, 2, 3, 4, 5, 6, 7, 8] rfl mixed (by kernel_rfl) (⟨fun _ => up_eq _, trivial⟩) ?_
     refine L_pur (c := fPtr p1 0) rfl rfl .plain (fun _ _ hd => P_fieldAddr at_26_0 rfl (PT.ptr q1)) ?_
     refine L_ld (c := .int .i64 ((x0).Hooks)) rfl rfl .plain (fun _ _ h => h.ch) m2 rfl ?_
     refine L_pur (c := .int .i64 (o0)) rfl rfl .plain (fun _ _ hd => P_int rfl rfl (congrArg (Option.map (Value.int .i64)) p2)) ?_
     refine L_pur (c := .int .i64 ((w64 (o0 - (1 : Int))))) rfl rfl .plain (fun _ _ hd => P_int rfl rfl rfl) ?_
     refine L_pur (c := fPtr p1 1) rfl rfl .plain (fun _ _ hd => P_fieldAddr at_26_1 rfl (PT.ptr q1)) ?_
     refine L_ld (c := d2) rfl rfl .plain (fun _ _ h => h.ch) q2 rfl ?_
     refine L_do (φ := fun v g w => v = .bool (j0)) rfl rfl .plain (fun g w hd => D_call (g := g) (vs := [.int .i64 (0), .int .i64 ((w64 (o0 - (1 : Int)))), d2]) en95 (.cons rfl (.cons rfl (.cons rfl .nil))) (wk95 (d4.ext hd.1) s2) fun g' w' v hs hr => ⟨g', hs, hr⟩) (fun z4 hv => ?_)
     obtain ⟨_, _, _, rfl⟩ := hv
     refine L_pur (c := .bool (!j0)) rfl rfl .plain (fun _ _ hd => P_not rfl) ?_
     refine L_pur (c := .bool (!j0)) rfl rfl .plain (fun _ _ hd => P_assign rfl) ?_
     refine L_nil fun e4 c5 hall => ?_
     have hs := hall.1
     have hfr := hfr.ext hs
     clear hs hall
     refine EL_nil (thn_n ?_)
     rcases csome h with ⟨n0, h⟩ | ⟨n0, h⟩
     ·refine E_ct n0 rfl ?_
      refine E_seq (E_region (EL_at (.int .i64 (2)) rfl rfl ?_))
      refine EL_nil (thn_n (E_ret (blk_r ?_)))
      refine thn_r ?_
      obtain rfl := sinj h
      exact end1 rfl rfl (show _ = .int .i64 (2) from rfl) ⟨_, hfr, rfl⟩
     ·refine E_cf n0 rfl ?_
      exact E_skip (blk_n (thn_n (i2 () _ _ ⟨e4, hfr⟩ h)))
 ·rintro _ i4 m4 ⟨n4, hfr⟩ h
  refine E_seq (E_region (EL_at (.int .i64 (0)) rfl rfl ?_))
  refine EL_nil (thn_n (E_ret ?_))
  obtain rfl := sinj h
  exact end1 rfl rfl (show _ = .int .i64 (0) from rfl) ⟨_, hfr, rfl⟩
/-- griffe/tie.Weave -/
def f82 (x0 : TieHarness) (x1 : Design) : Option ((List Str) × Int) :=
 jn (σ := (List Str)) (fun s2 =>
  jn (σ := (List Str)) (fun e4 =>
   Option.bind (α := (List Str)) (
    lp (σ := (List Str) × Int) (fun e6 (z2, j0) =>
     bif (decide (j0 < (((x1).Rows).length : Int))) then
      Option.bind (α := (List Str)) (
       (idx ((x1).Rows) j0).bind fun m3 =>
       (f102 ((⟨x0⟩ : TieTieHarness)) m3).bind fun i4 =>
       (apnd 16 z2 (([i4] : List Str))).bind fun i6 =>
       some (i6)
       ) fun z1 =>
      e6 (z1, (w64 (j0 + (1 : Int))))
     else
      some (z2)
     ) big (e4, (0 : Int))
    ) fun j2 =>
   some (j2, (0 : Int))
   ) fun j6 =>
  (f74 x1).bind fun m1 =>
  bif (m1 != (0 : Int)) then
   some ([], m1)
  else
   bif ((x1).Hooks != (x0).Hooks) then
    some ([], (4 : Int))
   else
    j6 (s2)
  ) fun k7 =>
 (f73 x0).bind fun d2 =>
 bif (d2 != (0 : Int)) then
  some ([], d2)
 else
  k7 ([])
theorem en82 : Enters Try.prog 82 := enters_of Try.func82 (by kernel_rfl) rfl
end Go.Proofs.Ytpiaipiehjcflaa
