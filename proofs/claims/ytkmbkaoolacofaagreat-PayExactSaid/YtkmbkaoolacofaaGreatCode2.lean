import Derived.Test.YtkmbkaoolacofaaGreatCode1
set_option maxRecDepth 8000
set_option maxHeartbeats 4000000
namespace Go.Proofs.YtkmbkaoolacofaaGreat
open Go.RowKit
def f15 (x0 : PayList) : Option (Int) :=
 jn (σ := Unit) (fun _ =>
  some ((0 : Int))
  ) fun iA =>
 Option.bind (α := Bool) (
  bif (decide ((((x0).Rates).length : Int) > (6 : Int))) then
   some ((decide ((((x0).Rates).length : Int) > (6 : Int))))
  else
   some ((decide ((((x0).Extras).length : Int) > (8 : Int))))
  ) fun l5 =>
 bif l5 then
  some ((5 : Int))
 else
  Option.bind (α := Bool) (
   (f52 ((⟨x0⟩ : PayPayList))).bind fun l8 =>
   bif (!l8) then
    some ((!l8))
   else
    (f53 ((x0).Extras)).bind fun x5 =>
    bif (!x5) then
     some ((!x5))
    else
     (f54 ((0 : Int)) ((1000 : Int)) (([(x0).Fine] : List Int))).bind fun i6 =>
     bif (!i6) then
      some ((!i6))
     else
      (f53 (([(x0).Cap] : List Int))).bind fun i7 =>
      some ((!i7))
   ) fun u3 =>
  bif u3 then
   some ((2 : Int))
  else
   iA ()
theorem en15 : Enters Tryz.prog 15 := enters_of Tryz.func15 (by kernel_rfl) rfl
theorem wk15 {gI : Gh} {wI : World} {x0 : PayList} {up0 : Value} (rp0 : RV gI.m wI x0 up0) {r : Int} (h : f15 x0 = some r) : Fn Tryz.prog 15 #[up0] gI wI (fun _ _ v => v = .int .i64 (r)) := by
 unfold f15 at h
 refine fn_of_E Tryz.func15 rfl (Nat.le_of_ble_eq_true rfl) fun g0 hm hfr => ?_
 have rp0 : RV g0.m wI x0 up0 := hm ▸ rp0
 show E _ 31 none _ _ _ _ _
 refine E_seq (E_region (EL_do .plain rfl (D_box (g := g0) rfl rp0 fun g1 w1 p1 hs q1 => ?_)))
 have hfr := hfr.ext hs
 refine EL_at (.int .i64 (0)) rfl rfl ?_
 refine EL_nil (thn_n (E_joinC h (fun (s : Unit) e w => ∃ (g : Gh) , Fr gI wI g w) (fun X58 iA iB h => ?_) ?_))
 ·refine E_block ?_
  obtain ⟨l5, hx, h⟩ := bsome h
  refine E_join (fun e w => ∃ (g : Gh) , Fr gI wI g w ∧ e 1 = p1 ∧ PT g.m w (x0 : PayList) p1 ∧ e 3 = .bool (l5)) (fun Q' hQ => ?_) (fun xD xE hR => ?_)
  ·replace h := hx
   clear hx
   refine E_seq (E_region (EL_p (fPtr p1 0) (P_fieldAddr at_25_0 rfl (PT.ptr q1)) rfl ?_))
   have aD := PT_field (part_PayList_0).1 q1
   refine EL_do .plain rfl (D_load (g := g1) Tryz.isAgg22 Tryz.sizeOf22 rfl aD fun yE bD => ?_)
   refine EL_p (.int .i64 (((x0).Rates).length : Int)) (P_len Tryz.underlying22 rfl bD) rfl ?_
   refine EL_p (.bool ((decide ((((x0).Rates).length : Int) > (6 : Int))))) (P_int rfl rfl rfl) rfl ?_
   refine EL_p (.bool ((decide ((((x0).Rates).length : Int) > (6 : Int))))) (P_assign rfl) rfl ?_
   refine EL_nil (thn_n ?_)
   rcases csome h with ⟨m8, h⟩ | ⟨m8, h⟩
   ·refine E_ct m8 rfl ?_
    refine E_skip ?_
    obtain rfl := sinj h
    exact hQ _ _ ⟨g1, hfr, rfl, q1, rfl⟩
   ·refine E_cf m8 rfl ?_
    refine E_region (EL_p (fPtr p1 1) (P_fieldAddr at_25_1 rfl (PT.ptr q1)) rfl ?_)
    have cD := PT_field (part_PayList_1).1 q1
    refine EL_do .plain rfl (D_load (g := g1) Tryz.isAgg23 Tryz.sizeOf23 rfl cD fun zE eD => ?_)
    refine EL_p (.int .i64 (((x0).Extras).length : Int)) (P_len Tryz.underlying23 rfl eD) rfl ?_
    refine EL_p (.bool ((decide ((((x0).Extras).length : Int) > (8 : Int))))) (P_int rfl rfl rfl) rfl ?_
    refine EL_p (.bool ((decide ((((x0).Extras).length : Int) > (8 : Int))))) (P_assign rfl) rfl ?_
    refine EL_nil ?_
    obtain rfl := sinj h
    exact hQ _ _ ⟨g1, hfr, rfl, q1, rfl⟩
  ·clear hx
   obtain ⟨k9, hfr, t5, o0, d9⟩ := hR
   rcases csome h with ⟨n8, h⟩ | ⟨n8, h⟩
   ·refine E_cond_true (Eq.trans (show ev _ _ = .bool (l5) from d9) (congrArg Value.bool n8)) ?_
    refine E_seq (E_region (EL_at (.int .i64 (5)) rfl rfl ?_))
    refine EL_nil (thn_n (E_ret (blk_r ?_)))
    refine thn_r ?_
    obtain rfl := sinj h
    exact end1 rfl rfl (show _ = .int .i64 (5) from rfl) ⟨_, hfr, rfl⟩
   ·refine E_cond_false (Eq.trans (show ev _ _ = .bool (l5) from d9) (congrArg Value.bool n8)) ?_
    obtain ⟨u3, hx, h⟩ := bsome h
    refine E_join (fun e w => ∃ (g : Gh) , Fr gI wI g w ∧ e 12 = .bool (u3)) (fun Q' hQ => ?_) (fun nD yD hR => ?_)
    ·replace h := hx
     clear hx
     refine E_seq (E_region (EL_do .plain rfl (D_load (g := k9) Tryz.isAgg25 Tryz.sizeOf25 t5 o0 fun l9 yA => ?_)))
     have aB : RV k9.m _ (⟨x0⟩ : PayPayList) (.agg (setCh [[.slice none 0 0, .slice none 0 0, .int .i64 0, .int .i64 0]] [(0, l9)]).flatten.toArray) := RV_build rfl (rep_last (RV.cells yA))
     generalize lB : (Value.agg (setCh [[.slice none 0 0, .slice none 0 0, .int .i64 0, .int .i64 0]] [(0, l9)]).flatten.toArray) = dB at aB
     refine EL_p dB (lB ▸ P_build (vs := [(0, l9)]) [[.slice none 0 0, .slice none 0 0, .int .i64 0, .int .i64 0]] lay_117 rfl rfl (.cons rfl .nil) ⟨⟨_, rfl, cells_size yA⟩, trivial⟩) rfl ?_
     obtain ⟨l8, mB, h⟩ := bsome h
     refine EL_do .plain rfl (D_call (g := k9) (vs := [dB]) en52 (.cons rfl .nil) (wk52 aB mB) fun n9 zD cF hs hr => ?_)
     have hfr := hfr.ext hs
     have o0 := o0.ext hs
     subst hr
     refine EL_p (.bool (!l8)) (P_not rfl) rfl ?_
     refine EL_at (.bool (!l8)) rfl rfl ?_
     refine EL_nil (thn_n ?_)
     rcases csome h with ⟨r8, h⟩ | ⟨r8, h⟩
     ·refine E_ct r8 rfl ?_
      refine E_skip ?_
      obtain rfl := sinj h
      exact hQ _ _ ⟨n9, hfr, rfl⟩
     ·refine E_cf r8 rfl ?_
      refine E_seq (E_region (EL_p (fPtr p1 1) (P_fieldAddr at_25_1 t5 (PT.ptr o0)) rfl ?_))
      have iD := PT_field (part_PayList_1).1 o0
      refine EL_do .plain rfl (D_load (g := n9) Tryz.isAgg23 Tryz.sizeOf23 rfl iD fun jD lD => ?_)
      obtain ⟨x5, u9, h⟩ := bsome h
      refine EL_do .plain rfl (D_call (g := n9) (vs := [jD]) en53 (.cons rfl .nil) (wk53 lD u9) fun v8 oD aE hs hr => ?_)
      have hfr := hfr.ext hs
      have o0 := o0.ext hs
      subst hr
      refine EL_p (.bool (!x5)) (P_not rfl) rfl ?_
      refine EL_at (.bool (!x5)) rfl rfl ?_
      refine EL_nil (thn_n ?_)
      rcases csome h with ⟨m7, h⟩ | ⟨m7, h⟩
      ·refine E_ct m7 rfl ?_
       refine E_skip ?_
       obtain rfl := sinj h
       exact hQ _ _ ⟨v8, hfr, rfl⟩
      ·refine E_cf m7 rfl ?_
       refine E_seq (E_region (EL_p (fPtr p1 2) (P_fieldAddr at_25_2 t5 (PT.ptr o0)) rfl ?_))
       have nB := PT_field (part_PayList_2).1 o0
       refine EL_do .plain rfl (D_load (g := v8) Tryz.isAgg3 Tryz.sizeOf3 rfl nB fun bE oB => ?_)
       obtain rfl := RV_int.1 oB
       refine EL_do .plain rfl (D_buildSlice (g := v8) 3023 (xs := ([(x0).Fine] : List Int)) (vs := [.int .i64 ((x0).Fine)]) Tryz.underlying23 Tryz.sizeOf3 Tryz.zeroValue3 rfl rfl (.cons rfl .nil) (RVs.cons (RV_int.2 rfl) RVs.nil) rfl rfl fun tB iE vB hs o105 yB hxt hfl => ?_)
       have hfr := hfr.stp hs
       have o0 := o0.stp hs
       obtain ⟨i6, y9, h⟩ := bsome h
       refine EL_do .plain rfl (D_call (g := tB) (vs := [.int .i64 (0), .int .i64 (1000), vB]) en54 (.cons rfl (.cons rfl (.cons rfl .nil))) (wk54 yB y9) fun a9 sD lE hs hr => ?_)
       have hfr := hfr.ext hs
       have o0 := o0.ext hs
       subst hr
       refine EL_p (.bool (!i6)) (P_not rfl) rfl ?_
       refine EL_at (.bool (!i6)) rfl rfl ?_
       refine EL_nil (thn_n ?_)
       rcases csome h with ⟨g8, h⟩ | ⟨g8, h⟩
       ·refine E_ct g8 rfl ?_
        refine E_skip ?_
        obtain rfl := sinj h
        exact hQ _ _ ⟨a9, hfr, rfl⟩
       ·refine E_cf g8 rfl ?_
        refine E_region (EL_p (fPtr p1 3) (P_fieldAddr at_25_3 t5 (PT.ptr o0)) rfl ?_)
        have zB := PT_field (part_PayList_3).1 o0
        refine EL_do .plain rfl (D_load (g := a9) Tryz.isAgg3 Tryz.sizeOf3 rfl zB fun mE cC => ?_)
        obtain rfl := RV_int.1 cC
        refine EL_do .plain rfl (D_buildSlice (g := a9) 3028 (xs := ([(x0).Cap] : List Int)) (vs := [.int .i64 ((x0).Cap)]) Tryz.underlying23 Tryz.sizeOf3 Tryz.zeroValue3 rfl rfl (.cons rfl .nil) (RVs.cons (RV_int.2 rfl) RVs.nil) rfl rfl fun mC oE qC hs o111 rC hxt hfl => ?_)
        have hfr := hfr.stp hs
        obtain ⟨i7, bA, h⟩ := bsome h
        refine EL_do .plain rfl (D_call (g := mC) (vs := [qC]) en53 (.cons rfl .nil) (wk53 rC bA) fun uC tD rE hs hr => ?_)
        have hfr := hfr.ext hs
        subst hr
        refine EL_p (.bool (!i7)) (P_not rfl) rfl ?_
        refine EL_at (.bool (!i7)) rfl rfl ?_
        refine EL_nil ?_
        obtain rfl := sinj h
        exact hQ _ _ ⟨uC, hfr, rfl⟩
    ·clear hx
     obtain ⟨vC, hfr, x6⟩ := hR
     rcases csome h with ⟨k8, h⟩ | ⟨k8, h⟩
     ·refine E_cond_true (Eq.trans (show ev _ _ = .bool (u3) from x6) (congrArg Value.bool k8)) ?_
      refine E_seq (E_region (EL_at (.int .i64 (2)) rfl rfl ?_))
      refine EL_nil (thn_n (E_ret (blk_r ?_)))
      refine thn_r ?_
      obtain rfl := sinj h
      exact end1 rfl rfl (show _ = .int .i64 (2) from rfl) ⟨_, hfr, rfl⟩
     ·refine E_cond_false (Eq.trans (show ev _ _ = .bool (u3) from x6) (congrArg Value.bool k8)) ?_
      exact E_skip (blk_n (thn_n (iB () _ _ ⟨vC, hfr⟩ h)))
 ·rintro _ uD uE ⟨vE, hfr⟩ h
  refine E_seq (E_region (EL_at (.int .i64 (0)) rfl rfl ?_))
  refine EL_nil (thn_n (E_ret ?_))
  obtain rfl := sinj h
  exact end1 rfl rfl (show _ = .int .i64 (0) from rfl) ⟨_, hfr, rfl⟩
def f55 (x0 : PayList) (x1 : PayPiece) : Option (PayPayList × Int) :=
 jn (σ := PayPayList) (fun v8 =>
  (f79 ((⟨x0⟩ : PayPayList)) x1).bind fun u3 =>
  some ((⟨x0⟩ : PayPayList), u3)
  ) fun k9 =>
 (f15 x0).bind fun o0 =>
 bif (o0 != (0 : Int)) then
  some ((⟨x0⟩ : PayPayList), o0)
 else
  k9 ((⟨⟨[], [], 0, 0⟩⟩ : PayPayList))
theorem en55 : Enters Tryz.prog 55 := enters_of Tryz.func55 (by kernel_rfl) rfl
theorem wk55 {gI : Gh} {wI : World} {x0 : PayList} {x1 : PayPiece} {up0 : Value} (rp0 : RV gI.m wI x0 up0) {up1 : Value} (rp1 : RV gI.m wI x1 up1) {r : PayPayList × Int} (h : f55 x0 x1 = some r) : Fn Tryz.prog 55 #[up0, up1] gI wI (fun m w v => ∃ y0 y1, v = .tuple #[y0, y1] ∧ RV m w (r.1) y0 ∧ y1 = .int .i64 (r.2)) := by
 unfold f55 at h
 refine fn_of_E Tryz.func55 rfl (Nat.le_of_ble_eq_true rfl) fun g0 hm hfr => ?_
 have rp0 : RV g0.m wI x0 up0 := hm ▸ rp0
 have rp1 : RV g0.m wI x1 up1 := hm ▸ rp1
 show E _ 20 none _ _ _ _ _
 refine E_seq (E_region (EL_do .plain rfl (D_box (g := g0) rfl rp0 fun g1 w1 p1 hs q1 => ?_)))
 have hfr := hfr.ext hs
 have rp1 := rp1.ext hs
 refine EL_do .plain rfl (D_box (g := g1) rfl rp1 fun g2 w2 p2 hs q2 => ?_)
 have hfr := hfr.ext hs
 have q1 := q1.ext hs
 refine EL_do .plain rfl (D_allocOc (g := g2) 2004 (⟨⟨[], [], 0, 0⟩⟩ : PayPayList) Tryz.zeroValue117 (fun m w => ⟨_, (rep_two rep_nil (rep_two rep_nil (rep_two rep_int rep_int))), rfl⟩) fun g3 w3 p3 hs b3 cb => ?_)
 have hfr := hfr.stp hs
 have q1 := q1.stp hs
 have q2 := q2.stp hs
 have t5 : OSF 2004 60400 0 g3 w3 87 117 ([] : List PayRate) p3 := cb.osf (by rfl)
 have x5 : OSF 2004 60401 1 g3 w3 3 117 ([] : List Int) p3 := cb.osf (by rfl)
 clear cb
 refine EL_at (.int .i64 (0)) rfl rfl ?_
 refine EL_nil (thn_n (E_joinC h (fun (s : PayPayList) e w => ∃ (g : Gh) , Fr gI wI g w ∧ e 2 = p1 ∧ PT g.m w (x0 : PayList) p1 ∧ e 3 = p2 ∧ PT g.m w (x1 : PayPiece) p2 ∧ e 4 = p3 ∧ OB 2004 g w 117 (s : PayPayList) p3 ∧ OSF 2004 60400 0 g w 87 117 (((s).PayList).Rates) p3 ∧ OSF 2004 60401 1 g w 3 117 (((s).PayList).Extras) p3) (fun X12 k9 iB h => ?_) ?_))
 ·refine E_seq (E_region (EL_do .plain rfl (D_load (g := g3) Tryz.isAgg25 Tryz.sizeOf25 rfl q1 fun mC qC => ?_)))
  obtain ⟨o0, lB, h⟩ := bsome h
  refine EL_do .plain rfl (D_call (g := g3) (vs := [mC]) en15 (.cons rfl .nil) (wk15 qC lB) fun x6 vC bD hs hr => ?_)
  have hfr := hfr.ext hs
  have q1 := q1.ext hs
  have q2 := q2.ext hs
  have t5 := t5.ext hs
  have x5 := x5.ext hs
  have b3 := b3.ext hs
  subst hr
  refine EL_at (.int .i64 (o0)) rfl rfl ?_
  refine EL_nil (thn_n (E_seq (E_region (EL_mw (.int .i64 (o0)) rfl rfl ?_))))
  refine EL_in (.bool ((o0 != (0 : Int)))) rfl rfl rfl rfl ?_
  refine EL_nil (thn_n ?_)
  rcases csome h with ⟨i6, h⟩ | ⟨i6, h⟩
  ·refine E_ct i6 rfl ?_
   refine E_seq (E_region (EL_do .plain rfl (D_load (g := x6) Tryz.isAgg25 Tryz.sizeOf25 rfl q1 fun n8 l9 => ?_)))
   have n9 : RV x6.m _ (⟨x0⟩ : PayPayList) (.agg (setCh [[.slice none 0 0, .slice none 0 0, .int .i64 0, .int .i64 0]] [(0, n8)]).flatten.toArray) := RV_build rfl (rep_last (RV.cells l9))
   generalize mB : (Value.agg (setCh [[.slice none 0 0, .slice none 0 0, .int .i64 0, .int .i64 0]] [(0, n8)]).flatten.toArray) = u9 at n9
   refine EL_p u9 (mB ▸ P_build (vs := [(0, n8)]) [[.slice none 0 0, .slice none 0 0, .int .i64 0, .int .i64 0]] lay_117 rfl rfl (.cons rfl .nil) ⟨⟨_, rfl, cells_size l9⟩, trivial⟩) rfl ?_
   refine EL_mw (.int .i64 (o0)) rfl rfl ?_
   refine EL_do .plain rfl (D_storeOc (g := x6) (v := u9) Tryz.sizeOf117 rfl b3 rfl n9 fun cD eD hs b19 cb => ?_)
   clear cb
   have hfr := hfr.stp hs
   refine EL_at (.int .i64 (o0)) rfl rfl ?_
   refine EL_nil (thn_n (E_ret (thn_r ?_)))
   obtain rfl := sinj h
   obtain ⟨ad20, cv20, hp20, hl20, cr20⟩ := ob_read Tryz.isAgg117 Tryz.sizeOf117 b19
   exact endm_ct rfl rfl ((show _ = p3 from rfl).trans hp20) hl20 (show _ = .int .i64 (o0) from rfl) ⟨_, hfr, _, _, rfl, cr20, rfl⟩
  ·refine E_cf i6 rfl ?_
   exact E_skip (thn_n (iB ((⟨⟨[], [], 0, 0⟩⟩ : PayPayList)) _ _ ⟨x6, hfr, rfl, q1, rfl, q2, rfl, b3, t5, x5⟩ h))
 ·rintro v8 aD iD ⟨r8, hfr, i7, m7, a9, d9, g8, l5, u4_0_21, u4_1_21⟩ h
  refine E_seq (L_load (x := .tmp 2) Tryz.isAgg25 Tryz.sizeOf25 m7 fun k8 y9 nB => ?_)
  have l8 : RV r8.m _ (⟨x0⟩ : PayPayList) (.agg (setCh [[.slice none 0 0, .slice none 0 0, .int .i64 0, .int .i64 0]] [(0, k8)]).flatten.toArray) := RV_build rfl (rep_last (RV.cells y9))
  generalize oB : (Value.agg (setCh [[.slice none 0 0, .slice none 0 0, .int .i64 0, .int .i64 0]] [(0, k8)]).flatten.toArray) = bA at l8
  refine L_load (x := .tmp 2) Tryz.isAgg25 Tryz.sizeOf25 m7 fun m8 iA tB => ?_
  have yA : RV r8.m _ (⟨x0⟩ : PayPayList) (.agg (setCh [[.slice none 0 0, .slice none 0 0, .int .i64 0, .int .i64 0]] [(0, m8)]).flatten.toArray) := RV_build rfl (rep_last (RV.cells iA))
  generalize vB : (Value.agg (setCh [[.slice none 0 0, .slice none 0 0, .int .i64 0, .int .i64 0]] [(0, m8)]).flatten.toArray) = aB at yA
  refine L_load (x := .tmp 3) Tryz.isAgg27 Tryz.sizeOf27 d9 fun dB rC yB => ?_
  obtain ⟨u3, zB, h⟩ := bsome h
  refine E_drawL (g := r8) (n := 6) [(5, (fun v g w => v = .int .i64 (u3)))] [0, 1, 2, 3, 4, 5] rfl mixed (by kernel_rfl) (⟨fun _ => up_eq _, trivial⟩) ?_
  refine L_ld (c := k8) rfl rfl .plain (fun _ _ h => h.ch) nB i7 ?_
  refine L_p bA rfl rfl (oB ▸ P_build (vs := [(0, k8)]) [[.slice none 0 0, .slice none 0 0, .int .i64 0, .int .i64 0]] lay_117 rfl rfl (.cons rfl .nil) ⟨⟨_, rfl, cells_size y9⟩, trivial⟩) ?_
  refine L_ld (c := m8) rfl rfl .plain (fun _ _ h => h.ch) tB i7 ?_
  refine L_p aB rfl rfl (vB ▸ P_build (vs := [(0, m8)]) [[.slice none 0 0, .slice none 0 0, .int .i64 0, .int .i64 0]] lay_117 rfl rfl (.cons rfl .nil) ⟨⟨_, rfl, cells_size iA⟩, trivial⟩) ?_
  refine L_ld (c := dB) rfl rfl .plain (fun _ _ h => h.ch) yB a9 ?_
  refine L_do (φ := fun v g w => v = .int .i64 (u3)) rfl rfl .plain (fun g w hd => D_call (g := g) (vs := [aB, dB]) en79 (.cons rfl (.cons rfl .nil)) (wk79 (yA.ext hd.1) (rC.ext hd.1) zB) fun g' w' v hs hr => ⟨g', hs, hr⟩) (fun jD hv => ?_)
  obtain ⟨_, _, _, rfl⟩ := hv
  refine L_nl fun uC w29 hs => ?_
  have hfr := hfr.ext hs
  have l5 := l5.ext hs
  have l8 := l8.ext hs
  clear hs
  refine EL_do .plain rfl (D_storeOc (g := uC) (v := bA) Tryz.sizeOf117 g8 l5 rfl l8 fun lD nD hs b39 cb => ?_)
  clear cb
  have hfr := hfr.stp hs
  refine EL_at (.int .i64 (u3)) rfl rfl ?_
  refine EL_nil (thn_n (E_ret ?_))
  obtain rfl := sinj h
  obtain ⟨ad40, cv40, hp40, cC, cr40⟩ := ob_read Tryz.isAgg117 Tryz.sizeOf117 b39
  exact endm_ct rfl rfl ((show _ = p3 from g8).trans hp40) cC (show _ = .int .i64 (u3) from rfl) ⟨_, hfr, _, _, rfl, cr40, rfl⟩
def f16 (x0 : PayList) (x1 : PayPiece) : Option (Int × Int × Int × Int) :=
 (f55 x0 x1).bind fun y6 =>
 jn (σ := Unit) (fun _ =>
  (f56 (y6.1) x1).bind fun u3 =>
  (f57 (y6.1) u3 ((x1).Faults)).bind fun x5 =>
  (f58 (y6.1) x1 ((x1).Faults)).bind fun i6 =>
  some (u3, x5, i6, (0 : Int))
  ) fun m8 =>
 bif (y6.2 != (0 : Int)) then
  some ((0 : Int), (0 : Int), (0 : Int), y6.2)
 else
  m8 ()
theorem en16 : Enters Tryz.prog 16 := enters_of Tryz.func16 (by kernel_rfl) rfl
theorem wk16 {gI : Gh} {wI : World} {x0 : PayList} {x1 : PayPiece} {up0 : Value} (rp0 : RV gI.m wI x0 up0) {up1 : Value} (rp1 : RV gI.m wI x1 up1) {r : Int × Int × Int × Int} (h : f16 x0 x1 = some r) : Fn Tryz.prog 16 #[up0, up1] gI wI (fun m w v => ∃ y0 y1 y2 y3, v = .tuple #[y0, y1, y2, y3] ∧ y0 = .int .i64 (r.1) ∧ y1 = .int .i64 (r.2.1) ∧ y2 = .int .i64 (r.2.2.1) ∧ y3 = .int .i64 (r.2.2.2)) := by
 unfold f16 at h
 refine fn_of_E Tryz.func16 rfl (Nat.le_of_ble_eq_true rfl) fun g0 hm hfr => ?_
 have rp0 : RV g0.m wI x0 up0 := hm ▸ rp0
 have rp1 : RV g0.m wI x1 up1 := hm ▸ rp1
 show E _ 32 none _ _ _ _ _
 refine E_seq (E_region (EL_do .plain rfl (D_box (g := g0) rfl rp0 fun g1 w1 p1 hs q1 => ?_)))
 have hfr := hfr.ext hs
 have rp1 := rp1.ext hs
 refine EL_do .plain rfl (D_box (g := g1) rfl rp1 fun g2 w2 p2 hs q2 => ?_)
 have hfr := hfr.ext hs
 have q1 := q1.ext hs
 iterate 4 refine EL_at (.int .i64 (0)) rfl rfl ?_
 refine EL_nil (thn_n (E_seq (E_region (EL_do .plain rfl (D_load (g := g2) Tryz.isAgg25 Tryz.sizeOf25 rfl q1 fun v3 r3 => ?_)))))
 refine EL_do .plain rfl (D_load (g := g2) Tryz.isAgg27 Tryz.sizeOf27 rfl q2 fun v4 r4 => ?_)
 obtain ⟨y6, yA, h⟩ := bsome h
 refine EL_do .plain rfl (D_call (g := g2) (vs := [v3, v4]) en55 (.cons rfl (.cons rfl .nil)) (wk55 r3 r4 yA) fun g5 w5_ v5 hs hr => ?_)
 have hfr := hfr.ext hs
 have q2 := q2.ext hs
 obtain ⟨i7, mC, rfl, m7, rfl⟩ := hr
 refine EL_mw (.tuple #[i7, .int .i64 (y6.2)]) rfl rfl ?_
 refine EL_p i7 (P_extract rfl rfl) rfl ?_
 refine EL_p (.int .i64 (y6.2)) (P_extract rfl rfl) rfl ?_
 refine EL_do .plain rfl (D_allocOc (g := g5) 2008 (⟨⟨[], [], 0, 0⟩⟩ : PayPayList) Tryz.zeroValue117 (fun m w => ⟨_, (rep_two rep_nil (rep_two rep_nil (rep_two rep_int rep_int))), rfl⟩) fun g7 w7 p7 hs b7 cb => ?_)
 have hfr := hfr.stp hs
 have q2 := q2.stp hs
 have m7 := m7.stp hs
 have qC : OSF 2008 60800 0 g7 w7 87 117 ([] : List PayRate) p7 := cb.osf (by rfl)
 have rC : OSF 2008 60801 1 g7 w7 3 117 ([] : List Int) p7 := cb.osf (by rfl)
 clear cb
 refine EL_do .plain rfl (D_storeOc (g := g7) (v := i7) Tryz.sizeOf117 rfl b7 rfl m7 fun g8 w8 hs b8 cb => ?_)
 clear cb
 have hfr := hfr.stp hs
 have q2 := q2.stp hs
 refine EL_at (.int .i64 (y6.2)) rfl rfl ?_
 refine EL_nil (thn_n (E_joinC h (fun (s : Unit) e w => ∃ (g : Gh) , Fr gI wI g w ∧ e 3 = p2 ∧ PT g.m w (x1 : PayPiece) p2 ∧ e 8 = p7 ∧ OB 2008 g w 117 (y6.1 : PayPayList) p7) (fun X10 m8 a9 h => ?_) ?_))
 ·refine E_seq (E_region (EL_mw (.int .i64 (y6.2)) rfl rfl ?_))
  refine EL_in (.bool ((y6.2 != (0 : Int)))) rfl rfl rfl rfl ?_
  refine EL_nil (thn_n ?_)
  rcases csome h with ⟨k8, h⟩ | ⟨k8, h⟩
  ·refine E_ct k8 rfl ?_
   refine E_seq (E_region (EL_mw (.int .i64 (y6.2)) rfl rfl ?_))
   iterate 3 refine EL_at (.int .i64 (0)) rfl rfl ?_
   refine EL_at (.int .i64 (y6.2)) rfl rfl ?_
   refine EL_nil (thn_n (E_ret (thn_r ?_)))
   obtain rfl := sinj h
   exact end4 rfl rfl (show _ = .int .i64 (0) from rfl) (show _ = .int .i64 (0) from rfl) (show _ = .int .i64 (0) from rfl) (show _ = .int .i64 (y6.2) from rfl) ⟨_, hfr, _, _, _, _, rfl, rfl, rfl, rfl, rfl⟩
  ·refine E_cf k8 rfl ?_
   exact E_skip (thn_n (a9 () _ _ ⟨g8, hfr, rfl, q2, rfl, b8⟩ h))
 ·rintro _ uC aD ⟨l8, hfr, t5, o0, x6, l5⟩ h
  refine E_seq (E_region (EL_do .plain rfl (D_loadO (g := l8) Tryz.isAgg117 Tryz.sizeOf117 x6 l5 fun aB dB => ?_)))
  refine EL_do .plain rfl (D_load (g := l8) Tryz.isAgg27 Tryz.sizeOf27 t5 o0 fun iB lB => ?_)
  obtain ⟨u3, d9, h⟩ := bsome h
  refine EL_do .plain rfl (D_call (g := l8) (vs := [aB, iB]) en56 (.cons rfl (.cons rfl .nil)) (wk56 dB lB d9) fun mB vC bD hs hr => ?_)
  have hfr := hfr.ext hs
  have o0 := o0.ext hs
  have l5 := l5.ext hs
  subst hr
  refine EL_at (.int .i64 (u3)) rfl rfl ?_
  refine EL_nil (thn_n (E_seq (L_loadO0 (x := .tmp 8) Tryz.isAgg117 Tryz.sizeOf117 l5 fun n8 nB k9 => ?_)))
  have oB := PT_field (part_PayPiece_4).1 o0
  refine L_load (x := .tmp 24) Tryz.isAgg3 Tryz.sizeOf3 oB fun cD tB l9 => ?_
  obtain rfl := RV_int.1 tB
  obtain ⟨x5, n9, h⟩ := bsome h
  refine L_loadO0 (x := .tmp 8) Tryz.isAgg117 Tryz.sizeOf117 l5 fun r8 vB u9 => ?_
  refine L_load (x := .tmp 3) Tryz.isAgg27 Tryz.sizeOf27 o0 fun v8 yB y9 => ?_
  have zB := PT_field (part_PayPiece_4).1 o0
  refine L_load (x := .tmp 29) Tryz.isAgg3 Tryz.sizeOf3 zB fun eD cC bA => ?_
  obtain rfl := RV_int.1 cC
  obtain ⟨i6, iA, h⟩ := bsome h
  refine E_drawL (g := mB) (n := 15) [(5, (fun v g w => v = .int .i64 (x5))), (10, (fun v g w => v = .int .i64 (i6)))] [0, 1, 2, 3, 4, 5, 6, 7, 8, 9, 10, 11, 12, 13, 14] rfl mixed (by kernel_rfl) (⟨fun _ => up_eq _, fun _ => up_eq _, trivial⟩) ?_
  refine L_p (.int .i64 (u3)) rfl rfl (P_move rfl) ?_
  refine L_ld (c := n8) rfl rfl .plain (fun _ _ h => ⟨h.ch, fun b hb _ => h.below.block b hb⟩) k9 x6 ?_
  refine L_p (.int .i64 (u3)) rfl rfl (P_move rfl) ?_
  refine L_p (fPtr p2 4) rfl rfl (P_fieldAddr at_27_4 t5 (PT.ptr o0)) ?_
  refine L_ld (c := .int .i64 ((x1).Faults)) rfl rfl .plain (fun _ _ h => h.ch) l9 rfl ?_
  refine L_do (φ := fun v g w => v = .int .i64 (x5)) rfl rfl .plain (fun g w hd => D_call (g := g) (vs := [n8, .int .i64 (u3), .int .i64 ((x1).Faults)]) en57 (.cons rfl (.cons rfl (.cons rfl .nil))) (wk57 (nB.ext hd.1) n9) fun g' w' v hs hr => ⟨g', hs, hr⟩) (fun iD hv => ?_)
  obtain ⟨_, _, _, rfl⟩ := hv
  refine L_ld (c := r8) rfl rfl .plain (fun _ _ h => ⟨h.ch, fun b hb _ => h.below.block b hb⟩) u9 x6 ?_
  refine L_ld (c := v8) rfl rfl .plain (fun _ _ h => h.ch) y9 t5 ?_
  refine L_p (fPtr p2 4) rfl rfl (P_fieldAddr at_27_4 t5 (PT.ptr o0)) ?_
  refine L_ld (c := .int .i64 ((x1).Faults)) rfl rfl .plain (fun _ _ h => h.ch) bA rfl ?_
  refine L_do (φ := fun v g w => v = .int .i64 (i6)) rfl rfl .plain (fun g w hd => D_call (g := g) (vs := [r8, v8, .int .i64 ((x1).Faults)]) en58 (.cons rfl (.cons rfl (.cons rfl .nil))) (wk58 (vB.ext hd.1) (yB.ext hd.1) iA) fun g' w' v hs hr => ⟨g', hs, hr⟩) (fun jD hv => ?_)
  obtain ⟨_, _, _, rfl⟩ := hv
  refine L_p (.int .i64 (u3)) rfl rfl (P_assign rfl) ?_
  refine L_p (.int .i64 (x5)) rfl rfl (P_assign rfl) ?_
  refine L_p (.int .i64 (i6)) rfl rfl (P_assign rfl) ?_
  refine L_p (.int .i64 (0)) rfl rfl (P_assign rfl) ?_
  refine L_nl fun lD nD hs => ?_
  have hfr := hfr.ext hs
  clear hs
  refine EL_nil (thn_n (E_ret ?_))
  obtain rfl := sinj h
  exact end4 rfl rfl (show _ = .int .i64 (u3) from rfl) (show _ = .int .i64 (x5) from rfl) (show _ = .int .i64 (i6) from rfl) (show _ = .int .i64 (0) from rfl) ⟨_, hfr, _, _, _, _, rfl, rfl, rfl, rfl, rfl⟩
def f27 (x0 : PayList) (x1 : List PayPiece) : Option ((List Int) × (List Int) × Int × Int) :=
 jn (σ := (List Int)) (fun nD =>
  jn (σ := (List Int)) (fun vF =>
   jn (σ := (List Int) × (List (Int × Int))) (fun (bE, n8) =>
    (keysS n8).bind fun l8 =>
    Option.bind (α := (List Int)) (
     lp (σ := (List Int) × Int) (fun aH (qC, x6) =>
      bif (decide (x6 < ((l8).length : Int))) then
       Option.bind (α := (List Int)) (
        (idx l8 x6).bind fun vB =>
        (apnd 8 qC (([((mget n8 vB).getD (0 : Int))] : List Int))).bind fun cH =>
        some (cH)
        ) fun u9 =>
       aH (u9, (w64 (x6 + (1 : Int))))
      else
       some (qC)
      ) big (bE, (0 : Int))
     ) fun mB =>
    some (l8, mB, (0 : Int), (0 : Int))
    ) fun dH =>
   lp (σ := (List Int) × (List (Int × Int)) × Int) (fun gH (bA, i7, o0) =>
    bif (decide (o0 < ((x1).length : Int))) then
     jn (σ := (List Int) × (List (Int × Int))) (fun (rC, uC) =>
      gH (rC, uC, (w64 (o0 + (1 : Int))))
      ) fun iH =>
     (idx x1 o0).bind fun m7 =>
     (f55 x0 m7).bind fun y168 =>
     jn (σ := (List Int)) (fun vC =>
      (f58 (y168.1) m7 ((m7).Faults)).bind fun yB =>
      iH (vC, (mset i7 ((m7).Weaver) ((w64 (((mget i7 ((m7).Weaver)).getD (0 : Int)) + yB)))))
      ) fun jH =>
     bif (y168.2 != (0 : Int)) then
      some ([], [], o0, y168.2)
     else
      jH (bA)
    else
     dH (bA, i7)
    ) big (vF, ([] : List (Int × Int)), (0 : Int))
   ) fun oK =>
  bif (decide (((x1).length : Int) > (50 : Int))) then
   some ([], [], (0 : Int), (5 : Int))
  else
   oK (nD)
  ) fun k6 =>
 (f15 x0).bind fun y9 =>
 bif (y9 != (0 : Int)) then
  some ([], [], (0 : Int), y9)
 else
  k6 ([])
theorem en27 : Enters Tryz.prog 27 := enters_of Tryz.func27 (by kernel_rfl) rfl
theorem wk27 {gI : Gh} {wI : World} {x0 : PayList} {x1 : List PayPiece} {up0 : Value} (rp0 : RV gI.m wI x0 up0) {up1 : Value} (rp1 : RV gI.m wI x1 up1) {r : (List Int) × (List Int) × Int × Int} (h : f27 x0 x1 = some r) : Fn Tryz.prog 27 #[up0, up1] gI wI (fun m w v => ∃ y0 y1 y2 y3, v = .tuple #[y0, y1, y2, y3] ∧ RV m w (r.1) y0 ∧ RV m w (r.2.1) y1 ∧ y2 = .int .i64 (r.2.2.1) ∧ y3 = .int .i64 (r.2.2.2)) := by
 unfold f27 at h
 refine fn_of_E Tryz.func27 rfl (Nat.le_of_ble_eq_true rfl) fun g0 hm hfr => ?_
 have rp0 : RV g0.m wI x0 up0 := hm ▸ rp0
 have rp1 : RV g0.m wI x1 up1 := hm ▸ rp1
 show E _ 71 none _ _ _ _ _
 refine E_seq (E_region (EL_do .plain rfl (D_box (g := g0) rfl rp0 fun g1 w1 p1 hs q1 => ?_)))
 have hfr := hfr.ext hs
 have rp1 := rp1.ext hs
 refine EL_at (.slice none 0 0) rfl rfl ?_
 refine EL_at (.slice none 0 0) rfl rfl ?_
 refine EL_at (.int .i64 (0)) rfl rfl ?_
 refine EL_at (.int .i64 (0)) rfl rfl ?_
 refine EL_nil (thn_n (E_joinC h (fun (s : (List Int)) e w => ∃ (g : Gh) (v5 : Value), Fr gI wI g w ∧ e 1 = up1 ∧ RV g.m w (x1 : List PayPiece) up1 ∧ e 2 = p1 ∧ PT g.m w (x0 : PayList) p1 ∧ e 5 = v5 ∧ RV g.m w (s : List Int) v5 ∧ OS 1005 g w 3 (s : List Int) v5) (fun X6 k6 hk6 h => ?_) ?_))
 ·refine E_seq (E_region (EL_do .plain rfl (D_load (g := g1) Tryz.isAgg25 Tryz.sizeOf25 rfl q1 fun v7 r7 => ?_)))
  obtain ⟨y9, bM, h⟩ := bsome h
  refine EL_do .plain rfl (D_call (g := g1) (vs := [v7]) en15 (.cons rfl .nil) (wk15 r7 bM) fun g8 w8_ v8 hs hr => ?_)
  have hfr := hfr.ext hs
  have rp1 := rp1.ext hs
  have q1 := q1.ext hs
  subst hr
  refine EL_at (.int .i64 (y9)) rfl rfl ?_
  refine EL_nil (thn_n (E_seq (E_region (EL_mw (.int .i64 (y9)) rfl rfl ?_))))
  refine EL_in (.bool ((y9 != (0 : Int)))) rfl rfl rfl rfl ?_
  refine EL_nil (thn_n ?_)
  rcases csome h with ⟨cF, h⟩ | ⟨cF, h⟩
  ·refine E_ct cF rfl ?_
   refine E_seq (E_region (EL_mw (.int .i64 (y9)) rfl rfl ?_))
   refine EL_at (.slice none 0 0) rfl rfl ?_
   refine EL_at (.slice none 0 0) rfl rfl ?_
   refine EL_at (.int .i64 (0)) rfl rfl ?_
   refine EL_at (.int .i64 (y9)) rfl rfl ?_
   refine EL_nil (thn_n (E_ret (thn_r ?_)))
   obtain rfl := sinj h
   exact end4 rfl rfl (show _ = .slice none 0 0 from rfl) (show _ = .slice none 0 0 from rfl) (show _ = .int .i64 (0) from rfl) (show _ = .int .i64 (y9) from rfl) ⟨_, hfr, _, _, _, _, rfl, RV_nil, RV_nil, rfl, rfl⟩
  ·refine E_cf cF rfl ?_
   exact E_skip (thn_n (hk6 ([]) _ _ ⟨g8, (.slice none 0 0), hfr, rfl, rp1, rfl, q1, rfl, RV_nil, OS.nil⟩ h))
 ·rintro nD xM dO ⟨cM, gJ, hfr, xF, yF, iJ, jJ, kJ, lJ, mJ⟩ h
  refine E_joinC h (fun (s : (List Int)) e w => ∃ (g : Gh) (v5 : Value), Fr gI wI g w ∧ e 1 = up1 ∧ RV g.m w (x1 : List PayPiece) up1 ∧ e 2 = p1 ∧ PT g.m w (x0 : PayList) p1 ∧ e 5 = v5 ∧ RV g.m w (s : List Int) v5 ∧ OS 1005 g w 3 (s : List Int) v5) (fun X13 oK pK h => ?_) ?_
  ·refine E_seq (E_region (EL_mv xF rfl ?_))
   refine EL_p (.int .i64 ((x1).length : Int)) (P_len Tryz.underlying33 rfl yF) rfl ?_
   refine EL_in (.bool ((decide (((x1).length : Int) > (50 : Int))))) rfl rfl rfl rfl ?_
   refine EL_nil (thn_n ?_)
   rcases csome h with ⟨dF, h⟩ | ⟨dF, h⟩
   ·refine E_ct dF rfl ?_
    refine E_seq (E_region (EL_at (.slice none 0 0) rfl rfl ?_))
    refine EL_at (.slice none 0 0) rfl rfl ?_
    refine EL_at (.int .i64 (0)) rfl rfl ?_
    refine EL_at (.int .i64 (5)) rfl rfl ?_
    refine EL_nil (thn_n (E_ret (thn_r ?_)))
    obtain rfl := sinj h
    exact end4 rfl rfl (show _ = .slice none 0 0 from rfl) (show _ = .slice none 0 0 from rfl) (show _ = .int .i64 (0) from rfl) (show _ = .int .i64 (5) from rfl) ⟨_, hfr, _, _, _, _, rfl, RV_nil, RV_nil, rfl, rfl⟩
   ·refine E_cf dF rfl ?_
    exact E_skip (thn_n (pK (nD) _ _ ⟨cM, (gJ), hfr, xF, yF, iJ, jJ, kJ, lJ, mJ⟩ h))
  ·rintro vF bN w15 ⟨dM, nJ, hfr, oJ, mC, pJ, oD, qJ, sD, tD⟩ h
   refine E_seq (E_region (EL_do .plain rfl (D_makeMap (g := dM) (Value.int .i64) Int 8024 fun eM eO r8 hs m16 => ?_)))
   have hfr := hfr.stp hs
   have mC := mC.stp hs
   have oD := oD.stp hs
   have sD := sD.stp hs
   have tD := tD.stp hs rfl
   refine EL_at r8 rfl rfl ?_
   refine EL_nil (thn_n (E_joinC h (fun (s : (List Int) × (List (Int × Int))) e w => ∃ (g : Gh) (v5 : Value), Fr gI wI g w ∧ e 5 = v5 ∧ RV g.m w (s.1 : List Int) v5 ∧ OS 1005 g w 3 (s.1 : List Int) v5 ∧ e 9 = r8 ∧ MP (Value.int .i64) 8024 g w (s.2 : List (Int × Int)) r8) (fun X111 dH rJ h => ?_) ?_))
   ·refine E_seq (E_region (EL_mv oJ rfl ?_))
    refine EL_p (.int .i64 ((x1).length : Int)) (P_len Tryz.underlying33 rfl mC) rfl ?_
    refine EL_mw (.int .i64 (0)) rfl rfl ?_
    refine EL_nil (thn_n (E_block ?_))
    refine E_lp h (fun (s : (List Int) × (List (Int × Int)) × Int) e w => ∃ (g : Gh) (v5 : Value), Fr gI wI g w ∧ e 2 = p1 ∧ PT g.m w (x0 : PayList) p1 ∧ e 5 = v5 ∧ RV g.m w (s.1 : List Int) v5 ∧ OS 1005 g w 3 (s.1 : List Int) v5 ∧ e 9 = r8 ∧ MP (Value.int .i64) 8024 g w (s.2.1 : List (Int × Int)) r8 ∧ e 25 = up1 ∧ RV g.m w (x1 : List PayPiece) up1 ∧ e 26 = .int .i64 (((x1).length : Int)) ∧ e 27 = .int .i64 (s.2.2)) ⟨eM, (nJ), hfr, pJ, oD, qJ, sD, tD, rfl, m16, rfl, mC, rfl, rfl⟩ (fun X112 gH sJ => ?_)
    rintro ⟨bA, i7, o0⟩ oM cN ⟨eF, iE, hfr, lE, l5, mE, t5, x5, oE, i6, eD, u3, iD, lB⟩ h
    refine E_seq (E_region (EL_in (.bool ((decide (o0 < ((x1).length : Int))))) lB iD rfl rfl ?_))
    refine EL_nil (thn_n (E_seq ?_))
    rcases csome h with ⟨uD, h⟩ | ⟨uD, h⟩
    ·refine E_ct uD rfl ?_
     refine E_skip (thn_n (E_joinC h (fun (s : (List Int) × (List (Int × Int))) e w => ∃ (g : Gh) (v5 : Value), Fr gI wI g w ∧ e 2 = p1 ∧ PT g.m w (x0 : PayList) p1 ∧ e 5 = v5 ∧ RV g.m w (s.1 : List Int) v5 ∧ OS 1005 g w 3 (s.1 : List Int) v5 ∧ e 9 = r8 ∧ MP (Value.int .i64) 8024 g w (s.2 : List (Int × Int)) r8 ∧ e 25 = up1 ∧ RV g.m w (x1 : List PayPiece) up1 ∧ e 26 = .int .i64 (((x1).length : Int)) ∧ e 27 = .int .i64 (o0)) (fun X159 iH vJ h => ?_) ?_))
     ·refine E_block ?_
      refine E_seq (E_region (EL_mv lB rfl ?_))
      obtain ⟨m7, aG, h⟩ := bsome h
      refine EL_p (ePtr up1 o0 5) (P_indexAddr (α := PayPiece) Tryz.underlying33 Tryz.sizeOf27 eD u3 lB aG) rfl ?_
      have qK := PT_idx u3 aG
      refine EL_do .plain rfl (D_load (g := eF) Tryz.isAgg27 Tryz.sizeOf27 rfl qK fun sK rF => ?_)
      refine EL_do .plain rfl (D_allocOc (g := eF) 2011 (⟨0, 0, 0, [], 0⟩ : PayPiece) Tryz.zeroValue27 (fun m w => ⟨_, (rep_two rep_int (rep_two rep_int (rep_two rep_int (rep_two rep_nil rep_int)))), rfl⟩) fun kH tK aD hs b163 cb => ?_)
      have hfr := hfr.stp hs
      have l5 := l5.stp hs
      have t5 := t5.stp hs
      have x5 := x5.stp hs rfl
      have i6 := i6.stp hs rfl
      have u3 := u3.stp hs
      have rF := rF.stp hs
      have iM : OSF 2011 61103 3 kH tK 3 27 ([] : List Int) aD := cb.osf (by rfl)
      clear cb
      refine EL_at (.int .i64 (o0)) rfl rfl ?_
      refine EL_do .plain rfl (D_storeOc (g := kH) (v := sK) Tryz.sizeOf27 rfl b163 rfl rF fun sF dN hs b164 cb => ?_)
      clear cb
      have hfr := hfr.stp hs
      have l5 := l5.stp hs
      have t5 := t5.stp hs
      have x5 := x5.stp hs rfl
      have i6 := i6.stp hs rfl
      have u3 := u3.stp hs
      refine EL_nil (thn_n (E_seq (E_region (EL_do .plain rfl (D_load (g := sF) Tryz.isAgg25 Tryz.sizeOf25 lE l5 fun uK vK => ?_)))))
      refine EL_do .plain rfl (D_loadO (g := sF) Tryz.isAgg27 Tryz.sizeOf27 rfl b164 fun xK yK => ?_)
      obtain ⟨y168, xJ, h⟩ := bsome h
      refine EL_do .plain rfl (D_call (g := sF) (vs := [uK, xK]) en55 (.cons rfl (.cons rfl .nil)) (wk55 vK yK xJ) fun zK pM eN hs hr => ?_)
      have hfr := hfr.ext hs
      have l5 := l5.ext hs
      have t5 := t5.ext hs
      have x5 := x5.ext hs
      have i6 := i6.ext hs
      have u3 := u3.ext hs
      have b164 := b164.ext hs
      obtain ⟨bD, jM, rfl, cD, rfl⟩ := hr
      refine EL_mw (.tuple #[bD, .int .i64 (y168.2)]) rfl rfl ?_
      refine EL_p bD (P_extract rfl rfl) rfl ?_
      refine EL_p (.int .i64 (y168.2)) (P_extract rfl rfl) rfl ?_
      refine EL_do .plain rfl (D_allocOc (g := zK) 2012 (⟨⟨[], [], 0, 0⟩⟩ : PayPayList) Tryz.zeroValue117 (fun m w => ⟨_, (rep_two rep_nil (rep_two rep_nil (rep_two rep_int rep_int))), rfl⟩) fun tF lH xD hs b169 cb => ?_)
      have hfr := hfr.stp hs
      have l5 := l5.stp hs
      have t5 := t5.stp hs
      have x5 := x5.stp hs rfl
      have i6 := i6.stp hs rfl
      have u3 := u3.stp hs
      have b164 := b164.stp hs rfl
      have cD := cD.stp hs
      have kM : OSF 2012 61200 0 tF lH 87 117 ([] : List PayRate) xD := cb.osf (by rfl)
      have mM : OSF 2012 61201 1 tF lH 3 117 ([] : List Int) xD := cb.osf (by rfl)
      clear cb
      refine EL_do .plain rfl (D_storeOc (g := tF) (v := bD) Tryz.sizeOf117 rfl b169 rfl cD fun aL gN hs b170 cb => ?_)
      clear cb
      have hfr := hfr.stp hs
      have l5 := l5.stp hs
      have t5 := t5.stp hs
      have x5 := x5.stp hs rfl
      have i6 := i6.stp hs rfl
      have u3 := u3.stp hs
      have b164 := b164.stp hs rfl
      refine EL_at (.int .i64 (y168.2)) rfl rfl ?_
      refine EL_nil (thn_n (E_joinC h (fun (s : (List Int)) e w => ∃ (g : Gh) (v5 : Value), Fr gI wI g w ∧ e 2 = p1 ∧ PT g.m w (x0 : PayList) p1 ∧ e 5 = v5 ∧ RV g.m w (s : List Int) v5 ∧ OS 1005 g w 3 (s : List Int) v5 ∧ e 9 = r8 ∧ MP (Value.int .i64) 8024 g w (i7 : List (Int × Int)) r8 ∧ e 11 = aD ∧ OB 2011 g w 27 (m7 : PayPiece) aD ∧ e 12 = xD ∧ OB 2012 g w 117 (y168.1 : PayPayList) xD ∧ e 25 = up1 ∧ RV g.m w (x1 : List PayPiece) up1 ∧ e 26 = .int .i64 (((x1).length : Int)) ∧ e 27 = .int .i64 (o0)) (fun X172 jH yJ h => ?_) ?_))
      ·refine E_seq (E_region (EL_mw (.int .i64 (y168.2)) rfl rfl ?_))
       refine EL_in (.bool ((y168.2 != (0 : Int)))) rfl rfl rfl rfl ?_
       refine EL_nil (thn_n ?_)
       rcases csome h with ⟨yD, h⟩ | ⟨yD, h⟩
       ·refine E_ct yD rfl ?_
        refine E_seq (E_region (EL_mw (.int .i64 (o0)) rfl rfl ?_))
        refine EL_mw (.int .i64 (y168.2)) rfl rfl ?_
        refine EL_at (.slice none 0 0) rfl rfl ?_
        refine EL_at (.slice none 0 0) rfl rfl ?_
        refine EL_at (.int .i64 (o0)) rfl rfl ?_
        refine EL_at (.int .i64 (y168.2)) rfl rfl ?_
        refine EL_nil (thn_n (E_ret (thn_r ?_)))
        refine blk_r ?_
        refine thn_r ?_
        refine thn_r ?_
        refine blk_r ?_
        refine thn_r ?_
        obtain rfl := sinj h
        exact end4 rfl rfl (show _ = .slice none 0 0 from rfl) (show _ = .slice none 0 0 from rfl) (show _ = .int .i64 (o0) from rfl) (show _ = .int .i64 (y168.2) from rfl) ⟨_, hfr, _, _, _, _, rfl, RV_nil, RV_nil, rfl, rfl⟩
       ·refine E_cf yD rfl ?_
        exact E_skip (thn_n (yJ (bA) _ _ ⟨aL, (iE), hfr, lE, l5, mE, t5, x5, oE, i6, rfl, b164, rfl, b170, eD, u3, iD, lB⟩ h))
      ·rintro vC qM iN ⟨bL, mH, hfr, nH, iA, oH, yA, aB, rE, nB, zB, d9, cG, eG, gG, k9, hG, iG⟩ h
       refine L_loadO (x := .tmp 43) part_PayPiece_0.1 Tryz.isAgg3 Tryz.sizeOf3 d9 fun jN dL zJ => ?_
       obtain rfl := RV_int.1 dL
       refine L_loadO0 (x := .tmp 12) Tryz.isAgg117 Tryz.sizeOf117 eG fun pH eL aK => ?_
       refine L_loadO0 (x := .tmp 11) Tryz.isAgg27 Tryz.sizeOf27 d9 fun qH gL bK => ?_
       refine L_loadO (x := .tmp 48) part_PayPiece_4.1 Tryz.isAgg3 Tryz.sizeOf3 d9 fun kN iL cK => ?_
       obtain rfl := RV_int.1 iL
       obtain ⟨yB, dK, h⟩ := bsome h
       refine E_drawL (g := bL) (n := 10) [(3, (fun v _ _ => v = .int .i64 (((mget i7 ((m7).Weaver)).getD (0 : Int))))), (8, (fun v g w => v = .int .i64 (yB)))] [0, 1, 2, 3, 4, 5, 6, 7, 8, 9] rfl mixed (by kernel_rfl) (⟨fun _ => up_eq _, fun _ => up_eq _, trivial⟩) ?_
       refine L_p r8 rfl rfl (P_move rE) ?_
       refine L_p (fPtr aD 0) rfl rfl (P_fieldAddr at_27_0 zB (OB.ptr d9)) ?_
       refine L_ld (c := .int .i64 ((m7).Weaver)) rfl rfl .plain (fun _ _ h => ⟨h.ch, fun b hb _ => h.below.block b hb⟩) zJ rfl ?_
       refine L_do (φ := (fun v _ _ => v = .int .i64 (((mget i7 ((m7).Weaver)).getD (0 : Int))))) rfl rfl .plain (fun g w hd => D_lookup (g := g) (z0 := (0 : Int)) Tryz.underlying125 key_3 Tryz.zeroValue3 (fun m w => ⟨_, rep_int, rfl⟩) rfl (nB.ext hd.1) rfl fun v r => ⟨g, Ext.refl g w, RV_int.1 r⟩) (fun lN hv => ?_)
       obtain ⟨_, _, _, rfl⟩ := hv
       refine L_ld (c := pH) rfl rfl .plain (fun _ _ h => ⟨h.ch, fun b hb _ => h.below.block b hb⟩) aK cG ?_
       refine L_ld (c := qH) rfl rfl .plain (fun _ _ h => ⟨h.ch, fun b hb _ => h.below.block b hb⟩) bK zB ?_
       refine L_p (fPtr aD 4) rfl rfl (P_fieldAddr at_27_4 zB (OB.ptr d9)) ?_
       refine L_ld (c := .int .i64 ((m7).Faults)) rfl rfl .plain (fun _ _ h => ⟨h.ch, fun b hb _ => h.below.block b hb⟩) cK rfl ?_
       refine L_do (φ := fun v g w => v = .int .i64 (yB)) rfl rfl .plain (fun g w hd => D_call (g := g) (vs := [pH, qH, .int .i64 ((m7).Faults)]) en58 (.cons rfl (.cons rfl (.cons rfl .nil))) (wk58 (eL.ext hd.1) (gL.ext hd.1) dK) fun g' w' v hs hr => ⟨g', hs, hr⟩) (fun mN hv => ?_)
       obtain ⟨_, _, _, rfl⟩ := hv
       refine L_p (.int .i64 ((w64 (((mget i7 ((m7).Weaver)).getD (0 : Int)) + yB)))) rfl rfl (P_int rfl rfl rfl) ?_
       refine L_nl fun jL nN hs => ?_
       have hfr := hfr.ext hs
       have iA := iA.ext hs
       have yA := yA.ext hs
       have aB := aB.ext hs
       have nB := nB.ext hs
       have k9 := k9.ext hs
       clear hs
       refine EL_do .plain rfl (D_mapUpdate (g := jL) Tryz.underlying125 key_3 rfl nB rfl rfl (RV_int.2 rfl) fun lL oN hs m203 => ?_)
       have hfr := hfr.stp hs
       have iA := iA.stp hs
       have yA := yA.stp hs
       have aB := aB.stp hs rfl
       have k9 := k9.stp hs
       exact EL_nil (blk_n (thn_n (vJ (vC, (mset i7 ((m7).Weaver) ((w64 (((mget i7 ((m7).Weaver)).getD (0 : Int)) + yB))))) _ _ ⟨lL, (mH), hfr, nH, iA, oH, yA, aB, rE, m203, gG, k9, hG, iG⟩ h)))
     ·rintro ⟨rC, uC⟩ rM pN ⟨mL, sH, hfr, tH, uH, xH, yH, zH, aI, bI, jG, kG, lG, mG⟩ h
      refine E_region (EL_in (.int .i64 ((w64 (o0 + (1 : Int))))) mG rfl rfl rfl ?_)
      refine EL_mw (.int .i64 ((w64 (o0 + (1 : Int))))) rfl rfl ?_
      exact EL_nil (thn_n (sJ (rC, uC, (w64 (o0 + (1 : Int)))) _ _ ⟨mL, (sH), hfr, tH, uH, xH, yH, zH, aI, bI, jG, kG, lG, rfl⟩ h))
    ·refine E_cf uD rfl ?_
     refine E_exit ?_
     refine thn_e ?_
     refine thn_e ?_
     refine blk_hit ?_
     exact thn_n (rJ (bA, i7) _ _ ⟨eF, (iE), hfr, mE, t5, x5, oE, i6⟩ h)
   ·rintro ⟨bE, n8⟩ sM qN ⟨nL, dI, hfr, iI, dB, iB, uE, a9⟩ h
    refine E_seq (E_region (EL_mv uE rfl ?_))
    refine EL_do .plain rfl (D_callG (g := nL) (vs := [r8]) en60 (.cons rfl .nil) (keys_fnG Tryz.keys_ok a9) fun oL rN pL hs m206 => ?_)
    have hfr := hfr.ext hs
    have dB := dB.ext hs
    have iB := iB.ext hs
    have a9 := a9.ext hs
    obtain ⟨l8, lK, h⟩ := bsome h
    refine EL_do .plain rfl (D_callG (g := oL) (vs := [pL]) en59 (.cons rfl .nil) (sorted_fnG Tryz.underlying3 Tryz.sorted_ok a9 m206 lK) fun qL sN k8 hs uF => ?_)
    have hfr := hfr.ext hs
    have dB := dB.ext hs
    have iB := iB.ext hs
    have a9 := a9.ext hs
    refine EL_at k8 rfl rfl ?_
    refine EL_nil (thn_n ?_)
    obtain ⟨mB, hx, h⟩ := bsome h
    refine E_join (fun e w => ∃ (g : Gh) (v5 : Value), Fr gI wI g w ∧ e 4 = k8 ∧ RV g.m w (l8 : List Int) k8 ∧ e 5 = v5 ∧ RV g.m w (mB : List Int) v5 ∧ OS 1005 g w 3 (mB : List Int) v5) (fun Q' hQ => ?_) (fun tM tN hR => ?_)
    ·replace h := hx
     clear hx
     refine E_seq (E_region (EL_mw k8 rfl rfl ?_))
     refine EL_p (.int .i64 ((l8).length : Int)) (P_len Tryz.underlying23 rfl uF) rfl ?_
     refine EL_mw (.int .i64 (0)) rfl rfl ?_
     refine EL_nil (thn_n (E_block ?_))
     refine E_lp h (fun (s : (List Int) × Int) e w => ∃ (g : Gh) (v5 : Value), Fr gI wI g w ∧ e 4 = k8 ∧ RV g.m w (l8 : List Int) k8 ∧ e 5 = v5 ∧ RV g.m w (s.1 : List Int) v5 ∧ OS 1005 g w 3 (s.1 : List Int) v5 ∧ e 9 = r8 ∧ MP (Value.int .i64) 8024 g w (n8 : List (Int × Int)) r8 ∧ e 56 = k8 ∧ RV g.m w (l8 : List Int) k8 ∧ e 57 = .int .i64 (((l8).length : Int)) ∧ e 58 = .int .i64 (s.2)) ⟨qL, (dI), hfr, rfl, uF, iI, dB, iB, uE, a9, rfl, uF, rfl, rfl⟩ (fun X227 aH mK => ?_)
     rintro ⟨qC, x6⟩ uM uN ⟨zD, jI, hfr, vE, l9, xE, oB, tB, yE, n9, jD, m8, lD, cC⟩ h
     refine E_seq (E_region (EL_in (.bool ((decide (x6 < ((l8).length : Int))))) cC lD rfl rfl ?_))
     refine EL_nil (thn_n (E_seq ?_))
     rcases csome h with ⟨aE, h⟩ | ⟨aE, h⟩
     ·refine E_ct aE rfl ?_
      refine E_skip (thn_n ?_)
      obtain ⟨u9, hx, h⟩ := bsome h
      refine E_join (fun e w => ∃ (g : Gh) (v5 : Value), Fr gI wI g w ∧ e 4 = k8 ∧ RV g.m w (l8 : List Int) k8 ∧ e 5 = v5 ∧ RV g.m w (u9 : List Int) v5 ∧ OS 1005 g w 3 (u9 : List Int) v5 ∧ e 9 = r8 ∧ MP (Value.int .i64) 8024 g w (n8 : List (Int × Int)) r8 ∧ e 56 = k8 ∧ RV g.m w (l8 : List Int) k8 ∧ e 57 = .int .i64 (((l8).length : Int)) ∧ e 58 = .int .i64 (x6)) (fun Q' hQ => ?_) (fun vM vN hR => ?_)
      ·replace h := hx
       clear hx
       refine E_block ?_
       refine E_seq (E_region ?_)
       obtain ⟨vB, bG, h⟩ := bsome h
       refine EL_p (ePtr k8 x6 1) (P_indexAddr (α := Int) Tryz.underlying23 Tryz.sizeOf3 jD m8 cC bG) rfl ?_
       have rL := PT_idx m8 bG
       refine EL_do .plain rfl (D_load (g := zD) Tryz.isAgg3 Tryz.sizeOf3 rfl rL fun xN tL => ?_)
       obtain rfl := RV_int.1 tL
       refine EL_at (.int .i64 (vB)) rfl rfl ?_
       refine EL_nil (thn_n (E_region (EL_mv xE rfl ?_)))
       refine EL_mv yE rfl ?_
       refine EL_mw (.int .i64 (vB)) rfl rfl ?_
       refine EL_do .plain rfl (D_lookup (g := zD) (z0 := (0 : Int)) Tryz.underlying125 key_3 Tryz.zeroValue3 (fun m w => ⟨_, rep_int, rfl⟩) rfl n9 rfl fun yN uL => ?_)
       obtain rfl := RV_int.1 uL
       refine EL_do .plain rfl (D_buildSlice (g := zD) 3066 (xs := ([((mget n8 vB).getD (0 : Int))] : List Int)) (vs := [.int .i64 (((mget n8 vB).getD (0 : Int)))]) Tryz.underlying23 Tryz.sizeOf3 Tryz.zeroValue3 rfl rfl (.cons rfl .nil) (RVs.cons (RV_int.2 rfl) RVs.nil) rfl rfl fun vL zN aO hs o241 xL hxt hfl => ?_)
       have hfr := hfr.stp hs
       have l9 := l9.stp hs
       have oB := oB.stp hs
       have tB := tB.stp hs rfl
       have n9 := n9.stp hs rfl
       have m8 := m8.stp hs
       obtain ⟨cH, nK, h⟩ := bsome h
       refine EL_do .plain rfl (D_append (g := vL) (i := 1005) Tryz.underlying23 info_3 rfl rfl tB oB rfl xL nK fun yL bO kI hs o242 zL _ => ?_)
       have hfr := hfr.stp hs
       have l9 := l9.stp hs
       have n9 := n9.stp hs rfl
       have m8 := m8.stp hs
       refine EL_at kI rfl rfl ?_
       refine EL_nil (blk_n ?_)
       obtain rfl := sinj h
       exact hQ _ _ ⟨yL, (kI), hfr, vE, l9, rfl, zL, o242, yE, n9, jD, m8, lD, cC⟩
      ·clear hx
       obtain ⟨aM, lI, hfr, mI, nI, pI, qI, sI, tI, uI, sG, xG, yG, zG⟩ := hR
       refine E_region (EL_in (.int .i64 ((w64 (x6 + (1 : Int))))) zG rfl rfl rfl ?_)
       refine EL_mw (.int .i64 ((w64 (x6 + (1 : Int))))) rfl rfl ?_
       exact EL_nil (thn_n (mK (u9, (w64 (x6 + (1 : Int)))) _ _ ⟨aM, (lI), hfr, mI, nI, pI, qI, sI, tI, uI, sG, xG, yG, rfl⟩ h))
     ·refine E_cf aE rfl ?_
      refine E_exit ?_
      refine thn_e ?_
      refine thn_e ?_
      refine blk_hit ?_
      obtain rfl := sinj h
      exact hQ _ _ ⟨zD, (jI), hfr, vE, l9, xE, oB, tB⟩
    ·clear hx
     obtain ⟨cO, zE, hfr, vI, yI, zI, eJ, nM⟩ := hR
     refine E_seq (E_region (EL_mv vI rfl ?_))
     refine EL_mv zI rfl ?_
     refine EL_at k8 rfl rfl ?_
     refine EL_at zE rfl rfl ?_
     refine EL_at (.int .i64 (0)) rfl rfl ?_
     refine EL_at (.int .i64 (0)) rfl rfl ?_
     refine EL_nil (thn_n (E_ret ?_))
     obtain rfl := sinj h
     exact end4 rfl rfl (show _ = k8 from rfl) (show _ = zE from rfl) (show _ = .int .i64 (0) from rfl) (show _ = .int .i64 (0) from rfl) ⟨_, hfr, _, _, _, _, rfl, yI, eJ, rfl, rfl⟩
theorem W14 {iO : Nat} {gI : Gh} {wI : World} {x0 : List PayPiece} {up0 : Value} (rp0 : RV gI.m wI x0 up0) {r : (List PayPiece)} (h : f14 x0 = some r) : FnG Tryz.prog 14 #[up0] gI wI (fun g w v => OWx (Ow.list 27 ow_PayPiece) iO g w r v) := by
 unfold f14 at h
 refine fnG_of_E Tryz.func14 rfl (Nat.le_of_ble_eq_true rfl) fun g0 hm hfr => ?_
 have rp0 : RV g0.m wI x0 up0 := hm ▸ rp0
 show E _ 27 none _ _ _ _ _
 refine E_seq (E_region (EL_at (.slice none 0 0) rfl rfl ?_))
 refine EL_nil (thn_n (E_seq (E_region (EL_do .plain rfl (D_buildSliceA (g := g0) 4003 (xs := ([] : List PayPiece)) (vs := []) Tryz.underlying33 Tryz.sizeOf27 Tryz.zeroValue27 rfl rfl .nil RVs.nil rfl rfl fun g1 w1 v1 hs b1 _ => ?_)))))
 have hfr := hfr.stp hs
 have rp0 := rp0.stp hs
 refine EL_at v1 rfl rfl ?_
 obtain ⟨sk2, ow2, ok2⟩ := OA.toW0 ow_PayPiece b1
 refine EL_nil (thn_n ?_)
 obtain ⟨d9, hx, h⟩ := bsome h
 refine E_join (fun e w => ∃ (g : Gh) (v3 : Value), Fr gI wI g w ∧ e 3 = v3 ∧ OWx (Ow.list 27 ow_PayPiece) 4003 g w (d9 : List PayPiece) v3) (fun Q' hQ => ?_) (fun aE lE hR => ?_)
 ·replace h := hx
  clear hx
  refine E_seq (E_region (EL_at (.int .i64 (0)) rfl rfl ?_))
  refine EL_nil (thn_n (E_block ?_))
  refine E_lp h (fun (s : (List PayPiece) × Int) e w => ∃ (g : Gh) (v3 : Value), Fr gI wI g w ∧ e 0 = up0 ∧ RV g.m w (x0 : List PayPiece) up0 ∧ e 3 = v3 ∧ OWx (Ow.list 27 ow_PayPiece) 4003 g w (s.1 : List PayPiece) v3 ∧ e 4 = .int .i64 (s.2)) ⟨g1, (v1), hfr, rfl, rp0, rfl, ⟨_, ow2, ok2⟩, rfl⟩ (fun X52 xE mC => ?_)
  rintro ⟨mB, l5⟩ mE yE ⟨tB, t5, hfr, m7, g8, k8, ⟨cD, l8, x5⟩, m8⟩ h
  refine E_joinC h (fun (s : Unit) e w => ∃ (g : Gh) , Fr gI wI g w ∧ e 0 = up0 ∧ RV g.m w (x0 : List PayPiece) up0 ∧ e 3 = t5 ∧ OWx (Ow.list 27 ow_PayPiece) 4003 g w (mB : List PayPiece) t5 ∧ e 4 = .int .i64 (l5)) (fun X55 zE qC h => ?_) ?_
  ·refine E_seq (E_region (EL_mv m8 rfl ?_))
   refine EL_mv m7 rfl ?_
   refine EL_p (.int .i64 ((x0).length : Int)) (P_len Tryz.underlying33 rfl g8) rfl ?_
   refine EL_in (.bool ((decide (l5 < ((x0).length : Int))))) rfl rfl rfl rfl ?_
   refine EL_nil (thn_n ?_)
   rcases csome h with ⟨i7, h⟩ | ⟨i7, h⟩
   ·refine E_ct i7 rfl ?_
    exact E_skip (thn_n (qC () _ _ ⟨tB, hfr, m7, g8, k8, ⟨_, l8, x5⟩, m8⟩ h))
   ·refine E_cf i7 rfl ?_
    refine E_exit ?_
    refine thn_e ?_
    refine thn_e ?_
    refine blk_hit ?_
    obtain rfl := sinj h
    exact hQ _ _ ⟨tB, (t5), hfr, k8, ⟨_, l8, x5⟩⟩
  ·rintro _ oE cF ⟨vB, hfr, n8, o0, nB, ⟨eD, u3, k9⟩, r8⟩ h
   obtain ⟨i6, hx, h⟩ := bsome h
   refine E_join (fun e w => ∃ (g : Gh) (v3 : Value), Fr gI wI g w ∧ e 0 = up0 ∧ RV g.m w (x0 : List PayPiece) up0 ∧ e 3 = v3 ∧ OWx (Ow.list 27 ow_PayPiece) 4003 g w (i6 : List PayPiece) v3 ∧ e 4 = .int .i64 (l5)) (fun Q' hQ => ?_) (fun bE rE hR => ?_)
   ·replace h := hx
    clear hx
    refine E_block ?_
    refine E_seq (E_region (EL_mv n8 rfl ?_))
    refine EL_mv r8 rfl ?_
    obtain ⟨y80, l9, h⟩ := bsome h
    refine EL_p (ePtr up0 l5 5) (P_indexAddr (α := PayPiece) Tryz.underlying33 Tryz.sizeOf27 rfl o0 rfl l9) rfl ?_
    have iD := PT_idx o0 l9
    refine EL_do .plain rfl (D_load (g := vB) Tryz.isAgg27 Tryz.sizeOf27 rfl iD fun jD n9 => ?_)
    refine EL_do .plain rfl (D_allocOc (g := vB) 2005 (⟨0, 0, 0, [], 0⟩ : PayPiece) Tryz.zeroValue27 (fun m w => ⟨_, (rep_two rep_int (rep_two rep_int (rep_two rep_int (rep_two rep_nil rep_int)))), rfl⟩) fun yB lD nD hs b83 cb => ?_)
    have hfr := hfr.stp hs
    have o0 := o0.stp hs
    have u3 := u3.stp hs rfl
    have n9 := n9.stp hs
    have iE : OSF 2005 60503 3 yB lD 3 27 ([] : List Int) nD := cb.osf (by rfl)
    clear cb
    refine EL_do .plain rfl (D_storeOc (g := yB) (v := jD) Tryz.sizeOf27 rfl b83 rfl n9 fun oD dF hs b84 cb => ?_)
    clear cb
    have hfr := hfr.stp hs
    have o0 := o0.stp hs
    have u3 := u3.stp hs rfl
    obtain ⟨bk85, hpp85, b85⟩ := OB.toOV ow_PayPiece b84
    subst hpp85
    refine EL_nil (thn_n (E_seq (E_region (EL_do .plain rfl (D_buildSlice (g := oD) 3017 (xs := ([] : List Int)) (vs := []) Tryz.underlying23 Tryz.sizeOf3 Tryz.zeroValue3 rfl rfl .nil RVs.nil rfl rfl fun zB eF rF hs o86 sF hxt hfl => ?_)))))
    have hfr := hfr.stp hs
    have o0 := o0.stp hs
    have u3 := u3.stp hs rfl
    have b85 := b85.stp hs rfl
    refine EL_p ((.pointer (some ⟨bk85, (0 + 3), none⟩))) (P_fieldAddrH at_27_3 rfl) rfl ?_
    refine EL_do .plain rfl (D_loadSh (g := zB) (Cxt.fld (Cxt.root ow_PayPiece bk85) fl_PayPiece_3 (y80) ((ow_PayPiece).s0)) rfl rfl Tryz.isAgg23 Tryz.sizeOf23 rfl b85 fun tF sD => ?_)
    obtain ⟨tD, rC, h⟩ := bsome h
    have oa90 := OA.ofOS o86
    refine EL_do .plain rfl (D_appendA (g := zB) plain_int (i := 3017) Tryz.underlying23 info_3 rfl rfl oa90 rfl sD rC fun uD uF vF hs b90 => ?_)
    have hfr := hfr.stp hs
    have o0 := o0.stp hs
    have u3 := u3.stp hs rfl
    have b85 := b85.stp hs rfl
    refine EL_p ((.pointer (some ⟨bk85, (0 + 3), none⟩))) (P_fieldAddrH at_27_3 rfl) rfl ?_
    obtain ⟨sk94, ow94, ok94⟩ := OA.toW b90
    refine EL_do .plain rfl (D_storeW (g := uD) (Cxt.fld (Cxt.root ow_PayPiece bk85) fl_PayPiece_3 (y80) ((ow_PayPiece).s0)) rfl rfl Tryz.sizeOf23 rfl b85 rfl ow94 rfl fun gj95 u9 xD hsa hsb b95 => ?_)
    have hfr := hfr.stp hsa
    have o0 := o0.stp hsa
    have u3 := u3.stp hsa rfl
    have hfr := hfr.stp hsb
    have o0 := o0.stp hsb
    have u3 := u3.stp hsb rfl
    clear hsa hsb
    replace b95 : OV ow_PayPiece 2005 u9 xD 27 (({ y80 with Extras := tD } : PayPiece) : PayPiece) bk85 ((Prod.fst (ow_PayPiece).s0), ((Prod.fst (Prod.snd (ow_PayPiece).s0)), ((Prod.fst (Prod.snd (Prod.snd (ow_PayPiece).s0))), (sk94, (Prod.snd (Prod.snd (Prod.snd (Prod.snd (ow_PayPiece).s0)))))))) := b95
    refine EL_nil (thn_n (E_region (EL_mv nB rfl ?_)))
    refine EL_do .plain rfl (D_loadW (g := u9) Tryz.isAgg27 Tryz.sizeOf27 rfl b95 rfl fun xF uC => ?_)
    refine EL_do .plain rfl (D_buildSliceW (g := u9) (E := ow_PayPiece) Tryz.underlying33 Tryz.sizeOf27 Tryz.zeroValue27 rfl rfl rfl rfl uC ⟨trivial, ⟨trivial, ⟨trivial, ⟨ok94, trivial⟩⟩⟩⟩ fun yD yF b98 hs bw98 bk98 => ?_)
    have hfr := hfr.stp hs
    have o0 := o0.stp hs
    have u3 := u3.stp hs rfl
    obtain ⟨uE, oB, h⟩ := bsome h
    refine EL_do .plain rfl (D_appendW (g := yD) Tryz.underlying33 info_27 rfl rfl u3 k9 rfl bw98 bk98 (by exact Nat.le_refl 1) rfl oB fun gm99 zD aG cC sk99 hs hs2 bw99 bk99 => ?_)
    have hfr := hfr.stp hs
    have o0 := o0.stp hs
    clear hs
    have hs := hs2
    have hfr := hfr.stp hs
    have o0 := o0.stp hs
    clear hs2
    refine EL_at cC rfl rfl ?_
    refine EL_nil (blk_n ?_)
    obtain rfl := sinj h
    exact hQ _ _ ⟨zD, (cC), hfr, n8, o0, rfl, ⟨_, bw99, bk99⟩, r8⟩
   ·clear hx
    obtain ⟨vC, y9, hfr, bA, iA, yA, ⟨aD, aB, v8⟩, dB⟩ := hR
    refine E_region (EL_mv dB rfl ?_)
    refine EL_in (.int .i64 ((w64 (l5 + (1 : Int))))) rfl rfl rfl rfl ?_
    refine EL_at (.int .i64 ((w64 (l5 + (1 : Int))))) rfl rfl ?_
    exact EL_nil (thn_n (mC (i6, (w64 (l5 + (1 : Int)))) _ _ ⟨vC, (y9), hfr, bA, iA, yA, ⟨_, aB, v8⟩, rfl⟩ h))
 ·clear hx
  obtain ⟨vE, x6, hfr, iB, ⟨bD, lB, a9⟩⟩ := hR
  refine E_seq (E_region (EL_mv iB rfl ?_))
  refine EL_at x6 rfl rfl ?_
  refine EL_nil (thn_n (E_ret ?_))
  obtain rfl := sinj h
  obtain ⟨gh, hxh, _, homh⟩ := OW.hand (i := iO) hfr lB a9
  exact end1 rfl rfl (show _ = x6 from rfl) ⟨gh, hxh, homh⟩
theorem W13 {iO : Nat} {gI : Gh} {wI : World} {x0 : PayList} {up0 : Value} (rp0 : RV gI.m wI x0 up0) {r : PayList} (h : f13 x0 = some r) : FnG Tryz.prog 13 #[up0] gI wI (fun g w v => OWx ow_PayList iO g w r v) := by
 unfold f13 at h
 refine fnG_of_E Tryz.func13 rfl (Nat.le_of_ble_eq_true rfl) fun g0 hm hfr => ?_
 have rp0 : RV g0.m wI x0 up0 := hm ▸ rp0
 show E _ 14 none _ _ _ _ _
 refine E_seq (E_region (EL_do .plain rfl (D_boxV (g := g0) ow_PayList 2001 rfl rp0 fun g1 w1 bk1 hs b1 => ?_)))
 have hfr := hfr.stp hs
 refine EL_do .plain rfl (D_allocOc (g := g1) 2002 (⟨[], [], 0, 0⟩ : PayList) Tryz.zeroValue25 (fun m w => ⟨_, (rep_two rep_nil (rep_two rep_nil (rep_two rep_int rep_int))), rfl⟩) fun g2 w2 p2 hs b2 cb => ?_)
 have hfr := hfr.stp hs
 have b1 := b1.stp hs rfl
 have vB : OSF 2002 60200 0 g2 w2 87 25 ([] : List PayRate) p2 := cb.osf (by rfl)
 have yB : OSF 2002 60201 1 g2 w2 3 25 ([] : List Int) p2 := cb.osf (by rfl)
 clear cb
 refine EL_nil (thn_n (E_seq (L_loadSh (x := .tmp 4) (Cxt.fld (Cxt.root ow_PayList bk1) fl_PayList_0 (x0) ((ow_PayList).s0)) rfl rfl Tryz.isAgg22 Tryz.sizeOf22 b1 fun lB u3 dB => ?_)))
 obtain ⟨t5, m8, h⟩ := bsome h
 refine L_loadSh (x := .tmp 8) (Cxt.fld (Cxt.root ow_PayList bk1) fl_PayList_1 (x0) ((ow_PayList).s0)) rfl rfl Tryz.isAgg23 Tryz.sizeOf23 b1 fun mB o0 iB => ?_
 obtain ⟨r8, n8, h⟩ := bsome h
 refine E_drawT_ (g := g2) (w := w2) (n := 9) [1, 2, 5, 6, 8] [] [2001] [2001] 7 (.step 1 (.step 2 (.step 5 (.step 6 (.alt 0 (.alt 3 (.step 8 (.step 4 (.step 7 .done))) (.alt 4 (.step 3 (.step 8 (.step 7 .done))) .stop)) (.alt 4 (.step 0 (.step 3 (.step 8 (.step 7 .done)))) .stop)))))) mixed (by kernel_rfl) rfl fun w_c7 hs hlt => ?_
 have hfr := hfr.ext hs
 have b1 := b1.ext hs
 have b2 := b2.ext hs
 clear hs
 refine CT_pur (c := (.pointer (some ⟨bk1, (0 + 0), none⟩))) rfl rfl .plain (P_fieldAddrH at_25_0 rfl) ?_
 refine CT_ldO false (n := 2001) (c := lB) rfl rfl .plain dB rfl rfl ?_
 have u3 := u3.ch hlt.1
 refine CT_pur (c := (.pointer (some ⟨bk1, (0 + 1), none⟩))) rfl rfl .plain (P_fieldAddrH at_25_1 rfl) ?_
 refine CT_ldO false (n := 2001) (c := mB) rfl rfl .plain iB rfl rfl ?_
 have o0 := o0.ch hlt.1
 refine CT_alt ?_ (CT_alt ?_ CT_stop)
 ·refine CT_do [2001] rfl rfl rfl .plain (D_buildSlice (g := g2) 3003 (xs := ([] : List PayRate)) (vs := []) Tryz.underlying22 Tryz.sizeOf87 Tryz.zeroValue87 rfl rfl .nil RVs.nil rfl rfl fun v8 nB oB hs o22 tB hxt hfl => ?_)
  have hfr := hfr.stp hs
  have hlt := hlt.stp hs
  have b1 := b1.stp hs rfl
  have b2 := b2.stp hs rfl
  have u3 := u3.stp hs
  have o0 := o0.stp hs
  refine ⟨hlt.toW, ?_⟩
  refine CT_alt ?_ (CT_alt ?_ CT_stop)
  ·have oa202 := OA.ofOS o22
   refine CT_do [2001] rfl rfl rfl .plain (D_appendA (g := v8) plain_PayRate (i := 3003) Tryz.underlying22 info_87 rfl rfl oa202 rfl u3 m8 fun i7 a9 d9 hs b202 => ?_)
   have hfr := hfr.stp hs
   have hlt := hlt.stp hs
   have b1 := b1.stp hs rfl
   have b2 := b2.stp hs rfl
   have o0 := o0.stp hs
   refine ⟨hlt.toW, ?_⟩
   refine CT_pur (c := (.pointer (some ⟨bk1, (0 + 0), none⟩))) rfl rfl .plain (P_fieldAddrH at_25_0 rfl) ?_
   refine CT_do [2001] rfl rfl rfl .plain (D_buildSlice (g := i7) 3007 (xs := ([] : List Int)) (vs := []) Tryz.underlying23 Tryz.sizeOf3 Tryz.zeroValue3 rfl rfl .nil RVs.nil rfl rfl fun m7 k9 l9 hs o262 n9 hxt hfl => ?_)
   have hfr := hfr.stp hs
   have hlt := hlt.stp hs
   have b1 := b1.stp hs rfl
   have b2 := b2.stp hs rfl
   have o0 := o0.stp hs
   have b202 := b202.stp hs rfl
   refine ⟨hlt.toW, ?_⟩
   have oa442 := OA.ofOS o262
   refine CT_do [2001] rfl rfl rfl .plain (D_appendA (g := m7) plain_int (i := 3007) Tryz.underlying23 info_3 rfl rfl oa442 rfl o0 n8 fun g8 u9 y9 hs b442 => ?_)
   have hfr := hfr.stp hs
   have hlt := hlt.stp hs
   have b1 := b1.stp hs rfl
   have b2 := b2.stp hs rfl
   have b202 := b202.stp hs rfl
   refine ⟨hlt.toW, ?_⟩
   refine CT_nil ?_
   clear hlt
   obtain ⟨sk623, ow623, ok623⟩ := OA.toW b202
   refine EL_do .plain rfl (D_storeW (g := g8) (Cxt.fld (Cxt.root ow_PayList bk1) fl_PayList_0 (x0) ((ow_PayList).s0)) rfl rfl Tryz.sizeOf22 rfl b1 rfl ow623 rfl fun gj624 x5 k8 hsa hsb b624 => ?_)
   have hfr := hfr.stp hsa
   have b2 := b2.stp hsa rfl
   have b442 := b442.stp hsa rfl
   have hfr := hfr.stp hsb
   have b2 := b2.stp hsb rfl
   have b442 := b442.stp hsb rfl
   clear hsa hsb
   replace b624 : OV ow_PayList 2001 x5 k8 25 (({ x0 with Rates := t5 } : PayList) : PayList) bk1 (sk623, (Prod.snd (ow_PayList).s0)) := b624
   refine EL_p ((.pointer (some ⟨bk1, (0 + 1), none⟩))) (P_fieldAddrH at_25_1 rfl) rfl ?_
   obtain ⟨sk627, ow627, ok627⟩ := OA.toW b442
   refine EL_do .plain rfl (D_storeW (g := x5) (Cxt.fld (Cxt.root ow_PayList bk1) fl_PayList_1 (({ x0 with Rates := t5 } : PayList)) ((sk623, (Prod.snd (ow_PayList).s0)))) rfl rfl Tryz.sizeOf23 rfl b624 rfl ow627 rfl fun gj628 l5 l8 hsa hsb b628 => ?_)
   have hfr := hfr.stp hsa
   have b2 := b2.stp hsa rfl
   have hfr := hfr.stp hsb
   have b2 := b2.stp hsb rfl
   clear hsa hsb
   replace b628 : OV ow_PayList 2001 l5 l8 25 (({ (({ x0 with Rates := t5 } : PayList)) with Extras := r8 } : PayList) : PayList) bk1 (sk623, (sk627, (Prod.snd (Prod.snd (ow_PayList).s0)))) := b628
   refine EL_nil (thn_n (E_seq (E_region (EL_do .plain rfl (D_loadW (g := l5) Tryz.isAgg25 Tryz.sizeOf25 rfl b628 rfl fun bA i6 => ?_)))))
   refine EL_do .plain rfl (D_storeOW (g := l5) Tryz.sizeOf25 rfl b2 rfl i6 rfl fun gj631 iA yA bk631 hsa hsb hpp b631 => ?_)
   have hfr := hfr.stp hsa
   have hfr := hfr.stp hsb
   clear hsa hsb
   subst hpp
   refine EL_nil (thn_n (E_ret ?_))
   obtain rfl := sinj h
   obtain ⟨aB, x6, ow632⟩ := OV.read (t := 25) Tryz.isAgg25 Tryz.sizeOf25 b631 rfl
   obtain ⟨gh, hxh, _, homh⟩ := OW.hand (i := iO) hfr ow632 ⟨ok623, ⟨ok627, ⟨trivial, trivial⟩⟩⟩
   exact endm_c rfl rfl (show _ = (Value.pointer (some ⟨bk631, 0, none⟩)) from rfl) x6 ⟨gh, hxh, homh⟩
  ·refine CT_do [2001] rfl rfl rfl .plain (D_buildSlice (g := v8) 3007 (xs := ([] : List Int)) (vs := []) Tryz.underlying23 Tryz.sizeOf3 Tryz.zeroValue3 rfl rfl .nil RVs.nil rfl rfl fun m7 k9 l9 hs o262 n9 hxt hfl => ?_)
   have hfr := hfr.stp hs
   have hlt := hlt.stp hs
   have b1 := b1.stp hs rfl
   have b2 := b2.stp hs rfl
   have u3 := u3.stp hs
   have o0 := o0.stp hs
   have o22 := o22.stp hs rfl
   refine ⟨hlt.toW, ?_⟩
   have oa202 := OA.ofOS o22
   refine CT_do [2001] rfl rfl rfl .plain (D_appendA (g := m7) plain_PayRate (i := 3003) Tryz.underlying22 info_87 rfl rfl oa202 rfl u3 m8 fun i7 a9 d9 hs b202 => ?_)
   have hfr := hfr.stp hs
   have hlt := hlt.stp hs
   have b1 := b1.stp hs rfl
   have b2 := b2.stp hs rfl
   have o0 := o0.stp hs
   have o262 := o262.stp hs rfl
   refine ⟨hlt.toW, ?_⟩
   refine CT_pur (c := (.pointer (some ⟨bk1, (0 + 0), none⟩))) rfl rfl .plain (P_fieldAddrH at_25_0 rfl) ?_
   have oa442 := OA.ofOS o262
   refine CT_do [2001] rfl rfl rfl .plain (D_appendA (g := i7) plain_int (i := 3007) Tryz.underlying23 info_3 rfl rfl oa442 rfl o0 n8 fun g8 u9 y9 hs b442 => ?_)
   have hfr := hfr.stp hs
   have hlt := hlt.stp hs
   have b1 := b1.stp hs rfl
   have b2 := b2.stp hs rfl
   have b202 := b202.stp hs rfl
   refine ⟨hlt.toW, ?_⟩
   refine CT_nil ?_
   clear hlt
   obtain ⟨sk623, ow623, ok623⟩ := OA.toW b202
   refine EL_do .plain rfl (D_storeW (g := g8) (Cxt.fld (Cxt.root ow_PayList bk1) fl_PayList_0 (x0) ((ow_PayList).s0)) rfl rfl Tryz.sizeOf22 rfl b1 rfl ow623 rfl fun gj624 x5 k8 hsa hsb b624 => ?_)
   have hfr := hfr.stp hsa
   have b2 := b2.stp hsa rfl
   have b442 := b442.stp hsa rfl
   have hfr := hfr.stp hsb
   have b2 := b2.stp hsb rfl
   have b442 := b442.stp hsb rfl
   clear hsa hsb
   replace b624 : OV ow_PayList 2001 x5 k8 25 (({ x0 with Rates := t5 } : PayList) : PayList) bk1 (sk623, (Prod.snd (ow_PayList).s0)) := b624
   refine EL_p ((.pointer (some ⟨bk1, (0 + 1), none⟩))) (P_fieldAddrH at_25_1 rfl) rfl ?_
   obtain ⟨sk627, ow627, ok627⟩ := OA.toW b442
   refine EL_do .plain rfl (D_storeW (g := x5) (Cxt.fld (Cxt.root ow_PayList bk1) fl_PayList_1 (({ x0 with Rates := t5 } : PayList)) ((sk623, (Prod.snd (ow_PayList).s0)))) rfl rfl Tryz.sizeOf23 rfl b624 rfl ow627 rfl fun gj628 l5 l8 hsa hsb b628 => ?_)
   have hfr := hfr.stp hsa
   have b2 := b2.stp hsa rfl
   have hfr := hfr.stp hsb
   have b2 := b2.stp hsb rfl
   clear hsa hsb
   replace b628 : OV ow_PayList 2001 l5 l8 25 (({ (({ x0 with Rates := t5 } : PayList)) with Extras := r8 } : PayList) : PayList) bk1 (sk623, (sk627, (Prod.snd (Prod.snd (ow_PayList).s0)))) := b628
   refine EL_nil (thn_n (E_seq (E_region (EL_do .plain rfl (D_loadW (g := l5) Tryz.isAgg25 Tryz.sizeOf25 rfl b628 rfl fun bA i6 => ?_)))))
   refine EL_do .plain rfl (D_storeOW (g := l5) Tryz.sizeOf25 rfl b2 rfl i6 rfl fun gj631 iA yA bk631 hsa hsb hpp b631 => ?_)
   have hfr := hfr.stp hsa
   have hfr := hfr.stp hsb
   clear hsa hsb
   subst hpp
   refine EL_nil (thn_n (E_ret ?_))
   obtain rfl := sinj h
   obtain ⟨aB, x6, ow632⟩ := OV.read (t := 25) Tryz.isAgg25 Tryz.sizeOf25 b631 rfl
   obtain ⟨gh, hxh, _, homh⟩ := OW.hand (i := iO) hfr ow632 ⟨ok623, ⟨ok627, ⟨trivial, trivial⟩⟩⟩
   exact endm_c rfl rfl (show _ = (Value.pointer (some ⟨bk631, 0, none⟩)) from rfl) x6 ⟨gh, hxh, homh⟩
 ·refine CT_do [2001] rfl rfl rfl .plain (D_buildSlice (g := g2) 3007 (xs := ([] : List Int)) (vs := []) Tryz.underlying23 Tryz.sizeOf3 Tryz.zeroValue3 rfl rfl .nil RVs.nil rfl rfl fun m7 k9 l9 hs o262 n9 hxt hfl => ?_)
  have hfr := hfr.stp hs
  have hlt := hlt.stp hs
  have b1 := b1.stp hs rfl
  have b2 := b2.stp hs rfl
  have u3 := u3.stp hs
  have o0 := o0.stp hs
  refine ⟨hlt.toW, ?_⟩
  refine CT_do [2001] rfl rfl rfl .plain (D_buildSlice (g := m7) 3003 (xs := ([] : List PayRate)) (vs := []) Tryz.underlying22 Tryz.sizeOf87 Tryz.zeroValue87 rfl rfl .nil RVs.nil rfl rfl fun v8 nB oB hs o22 tB hxt hfl => ?_)
  have hfr := hfr.stp hs
  have hlt := hlt.stp hs
  have b1 := b1.stp hs rfl
  have b2 := b2.stp hs rfl
  have u3 := u3.stp hs
  have o0 := o0.stp hs
  have o262 := o262.stp hs rfl
  refine ⟨hlt.toW, ?_⟩
  have oa202 := OA.ofOS o22
  refine CT_do [2001] rfl rfl rfl .plain (D_appendA (g := v8) plain_PayRate (i := 3003) Tryz.underlying22 info_87 rfl rfl oa202 rfl u3 m8 fun i7 a9 d9 hs b202 => ?_)
  have hfr := hfr.stp hs
  have hlt := hlt.stp hs
  have b1 := b1.stp hs rfl
  have b2 := b2.stp hs rfl
  have o0 := o0.stp hs
  have o262 := o262.stp hs rfl
  refine ⟨hlt.toW, ?_⟩
  refine CT_pur (c := (.pointer (some ⟨bk1, (0 + 0), none⟩))) rfl rfl .plain (P_fieldAddrH at_25_0 rfl) ?_
  have oa442 := OA.ofOS o262
  refine CT_do [2001] rfl rfl rfl .plain (D_appendA (g := i7) plain_int (i := 3007) Tryz.underlying23 info_3 rfl rfl oa442 rfl o0 n8 fun g8 u9 y9 hs b442 => ?_)
  have hfr := hfr.stp hs
  have hlt := hlt.stp hs
  have b1 := b1.stp hs rfl
  have b2 := b2.stp hs rfl
  have b202 := b202.stp hs rfl
  refine ⟨hlt.toW, ?_⟩
  refine CT_nil ?_
  clear hlt
  obtain ⟨sk623, ow623, ok623⟩ := OA.toW b202
  refine EL_do .plain rfl (D_storeW (g := g8) (Cxt.fld (Cxt.root ow_PayList bk1) fl_PayList_0 (x0) ((ow_PayList).s0)) rfl rfl Tryz.sizeOf22 rfl b1 rfl ow623 rfl fun gj624 x5 k8 hsa hsb b624 => ?_)
  have hfr := hfr.stp hsa
  have b2 := b2.stp hsa rfl
  have b442 := b442.stp hsa rfl
  have hfr := hfr.stp hsb
  have b2 := b2.stp hsb rfl
  have b442 := b442.stp hsb rfl
  clear hsa hsb
  replace b624 : OV ow_PayList 2001 x5 k8 25 (({ x0 with Rates := t5 } : PayList) : PayList) bk1 (sk623, (Prod.snd (ow_PayList).s0)) := b624
  refine EL_p ((.pointer (some ⟨bk1, (0 + 1), none⟩))) (P_fieldAddrH at_25_1 rfl) rfl ?_
  obtain ⟨sk627, ow627, ok627⟩ := OA.toW b442
  refine EL_do .plain rfl (D_storeW (g := x5) (Cxt.fld (Cxt.root ow_PayList bk1) fl_PayList_1 (({ x0 with Rates := t5 } : PayList)) ((sk623, (Prod.snd (ow_PayList).s0)))) rfl rfl Tryz.sizeOf23 rfl b624 rfl ow627 rfl fun gj628 l5 l8 hsa hsb b628 => ?_)
  have hfr := hfr.stp hsa
  have b2 := b2.stp hsa rfl
  have hfr := hfr.stp hsb
  have b2 := b2.stp hsb rfl
  clear hsa hsb
  replace b628 : OV ow_PayList 2001 l5 l8 25 (({ (({ x0 with Rates := t5 } : PayList)) with Extras := r8 } : PayList) : PayList) bk1 (sk623, (sk627, (Prod.snd (Prod.snd (ow_PayList).s0)))) := b628
  refine EL_nil (thn_n (E_seq (E_region (EL_do .plain rfl (D_loadW (g := l5) Tryz.isAgg25 Tryz.sizeOf25 rfl b628 rfl fun bA i6 => ?_)))))
  refine EL_do .plain rfl (D_storeOW (g := l5) Tryz.sizeOf25 rfl b2 rfl i6 rfl fun gj631 iA yA bk631 hsa hsb hpp b631 => ?_)
  have hfr := hfr.stp hsa
  have hfr := hfr.stp hsb
  clear hsa hsb
  subst hpp
  refine EL_nil (thn_n (E_ret ?_))
  obtain rfl := sinj h
  obtain ⟨aB, x6, ow632⟩ := OV.read (t := 25) Tryz.isAgg25 Tryz.sizeOf25 b631 rfl
  obtain ⟨gh, hxh, _, homh⟩ := OW.hand (i := iO) hfr ow632 ⟨ok623, ⟨ok627, ⟨trivial, trivial⟩⟩⟩
  exact endm_c rfl rfl (show _ = (Value.pointer (some ⟨bk631, 0, none⟩)) from rfl) x6 ⟨gh, hxh, homh⟩
end Go.Proofs.YtkmbkaoolacofaaGreat
