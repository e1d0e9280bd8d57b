import Derived.Test.YtkmbkaoolacofaaGreatCode3
set_option maxRecDepth 8000
set_option maxHeartbeats 4000000
namespace Go.Proofs.YtkmbkaoolacofaaGreat
open Go.RowKit
def f15 (x0 : PayList) : Option (Int) :=
 jn (σ := Unit) (fun _ =>
  some ((0 : Int))
  ) fun g7 =>
 Option.bind (α := Bool) (
  bif (decide ((((x0).Rates).length : Int) > (6 : Int))) then
   some ((decide ((((x0).Rates).length : Int) > (6 : Int))))
  else
   some ((decide ((((x0).Extras).length : Int) > (8 : Int))))
  ) fun j1 =>
 bif j1 then
  some ((5 : Int))
 else
  Option.bind (α := Bool) (
   (f52 ((⟨x0⟩ : PayPayList))).bind fun q5 =>
   bif (!q5) then
    some ((!q5))
   else
    (f53 ((x0).Extras)).bind fun j3 =>
    bif (!j3) then
     some ((!j3))
    else
     (f54 ((0 : Int)) ((1000 : Int)) (([(x0).Fine] : List Int))).bind fun o3 =>
     bif (!o3) then
      some ((!o3))
     else
      (f53 (([(x0).Cap] : List Int))).bind fun z3 =>
      some ((!z3))
   ) fun u0 =>
  bif u0 then
   some ((2 : Int))
  else
   g7 ()
theorem en15 : Enters Tryz.prog 15 := enters_of Tryz.func15 (by kernel_rfl) rfl
theorem wk15 {gI : Gh} {wI : World} {x0 : PayList} {up0 : Value} (rp0 : RV gI.m wI x0 up0) {r : Int} (h : f15 x0 = some r) : Fn Tryz.prog 15 #[up0] gI wI (fun _ _ v => v = .int .i64 (r)) := by
 unfold f15 at h
 refine fn_of_E Tryz.func15 rfl (Nat.le_of_ble_eq_true rfl) fun g0 hm hfr => ?_
 have rp0 : RV g0.m wI x0 up0 := hm ▸ rp0
 show E _ 31 none _ _ _ _ _
 refine E_seq (E_region (EL_do .plain rfl (D_box (g := g0) rfl rp0 fun g1 w1 p1 hs q1 => ?_)))
 have hfr := hfr.ext hs
 refine EL_at (.int .i64 (0)) rfl rfl ?_
 refine EL_nil (thn_n (E_joinC h (fun (s : Unit) e w => ∃ (g : Gh) , Fr gI wI g w) (fun X58 g7 n7 h => ?_) ?_))
 ·refine E_block ?_
  obtain ⟨j1, hx, h⟩ := bsome h
  refine E_join (fun e w => ∃ (g : Gh) , Fr gI wI g w ∧ e 1 = p1 ∧ PT g.m w (x0 : PayList) p1 ∧ e 3 = .bool (j1)) (fun Q' hQ => ?_) (fun u9 qA hR => ?_)
  ·replace h := hx
   clear hx
   refine E_seq (E_region (EL_p (fPtr p1 0) (P_fieldAddr at_25_0 rfl (PT.ptr q1)) rfl ?_))
   have v8 := PT_field (part_PayList_0).1 q1
   refine EL_do .plain rfl (D_load (g := g1) Tryz.isAgg22 Tryz.sizeOf22 rfl v8 fun rA x8 => ?_)
   refine EL_p (.int .i64 (((x0).Rates).length : Int)) (P_len Tryz.underlying22 rfl x8) rfl ?_
   refine EL_p (.bool ((decide ((((x0).Rates).length : Int) > (6 : Int))))) (P_int rfl rfl rfl) rfl ?_
   refine EL_p (.bool ((decide ((((x0).Rates).length : Int) > (6 : Int))))) (P_assign rfl) rfl ?_
   refine EL_nil (thn_n ?_)
   rcases csome h with ⟨t5, h⟩ | ⟨t5, h⟩
   ·refine E_ct t5 rfl ?_
    refine E_skip ?_
    obtain rfl := sinj h
    exact hQ _ _ ⟨g1, hfr, rfl, q1, rfl⟩
   ·refine E_cf t5 rfl ?_
    refine E_region (EL_p (fPtr p1 1) (P_fieldAddr at_25_1 rfl (PT.ptr q1)) rfl ?_)
    have y8 := PT_field (part_PayList_1).1 q1
    refine EL_do .plain rfl (D_load (g := g1) Tryz.isAgg23 Tryz.sizeOf23 rfl y8 fun uA a9 => ?_)
    refine EL_p (.int .i64 (((x0).Extras).length : Int)) (P_len Tryz.underlying23 rfl a9) rfl ?_
    refine EL_p (.bool ((decide ((((x0).Extras).length : Int) > (8 : Int))))) (P_int rfl rfl rfl) rfl ?_
    refine EL_p (.bool ((decide ((((x0).Extras).length : Int) > (8 : Int))))) (P_assign rfl) rfl ?_
    refine EL_nil ?_
    obtain rfl := sinj h
    exact hQ _ _ ⟨g1, hfr, rfl, q1, rfl⟩
  ·clear hx
   obtain ⟨y6, hfr, i3, o0, x6⟩ := hR
   rcases csome h with ⟨x5, h⟩ | ⟨x5, h⟩
   ·refine E_cond_true (Eq.trans (show ev _ _ = .bool (j1) from x6) (congrArg Value.bool x5)) ?_
    refine E_seq (E_region (EL_at (.int .i64 (5)) rfl rfl ?_))
    refine EL_nil (thn_n (E_ret (blk_r ?_)))
    refine thn_r ?_
    obtain rfl := sinj h
    exact end1 rfl rfl (show _ = .int .i64 (5) from rfl) ⟨_, hfr, rfl⟩
   ·refine E_cond_false (Eq.trans (show ev _ _ = .bool (j1) from x6) (congrArg Value.bool x5)) ?_
    obtain ⟨u0, hx, h⟩ := bsome h
    refine E_join (fun e w => ∃ (g : Gh) , Fr gI wI g w ∧ e 12 = .bool (u0)) (fun Q' hQ => ?_) (fun k9 y9 hR => ?_)
    ·replace h := hx
     clear hx
     refine E_seq (E_region (EL_do .plain rfl (D_load (g := y6) Tryz.isAgg25 Tryz.sizeOf25 i3 o0 fun a7 i7 => ?_)))
     have j7 : RV y6.m _ (⟨x0⟩ : PayPayList) (.agg (setCh [[.slice none 0 0, .slice none 0 0, .int .i64 0, .int .i64 0]] [(0, a7)]).flatten.toArray) := RV_build rfl (rep_last (RV.cells i7))
     generalize o7 : (Value.agg (setCh [[.slice none 0 0, .slice none 0 0, .int .i64 0, .int .i64 0]] [(0, a7)]).flatten.toArray) = m7 at j7
     refine EL_p m7 (o7 ▸ P_build (vs := [(0, a7)]) [[.slice none 0 0, .slice none 0 0, .int .i64 0, .int .i64 0]] lay_117 rfl rfl (.cons rfl .nil) ⟨⟨_, rfl, cells_size i7⟩, trivial⟩) rfl ?_
     obtain ⟨q5, u7, h⟩ := bsome h
     refine EL_do .plain rfl (D_call (g := y6) (vs := [m7]) en52 (.cons rfl .nil) (wk52 j7 u7) fun b7 z9 xA hs hr => ?_)
     have hfr := hfr.ext hs
     have o0 := o0.ext hs
     subst hr
     refine EL_p (.bool (!q5)) (P_not rfl) rfl ?_
     refine EL_at (.bool (!q5)) rfl rfl ?_
     refine EL_nil (thn_n ?_)
     rcases csome h with ⟨i6, h⟩ | ⟨i6, h⟩
     ·refine E_ct i6 rfl ?_
      refine E_skip ?_
      obtain rfl := sinj h
      exact hQ _ _ ⟨b7, hfr, rfl⟩
     ·refine E_cf i6 rfl ?_
      refine E_seq (E_region (EL_p (fPtr p1 1) (P_fieldAddr at_25_1 i3 (PT.ptr o0)) rfl ?_))
      have d9 := PT_field (part_PayList_1).1 o0
      refine EL_do .plain rfl (D_load (g := b7) Tryz.isAgg23 Tryz.sizeOf23 rfl d9 fun e9 i9 => ?_)
      obtain ⟨j3, c7, h⟩ := bsome h
      refine EL_do .plain rfl (D_call (g := b7) (vs := [e9]) en53 (.cons rfl .nil) (wk53 i9 c7) fun j6 l9 bA hs hr => ?_)
      have hfr := hfr.ext hs
      have o0 := o0.ext hs
      subst hr
      refine EL_p (.bool (!j3)) (P_not rfl) rfl ?_
      refine EL_at (.bool (!j3)) rfl rfl ?_
      refine EL_nil (thn_n ?_)
      rcases csome h with ⟨z4, h⟩ | ⟨z4, h⟩
      ·refine E_ct z4 rfl ?_
       refine E_skip ?_
       obtain rfl := sinj h
       exact hQ _ _ ⟨j6, hfr, rfl⟩
      ·refine E_cf z4 rfl ?_
       refine E_seq (E_region (EL_p (fPtr p1 2) (P_fieldAddr at_25_2 i3 (PT.ptr o0)) rfl ?_))
       have v7 := PT_field (part_PayList_2).1 o0
       refine EL_do .plain rfl (D_load (g := j6) Tryz.isAgg3 Tryz.sizeOf3 rfl v7 fun gA c8 => ?_)
       obtain rfl := RV_int.1 c8
       refine EL_do .plain rfl (D_buildSlice (g := j6) 3023 (xs := ([(x0).Fine] : List Int)) (vs := [.int .i64 ((x0).Fine)]) Tryz.underlying23 Tryz.sizeOf3 Tryz.zeroValue3 rfl rfl (.cons rfl .nil) (RVs.cons (RV_int.2 rfl) RVs.nil) rfl rfl fun g8 iA i8 hs o105 k8 hxt hfl => ?_)
       have hfr := hfr.stp hs
       have o0 := o0.stp hs
       obtain ⟨o3, d7, h⟩ := bsome h
       refine EL_do .plain rfl (D_call (g := g8) (vs := [.int .i64 (0), .int .i64 (1000), i8]) en54 (.cons rfl (.cons rfl (.cons rfl .nil))) (wk54 k8 d7) fun v6 n9 jA hs hr => ?_)
       have hfr := hfr.ext hs
       have o0 := o0.ext hs
       subst hr
       refine EL_p (.bool (!o3)) (P_not rfl) rfl ?_
       refine EL_at (.bool (!o3)) rfl rfl ?_
       refine EL_nil (thn_n ?_)
       rcases csome h with ⟨i5, h⟩ | ⟨i5, h⟩
       ·refine E_ct i5 rfl ?_
        refine E_skip ?_
        obtain rfl := sinj h
        exact hQ _ _ ⟨v6, hfr, rfl⟩
       ·refine E_cf i5 rfl ?_
        refine E_region (EL_p (fPtr p1 3) (P_fieldAddr at_25_3 i3 (PT.ptr o0)) rfl ?_)
        have l8 := PT_field (part_PayList_3).1 o0
        refine EL_do .plain rfl (D_load (g := v6) Tryz.isAgg3 Tryz.sizeOf3 rfl l8 fun lA m8 => ?_)
        obtain rfl := RV_int.1 m8
        refine EL_do .plain rfl (D_buildSlice (g := v6) 3028 (xs := ([(x0).Cap] : List Int)) (vs := [.int .i64 ((x0).Cap)]) Tryz.underlying23 Tryz.sizeOf3 Tryz.zeroValue3 rfl rfl (.cons rfl .nil) (RVs.cons (RV_int.2 rfl) RVs.nil) rfl rfl fun n8 mA o8 hs o111 q8 hxt hfl => ?_)
        have hfr := hfr.stp hs
        obtain ⟨z3, e7, h⟩ := bsome h
        refine EL_do .plain rfl (D_call (g := n8) (vs := [o8]) en53 (.cons rfl .nil) (wk53 q8 e7) fun r8 o9 nA hs hr => ?_)
        have hfr := hfr.ext hs
        subst hr
        refine EL_p (.bool (!z3)) (P_not rfl) rfl ?_
        refine EL_at (.bool (!z3)) rfl rfl ?_
        refine EL_nil ?_
        obtain rfl := sinj h
        exact hQ _ _ ⟨r8, hfr, rfl⟩
    ·clear hx
     obtain ⟨t8, hfr, u3⟩ := hR
     rcases csome h with ⟨l5, h⟩ | ⟨l5, h⟩
     ·refine E_cond_true (Eq.trans (show ev _ _ = .bool (u0) from u3) (congrArg Value.bool l5)) ?_
      refine E_seq (E_region (EL_at (.int .i64 (2)) rfl rfl ?_))
      refine EL_nil (thn_n (E_ret (blk_r ?_)))
      refine thn_r ?_
      obtain rfl := sinj h
      exact end1 rfl rfl (show _ = .int .i64 (2) from rfl) ⟨_, hfr, rfl⟩
     ·refine E_cond_false (Eq.trans (show ev _ _ = .bool (u0) from u3) (congrArg Value.bool l5)) ?_
      exact E_skip (blk_n (thn_n (n7 () _ _ ⟨t8, hfr⟩ h)))
 ·rintro _ t9 oA ⟨pA, hfr⟩ h
  refine E_seq (E_region (EL_at (.int .i64 (0)) rfl rfl ?_))
  refine EL_nil (thn_n (E_ret ?_))
  obtain rfl := sinj h
  exact end1 rfl rfl (show _ = .int .i64 (0) from rfl) ⟨_, hfr, rfl⟩
def f41 (x0 : PayTable) : Option (Bool × Int) :=
 (f66 x0).bind fun y4 =>
 jn (σ := Unit) (fun _ =>
  (f67 (y4.1)).bind fun o0 =>
  (f69 (([o0.1, o0.2.1, ([o0.2.2.1, o0.2.2.2] : List Int)] : List (List Int)))).bind fun q5 =>
  (f68 q5 ((fun a0 => f70 a0))).bind fun o3 =>
  some ((!o3), (0 : Int))
  ) fun k8 =>
 bif (y4.2 != (0 : Int)) then
  some (false, y4.2)
 else
  k8 ()
def f42 (x0 : PayTable) : Option (PayEntry × Int) :=
 (f66 x0).bind fun y5 =>
 jn (σ := PayEntry) (fun m8 =>
  (f67 (y5.1)).bind fun o0 =>
  (f71 (o0.1)).bind fun j1 =>
  (f71 (o0.2.1)).bind fun u0 =>
  jn (σ := PayEntry × Bool) (fun (lC, zB) =>
   jn (σ := PayEntry) (fun vD =>
    some (vD, (0 : Int))
    ) fun cF =>
   bif (!zB) then
    some ((⟨0, 0, 0, 0⟩ : PayEntry), (9 : Int))
   else
    cF (lC)
   ) fun mC =>
  Option.bind (α := Bool) (
   bif (j1.2 == (0 : Int)) then
    bif (u0.2 == (0 : Int)) then
     bif (o0.2.2.1 == (0 : Int)) then
      some ((o0.2.2.2 == (0 : Int)))
     else
      some (false)
    else
     some (false)
   else
    some (false)
   ) fun mA =>
  bif mA then
   some (m8, (0 : Int))
  else
   Option.bind (α := Bool) (
    bif (j1.2 == (1 : Int)) then
     bif (u0.2 == (1 : Int)) then
      bif (o0.2.2.1 == (0 : Int)) then
       bif (o0.2.2.2 == (0 : Int)) then
        (idx (o0.1) j1.1).bind fun qC =>
        (idx (o0.2.1) u0.1).bind fun rC =>
        some ((qC == rC))
       else
        some (false)
      else
       some (false)
     else
      some (false)
    else
     some (false)
    ) fun k9 =>
   bif k9 then
    (idx (((y5.1).PayTable).Rows) j1.1).bind fun dF =>
    (idx dF u0.1).bind fun v6 =>
    (idx (o0.1) j1.1).bind fun x6 =>
    (f54 ((0 : Int)) ((1000000 : Int)) (([(w64 (v6 - x6))] : List Int))).bind fun cD =>
    mC ((⟨(1 : Int), j1.1, u0.1, (w64 (v6 - x6))⟩ : PayEntry), cD)
   else
    Option.bind (α := Bool) (
     bif (j1.2 == (1 : Int)) then
      bif (u0.2 == (0 : Int)) then
       bif (o0.2.2.2 == (0 : Int)) then
        (idx (o0.1) j1.1).bind fun dC =>
        some ((dC == (w64 (0 - o0.2.2.1))))
       else
        some (false)
      else
       some (false)
     else
      some (false)
     ) fun c8 =>
    bif c8 then
     (idx (((y5.1).PayTable).Across) j1.1).bind fun n8 =>
     (idx (o0.1) j1.1).bind fun o8 =>
     mC ((⟨(2 : Int), j1.1, 0, (w64 (n8 + o8))⟩ : PayEntry), true)
    else
     Option.bind (α := Bool) (
      bif (j1.2 == (0 : Int)) then
       bif (u0.2 == (1 : Int)) then
        bif (o0.2.2.1 == (0 : Int)) then
         (idx (o0.2.1) u0.1).bind fun eC =>
         some ((eC == (w64 (0 - o0.2.2.2))))
        else
         some (false)
       else
        some (false)
      else
       some (false)
      ) fun g8 =>
     bif g8 then
      (idx (((y5.1).PayTable).Down) u0.1).bind fun q8 =>
      (idx (o0.2.1) u0.1).bind fun r8 =>
      mC ((⟨(3 : Int), 0, u0.1, (w64 (q8 + r8))⟩ : PayEntry), true)
     else
      Option.bind (α := Bool) (
       bif (j1.2 == (0 : Int)) then
        bif (u0.2 == (0 : Int)) then
         some ((o0.2.2.1 == o0.2.2.2))
        else
         some (false)
       else
        some (false)
       ) fun i8 =>
      bif i8 then
       (f72 (([(w64 (((y5.1).PayTable).Total + o0.2.2.1))] : List Int))).bind fun eD =>
       mC ((⟨(4 : Int), 0, 0, (w64 (((y5.1).PayTable).Total + o0.2.2.1))⟩ : PayEntry), eD)
      else
       mC (m8, false)
  ) fun mJ =>
 bif (y5.2 != (0 : Int)) then
  some ((⟨0, 0, 0, 0⟩ : PayEntry), y5.2)
 else
  mJ ((⟨0, 0, 0, 0⟩ : PayEntry))
def f55 (x0 : PayList) (x1 : PayPiece) : Option (PayPayList × Int) :=
 jn (σ := PayPayList) (fun j6 =>
  (f79 ((⟨x0⟩ : PayPayList)) x1).bind fun u0 =>
  some ((⟨x0⟩ : PayPayList), u0)
  ) fun y6 =>
 (f15 x0).bind fun o0 =>
 bif (o0 != (0 : Int)) then
  some ((⟨x0⟩ : PayPayList), o0)
 else
  y6 ((⟨⟨[], [], 0, 0⟩⟩ : PayPayList))
theorem en55 : Enters Tryz.prog 55 := enters_of Tryz.func55 (by kernel_rfl) rfl
theorem wk55 {gI : Gh} {wI : World} {x0 : PayList} {x1 : PayPiece} {up0 : Value} (rp0 : RV gI.m wI x0 up0) {up1 : Value} (rp1 : RV gI.m wI x1 up1) {r : PayPayList × Int} (h : f55 x0 x1 = some r) : Fn Tryz.prog 55 #[up0, up1] gI wI (fun m w v => ∃ y0 y1, v = .tuple #[y0, y1] ∧ RV m w (r.1) y0 ∧ y1 = .int .i64 (r.2)) := by
 unfold f55 at h
 refine fn_of_E Tryz.func55 rfl (Nat.le_of_ble_eq_true rfl) fun g0 hm hfr => ?_
 have rp0 : RV g0.m wI x0 up0 := hm ▸ rp0
 have rp1 : RV g0.m wI x1 up1 := hm ▸ rp1
 show E _ 20 none _ _ _ _ _
 refine E_seq (E_region (EL_do .plain rfl (D_box (g := g0) rfl rp0 fun g1 w1 p1 hs q1 => ?_)))
 have hfr := hfr.ext hs
 have rp1 := rp1.ext hs
 refine EL_do .plain rfl (D_box (g := g1) rfl rp1 fun g2 w2 p2 hs q2 => ?_)
 have hfr := hfr.ext hs
 have q1 := q1.ext hs
 refine EL_do .plain rfl (D_allocOc (g := g2) 2004 (⟨⟨[], [], 0, 0⟩⟩ : PayPayList) Tryz.zeroValue117 (fun m w => ⟨_, (rep_two rep_nil (rep_two rep_nil (rep_two rep_int rep_int))), rfl⟩) fun g3 w3 p3 hs b3 cb => ?_)
 have hfr := hfr.stp hs
 have q1 := q1.stp hs
 have q2 := q2.stp hs
 have i3 : OSF 2004 60400 0 g3 w3 87 117 ([] : List PayRate) p3 := cb.osf (by rfl)
 have j3 : OSF 2004 60401 1 g3 w3 3 117 ([] : List Int) p3 := cb.osf (by rfl)
 clear cb
 refine EL_at (.int .i64 (0)) rfl rfl ?_
 refine EL_nil (thn_n (E_joinC h (fun (s : PayPayList) e w => ∃ (g : Gh) , Fr gI wI g w ∧ e 2 = p1 ∧ PT g.m w (x0 : PayList) p1 ∧ e 3 = p2 ∧ PT g.m w (x1 : PayPiece) p2 ∧ e 4 = p3 ∧ OB 2004 g w 117 (s : PayPayList) p3 ∧ OSF 2004 60400 0 g w 87 117 (((s).PayList).Rates) p3 ∧ OSF 2004 60401 1 g w 3 117 (((s).PayList).Extras) p3) (fun X12 y6 n7 h => ?_) ?_))
 ·refine E_seq (E_region (EL_do .plain rfl (D_load (g := g3) Tryz.isAgg25 Tryz.sizeOf25 rfl q1 fun o8 q8 => ?_)))
  obtain ⟨o0, o7, h⟩ := bsome h
  refine EL_do .plain rfl (D_call (g := g3) (vs := [o8]) en15 (.cons rfl .nil) (wk15 q8 o7) fun u3 v8 y8 hs hr => ?_)
  have hfr := hfr.ext hs
  have q1 := q1.ext hs
  have q2 := q2.ext hs
  have i3 := i3.ext hs
  have j3 := j3.ext hs
  have b3 := b3.ext hs
  subst hr
  refine EL_at (.int .i64 (o0)) rfl rfl ?_
  refine EL_nil (thn_n (E_seq (E_region (EL_mw (.int .i64 (o0)) rfl rfl ?_))))
  refine EL_in (.bool ((o0 != (0 : Int)))) rfl rfl rfl rfl ?_
  refine EL_nil (thn_n ?_)
  rcases csome h with ⟨o3, h⟩ | ⟨o3, h⟩
  ·refine E_ct o3 rfl ?_
   refine E_seq (E_region (EL_do .plain rfl (D_load (g := u3) Tryz.isAgg25 Tryz.sizeOf25 rfl q1 fun x5 a7 => ?_)))
   have b7 : RV u3.m _ (⟨x0⟩ : PayPayList) (.agg (setCh [[.slice none 0 0, .slice none 0 0, .int .i64 0, .int .i64 0]] [(0, x5)]).flatten.toArray) := RV_build rfl (rep_last (RV.cells a7))
   generalize u7 : (Value.agg (setCh [[.slice none 0 0, .slice none 0 0, .int .i64 0, .int .i64 0]] [(0, x5)]).flatten.toArray) = c7 at b7
   refine EL_p c7 (u7 ▸ P_build (vs := [(0, x5)]) [[.slice none 0 0, .slice none 0 0, .int .i64 0, .int .i64 0]] lay_117 rfl rfl (.cons rfl .nil) ⟨⟨_, rfl, cells_size a7⟩, trivial⟩) rfl ?_
   refine EL_mw (.int .i64 (o0)) rfl rfl ?_
   refine EL_do .plain rfl (D_storeOc (g := u3) (v := c7) Tryz.sizeOf117 rfl b3 rfl b7 fun a9 d9 hs b19 cb => ?_)
   clear cb
   have hfr := hfr.stp hs
   refine EL_at (.int .i64 (o0)) rfl rfl ?_
   refine EL_nil (thn_n (E_ret (thn_r ?_)))
   obtain rfl := sinj h
   obtain ⟨ad20, cv20, hp20, v7, cr20⟩ := ob_read Tryz.isAgg117 Tryz.sizeOf117 b19
   exact endm_ct rfl rfl ((show _ = p3 from rfl).trans hp20) v7 (show _ = .int .i64 (o0) from rfl) ⟨_, hfr, _, _, rfl, cr20, rfl⟩
  ·refine E_cf o3 rfl ?_
   exact E_skip (thn_n (n7 ((⟨⟨[], [], 0, 0⟩⟩ : PayPayList)) _ _ ⟨u3, hfr, rfl, q1, rfl, q2, rfl, b3, i3, j3⟩ h))
 ·rintro j6 x8 e9 ⟨i6, hfr, z3, z4, v6, x6, i5, j1, u4_0_21, u4_1_21⟩ h
  refine E_seq (L_load (x := .tmp 2) Tryz.isAgg25 Tryz.sizeOf25 z4 fun l5 d7 c8 => ?_)
  have q5 : RV i6.m _ (⟨x0⟩ : PayPayList) (.agg (setCh [[.slice none 0 0, .slice none 0 0, .int .i64 0, .int .i64 0]] [(0, l5)]).flatten.toArray) := RV_build rfl (rep_last (RV.cells d7))
  generalize g8 : (Value.agg (setCh [[.slice none 0 0, .slice none 0 0, .int .i64 0, .int .i64 0]] [(0, l5)]).flatten.toArray) = e7 at q5
  refine L_load (x := .tmp 2) Tryz.isAgg25 Tryz.sizeOf25 z4 fun t5 g7 i8 => ?_
  have i7 : RV i6.m _ (⟨x0⟩ : PayPayList) (.agg (setCh [[.slice none 0 0, .slice none 0 0, .int .i64 0, .int .i64 0]] [(0, t5)]).flatten.toArray) := RV_build rfl (rep_last (RV.cells g7))
  generalize k8 : (Value.agg (setCh [[.slice none 0 0, .slice none 0 0, .int .i64 0, .int .i64 0]] [(0, t5)]).flatten.toArray) = j7 at i7
  refine L_load (x := .tmp 3) Tryz.isAgg27 Tryz.sizeOf27 x6 fun m7 r8 l8 => ?_
  obtain ⟨u0, m8, h⟩ := bsome h
  refine E_drawL (g := i6) (n := 6) [(5, (fun v g w => v = .int .i64 (u0)))] [0, 1, 2, 3, 4, 5] rfl mixed (by kernel_rfl) (⟨fun _ => up_eq _, trivial⟩) ?_
  refine L_ld (c := l5) rfl rfl .plain (fun _ _ h => h.ch) c8 z3 ?_
  refine L_p e7 rfl rfl (g8 ▸ P_build (vs := [(0, l5)]) [[.slice none 0 0, .slice none 0 0, .int .i64 0, .int .i64 0]] lay_117 rfl rfl (.cons rfl .nil) ⟨⟨_, rfl, cells_size d7⟩, trivial⟩) ?_
  refine L_ld (c := t5) rfl rfl .plain (fun _ _ h => h.ch) i8 z3 ?_
  refine L_p j7 rfl rfl (k8 ▸ P_build (vs := [(0, t5)]) [[.slice none 0 0, .slice none 0 0, .int .i64 0, .int .i64 0]] lay_117 rfl rfl (.cons rfl .nil) ⟨⟨_, rfl, cells_size g7⟩, trivial⟩) ?_
  refine L_ld (c := m7) rfl rfl .plain (fun _ _ h => h.ch) l8 v6 ?_
  refine L_do (φ := fun v g w => v = .int .i64 (u0)) rfl rfl .plain (fun g w hd => D_call (g := g) (vs := [j7, m7]) en79 (.cons rfl (.cons rfl .nil)) (wk79 (i7.ext hd.1) (r8.ext hd.1) m8) fun g' w' v hs hr => ⟨g', hs, hr⟩) (fun i9 hv => ?_)
  obtain ⟨_, _, _, rfl⟩ := hv
  refine L_nl fun t8 k9 hs => ?_
  have hfr := hfr.ext hs
  have j1 := j1.ext hs
  have q5 := q5.ext hs
  clear hs
  refine EL_do .plain rfl (D_storeOc (g := t8) (v := e7) Tryz.sizeOf117 i5 j1 rfl q5 fun l9 n9 hs b39 cb => ?_)
  clear cb
  have hfr := hfr.stp hs
  refine EL_at (.int .i64 (u0)) rfl rfl ?_
  refine EL_nil (thn_n (E_ret ?_))
  obtain rfl := sinj h
  obtain ⟨ad40, cv40, hp40, n8, cr40⟩ := ob_read Tryz.isAgg117 Tryz.sizeOf117 b39
  exact endm_ct rfl rfl ((show _ = p3 from i5).trans hp40) n8 (show _ = .int .i64 (u0) from rfl) ⟨_, hfr, _, _, rfl, cr40, rfl⟩
def f75 (x0 : List Int) (x1 : Int → Int → Option Int) : Option ((List Int)) :=
 (f100 x0 (((x0).length : Int)) x1).bind fun y2 =>
 some (y2)
def f16 (x0 : PayList) (x1 : PayPiece) : Option (Int × Int × Int × Int) :=
 (f55 x0 x1).bind fun y6 =>
 jn (σ := Unit) (fun _ =>
  (f56 (y6.1) x1).bind fun u0 =>
  (f57 (y6.1) u0 ((x1).Faults)).bind fun j3 =>
  (f58 (y6.1) x1 ((x1).Faults)).bind fun o3 =>
  some (u0, j3, o3, (0 : Int))
  ) fun q5 =>
 bif (y6.2 != (0 : Int)) then
  some ((0 : Int), (0 : Int), (0 : Int), y6.2)
 else
  q5 ()
theorem en16 : Enters Tryz.prog 16 := enters_of Tryz.func16 (by kernel_rfl) rfl
theorem wk16 {gI : Gh} {wI : World} {x0 : PayList} {x1 : PayPiece} {up0 : Value} (rp0 : RV gI.m wI x0 up0) {up1 : Value} (rp1 : RV gI.m wI x1 up1) {r : Int × Int × Int × Int} (h : f16 x0 x1 = some r) : Fn Tryz.prog 16 #[up0, up1] gI wI (fun m w v => ∃ y0 y1 y2 y3, v = .tuple #[y0, y1, y2, y3] ∧ y0 = .int .i64 (r.1) ∧ y1 = .int .i64 (r.2.1) ∧ y2 = .int .i64 (r.2.2.1) ∧ y3 = .int .i64 (r.2.2.2)) := by
 unfold f16 at h
 refine fn_of_E Tryz.func16 rfl (Nat.le_of_ble_eq_true rfl) fun g0 hm hfr => ?_
 have rp0 : RV g0.m wI x0 up0 := hm ▸ rp0
 have rp1 : RV g0.m wI x1 up1 := hm ▸ rp1
 show E _ 32 none _ _ _ _ _
 refine E_seq (E_region (EL_do .plain rfl (D_box (g := g0) rfl rp0 fun g1 w1 p1 hs q1 => ?_)))
 have hfr := hfr.ext hs
 have rp1 := rp1.ext hs
 refine EL_do .plain rfl (D_box (g := g1) rfl rp1 fun g2 w2 p2 hs q2 => ?_)
 have hfr := hfr.ext hs
 have q1 := q1.ext hs
 iterate 4 refine EL_at (.int .i64 (0)) rfl rfl ?_
 refine EL_nil (thn_n (E_seq (E_region (EL_do .plain rfl (D_load (g := g2) Tryz.isAgg25 Tryz.sizeOf25 rfl q1 fun v3 r3 => ?_)))))
 refine EL_do .plain rfl (D_load (g := g2) Tryz.isAgg27 Tryz.sizeOf27 rfl q2 fun v4 r4 => ?_)
 obtain ⟨y6, m7, h⟩ := bsome h
 refine EL_do .plain rfl (D_call (g := g2) (vs := [v3, v4]) en55 (.cons rfl (.cons rfl .nil)) (wk55 r3 r4 m7) fun g5 w5_ v5 hs hr => ?_)
 have hfr := hfr.ext hs
 have q2 := q2.ext hs
 obtain ⟨z3, r8, rfl, z4, rfl⟩ := hr
 refine EL_mw (.tuple #[z3, .int .i64 (y6.2)]) rfl rfl ?_
 refine EL_p z3 (P_extract rfl rfl) rfl ?_
 refine EL_p (.int .i64 (y6.2)) (P_extract rfl rfl) rfl ?_
 refine EL_do .plain rfl (D_allocOc (g := g5) 2008 (⟨⟨[], [], 0, 0⟩⟩ : PayPayList) Tryz.zeroValue117 (fun m w => ⟨_, (rep_two rep_nil (rep_two rep_nil (rep_two rep_int rep_int))), rfl⟩) fun g7 w7 p7 hs b7 cb => ?_)
 have hfr := hfr.stp hs
 have q2 := q2.stp hs
 have z4 := z4.stp hs
 have t8 : OSF 2008 60800 0 g7 w7 87 117 ([] : List PayRate) p7 := cb.osf (by rfl)
 have v8 : OSF 2008 60801 1 g7 w7 3 117 ([] : List Int) p7 := cb.osf (by rfl)
 clear cb
 refine EL_do .plain rfl (D_storeOc (g := g7) (v := z3) Tryz.sizeOf117 rfl b7 rfl z4 fun g8 w8 hs b8 cb => ?_)
 clear cb
 have hfr := hfr.stp hs
 have q2 := q2.stp hs
 refine EL_at (.int .i64 (y6.2)) rfl rfl ?_
 refine EL_nil (thn_n (E_joinC h (fun (s : Unit) e w => ∃ (g : Gh) , Fr gI wI g w ∧ e 3 = p2 ∧ PT g.m w (x1 : PayPiece) p2 ∧ e 8 = p7 ∧ OB 2008 g w 117 (y6.1 : PayPayList) p7) (fun X10 q5 j6 h => ?_) ?_))
 ·refine E_seq (E_region (EL_mw (.int .i64 (y6.2)) rfl rfl ?_))
  refine EL_in (.bool ((y6.2 != (0 : Int)))) rfl rfl rfl rfl ?_
  refine EL_nil (thn_n ?_)
  rcases csome h with ⟨i5, h⟩ | ⟨i5, h⟩
  ·refine E_ct i5 rfl ?_
   refine E_seq (E_region (EL_mw (.int .i64 (y6.2)) rfl rfl ?_))
   iterate 3 refine EL_at (.int .i64 (0)) rfl rfl ?_
   refine EL_at (.int .i64 (y6.2)) rfl rfl ?_
   refine EL_nil (thn_n (E_ret (thn_r ?_)))
   obtain rfl := sinj h
   exact end4 rfl rfl (show _ = .int .i64 (0) from rfl) (show _ = .int .i64 (0) from rfl) (show _ = .int .i64 (0) from rfl) (show _ = .int .i64 (y6.2) from rfl) ⟨_, hfr, _, _, _, _, rfl, rfl, rfl, rfl, rfl⟩
  ·refine E_cf i5 rfl ?_
   exact E_skip (thn_n (j6 () _ _ ⟨g8, hfr, rfl, q2, rfl, b8⟩ h))
 ·rintro _ x8 a9 ⟨l5, hfr, i3, o0, u3, j1⟩ h
  refine E_seq (E_region (EL_do .plain rfl (D_loadO (g := l5) Tryz.isAgg117 Tryz.sizeOf117 u3 j1 fun n7 o7 => ?_)))
  refine EL_do .plain rfl (D_load (g := l5) Tryz.isAgg27 Tryz.sizeOf27 i3 o0 fun u7 v7 => ?_)
  obtain ⟨u0, v6, h⟩ := bsome h
  refine EL_do .plain rfl (D_call (g := l5) (vs := [n7, u7]) en56 (.cons rfl (.cons rfl .nil)) (wk56 o7 v7 v6) fun c8 y8 d9 hs hr => ?_)
  have hfr := hfr.ext hs
  have o0 := o0.ext hs
  have j1 := j1.ext hs
  subst hr
  refine EL_at (.int .i64 (u0)) rfl rfl ?_
  refine EL_nil (thn_n (E_seq (L_loadO0 (x := .tmp 8) Tryz.isAgg117 Tryz.sizeOf117 j1 fun t5 i8 x6 => ?_)))
  have k8 := PT_field (part_PayPiece_4).1 o0
  refine L_load (x := .tmp 24) Tryz.isAgg3 Tryz.sizeOf3 k8 fun e9 l8 a7 => ?_
  obtain rfl := RV_int.1 l8
  obtain ⟨j3, c7, h⟩ := bsome h
  refine L_loadO0 (x := .tmp 8) Tryz.isAgg117 Tryz.sizeOf117 j1 fun x5 m8 d7 => ?_
  refine L_load (x := .tmp 3) Tryz.isAgg27 Tryz.sizeOf27 o0 fun i6 n8 e7 => ?_
  have o8 := PT_field (part_PayPiece_4).1 o0
  refine L_load (x := .tmp 29) Tryz.isAgg3 Tryz.sizeOf3 o8 fun i9 q8 i7 => ?_
  obtain rfl := RV_int.1 q8
  obtain ⟨o3, j7, h⟩ := bsome h
  refine E_drawL (g := c8) (n := 15) [(5, (fun v g w => v = .int .i64 (j3))), (10, (fun v g w => v = .int .i64 (o3)))] [0, 1, 2, 3, 4, 5, 6, 7, 8, 9, 10, 11, 12, 13, 14] rfl mixed (by kernel_rfl) (⟨fun _ => up_eq _, fun _ => up_eq _, trivial⟩) ?_
  refine L_p (.int .i64 (u0)) rfl rfl (P_move rfl) ?_
  refine L_ld (c := t5) rfl rfl .plain (fun _ _ h => ⟨h.ch, fun b hb _ => h.below.block b hb⟩) x6 u3 ?_
  refine L_p (.int .i64 (u0)) rfl rfl (P_move rfl) ?_
  refine L_p (fPtr p2 4) rfl rfl (P_fieldAddr at_27_4 i3 (PT.ptr o0)) ?_
  refine L_ld (c := .int .i64 ((x1).Faults)) rfl rfl .plain (fun _ _ h => h.ch) a7 rfl ?_
  refine L_do (φ := fun v g w => v = .int .i64 (j3)) rfl rfl .plain (fun g w hd => D_call (g := g) (vs := [t5, .int .i64 (u0), .int .i64 ((x1).Faults)]) en57 (.cons rfl (.cons rfl (.cons rfl .nil))) (wk57 (i8.ext hd.1) c7) fun g' w' v hs hr => ⟨g', hs, hr⟩) (fun k9 hv => ?_)
  obtain ⟨_, _, _, rfl⟩ := hv
  refine L_ld (c := x5) rfl rfl .plain (fun _ _ h => ⟨h.ch, fun b hb _ => h.below.block b hb⟩) d7 u3 ?_
  refine L_ld (c := i6) rfl rfl .plain (fun _ _ h => h.ch) e7 i3 ?_
  refine L_p (fPtr p2 4) rfl rfl (P_fieldAddr at_27_4 i3 (PT.ptr o0)) ?_
  refine L_ld (c := .int .i64 ((x1).Faults)) rfl rfl .plain (fun _ _ h => h.ch) i7 rfl ?_
  refine L_do (φ := fun v g w => v = .int .i64 (o3)) rfl rfl .plain (fun g w hd => D_call (g := g) (vs := [x5, i6, .int .i64 ((x1).Faults)]) en58 (.cons rfl (.cons rfl (.cons rfl .nil))) (wk58 (m8.ext hd.1) (n8.ext hd.1) j7) fun g' w' v hs hr => ⟨g', hs, hr⟩) (fun l9 hv => ?_)
  obtain ⟨_, _, _, rfl⟩ := hv
  refine L_p (.int .i64 (u0)) rfl rfl (P_assign rfl) ?_
  refine L_p (.int .i64 (j3)) rfl rfl (P_assign rfl) ?_
  refine L_p (.int .i64 (o3)) rfl rfl (P_assign rfl) ?_
  refine L_p (.int .i64 (0)) rfl rfl (P_assign rfl) ?_
  refine L_nl fun n9 o9 hs => ?_
  have hfr := hfr.ext hs
  clear hs
  refine EL_nil (thn_n (E_ret ?_))
  obtain rfl := sinj h
  exact end4 rfl rfl (show _ = .int .i64 (u0) from rfl) (show _ = .int .i64 (j3) from rfl) (show _ = .int .i64 (o3) from rfl) (show _ = .int .i64 (0) from rfl) ⟨_, hfr, _, _, _, _, rfl, rfl, rfl, rfl, rfl⟩
def f17 (x0 : PayList) (x1 : PayPiece) (x2 : Span) : Option (Span × Int) :=
 (f55 x0 x1).bind fun y8 =>
 jn (σ := Span) (fun m7 =>
  (f58 (y8.1) x1 ((x2).High)).bind fun u0 =>
  (f58 (y8.1) x1 ((x2).Low)).bind fun j1 =>
  some ((⟨u0, j1⟩ : Span), (0 : Int))
  ) fun m8 =>
 bif (y8.2 != (0 : Int)) then
  some ((⟨0, 0⟩ : Span), y8.2)
 else
  Option.bind (α := Bool) (
   (f54 ((0 : Int)) ((100 : Int)) (([(x2).Low, (x2).High] : List Int))).bind fun z3 =>
   bif (!z3) then
    some ((!z3))
   else
    some ((decide ((x2).Low > (x2).High)))
   ) fun o0 =>
  bif o0 then
   some ((⟨0, 0⟩ : Span), (3 : Int))
  else
   m8 ((⟨0, 0⟩ : Span))
theorem en17 : Enters Tryz.prog 17 := enters_of Tryz.func17 (by kernel_rfl) rfl
theorem wk17 {gI : Gh} {wI : World} {x0 : PayList} {x1 : PayPiece} {x2 : Span} {up0 : Value} (rp0 : RV gI.m wI x0 up0) {up1 : Value} (rp1 : RV gI.m wI x1 up1) {up2 : Value} (rp2 : RV gI.m wI x2 up2) {r : Span × Int} (h : f17 x0 x1 x2 = some r) : Fn Tryz.prog 17 #[up0, up1, up2] gI wI (fun m w v => ∃ y0 y1, v = .tuple #[y0, y1] ∧ RV m w (r.1) y0 ∧ y1 = .int .i64 (r.2)) := by
 unfold f17 at h
 refine fn_of_E Tryz.func17 rfl (Nat.le_of_ble_eq_true rfl) fun g0 hm hfr => ?_
 have rp0 : RV g0.m wI x0 up0 := hm ▸ rp0
 have rp1 : RV g0.m wI x1 up1 := hm ▸ rp1
 have rp2 : RV g0.m wI x2 up2 := hm ▸ rp2
 show E _ 45 none _ _ _ _ _
 refine E_seq (E_region (EL_do .plain rfl (D_box (g := g0) rfl rp0 fun g1 w1 p1 hs q1 => ?_)))
 have hfr := hfr.ext hs
 have rp1 := rp1.ext hs
 have rp2 := rp2.ext hs
 refine EL_do .plain rfl (D_box (g := g1) rfl rp1 fun g2 w2 p2 hs q2 => ?_)
 have hfr := hfr.ext hs
 have rp2 := rp2.ext hs
 have q1 := q1.ext hs
 refine EL_do .plain rfl (D_box (g := g2) rfl rp2 fun g3 w3 p3 hs q3 => ?_)
 have hfr := hfr.ext hs
 have q1 := q1.ext hs
 have q2 := q2.ext hs
 refine EL_do .plain rfl (D_allocOc (g := g3) 2006 (⟨0, 0⟩ : Span) Tryz.zeroValue29 (fun m w => ⟨_, (rep_two rep_int rep_int), rfl⟩) fun g4 w4 p4 hs b4 cb => ?_)
 have hfr := hfr.stp hs
 have q1 := q1.stp hs
 have q2 := q2.stp hs
 have q3 := q3.stp hs
 clear cb
 refine EL_at (.int .i64 (0)) rfl rfl ?_
 refine EL_nil (thn_n (E_seq (E_region (EL_do .plain rfl (D_load (g := g4) Tryz.isAgg25 Tryz.sizeOf25 rfl q1 fun v5 r5 => ?_)))))
 refine EL_do .plain rfl (D_load (g := g4) Tryz.isAgg27 Tryz.sizeOf27 rfl q2 fun v6 r6 => ?_)
 obtain ⟨y8, y9, h⟩ := bsome h
 refine EL_do .plain rfl (D_call (g := g4) (vs := [v5, v6]) en55 (.cons rfl (.cons rfl .nil)) (wk55 r5 r6 y9) fun g7 w7_ v7 hs hr => ?_)
 have hfr := hfr.ext hs
 have q2 := q2.ext hs
 have q3 := q3.ext hs
 have b4 := b4.ext hs
 obtain ⟨l5, nB, rfl, q5, rfl⟩ := hr
 refine EL_mw (.tuple #[l5, .int .i64 (y8.2)]) rfl rfl ?_
 refine EL_p l5 (P_extract rfl rfl) rfl ?_
 refine EL_p (.int .i64 (y8.2)) (P_extract rfl rfl) rfl ?_
 refine EL_do .plain rfl (D_allocOc (g := g7) 2008 (⟨⟨[], [], 0, 0⟩⟩ : PayPayList) Tryz.zeroValue117 (fun m w => ⟨_, (rep_two rep_nil (rep_two rep_nil (rep_two rep_int rep_int))), rfl⟩) fun g9 w9 p9 hs b9 cb => ?_)
 have hfr := hfr.stp hs
 have q2 := q2.stp hs
 have q3 := q3.stp hs
 have b4 := b4.stp hs rfl
 have q5 := q5.stp hs
 have oB : OSF 2008 60800 0 g9 w9 87 117 ([] : List PayRate) p9 := cb.osf (by rfl)
 have tB : OSF 2008 60801 1 g9 w9 3 117 ([] : List Int) p9 := cb.osf (by rfl)
 clear cb
 refine EL_do .plain rfl (D_storeOc (g := g9) (v := l5) Tryz.sizeOf117 rfl b9 rfl q5 fun z4 cC hs b10 cb => ?_)
 clear cb
 have hfr := hfr.stp hs
 have q2 := q2.stp hs
 have q3 := q3.stp hs
 have b4 := b4.stp hs rfl
 refine EL_at (.int .i64 (y8.2)) rfl rfl ?_
 refine EL_nil (thn_n (E_joinC h (fun (s : Span) e w => ∃ (g : Gh) , Fr gI wI g w ∧ e 4 = p2 ∧ PT g.m w (x1 : PayPiece) p2 ∧ e 5 = p3 ∧ PT g.m w (x2 : Span) p3 ∧ e 6 = p4 ∧ OB 2006 g w 29 (s : Span) p4 ∧ e 8 = p9 ∧ OB 2008 g w 117 (y8.1 : PayPayList) p9) (fun X44 m8 v8 h => ?_) ?_))
 ·refine E_block ?_
  refine E_seq (E_region (EL_mw (.int .i64 (y8.2)) rfl rfl ?_))
  refine EL_in (.bool ((y8.2 != (0 : Int)))) rfl rfl rfl rfl ?_
  refine EL_at (.bool ((y8.2 != (0 : Int)))) rfl rfl ?_
  refine EL_nil (thn_n ?_)
  rcases csome h with ⟨t5, h⟩ | ⟨t5, h⟩
  ·refine E_ct t5 rfl ?_
   refine E_seq (E_region (EL_do .plain rfl (D_loadO (g := z4) Tryz.isAgg29 Tryz.sizeOf29 rfl b4 fun z9 bA => ?_)))
   refine EL_mw (.int .i64 (y8.2)) rfl rfl ?_
   refine EL_do .plain rfl (D_storeOc (g := z4) (v := z9) Tryz.sizeOf29 rfl b4 rfl bA fun dC eC hs b47 cb => ?_)
   clear cb
   have hfr := hfr.stp hs
   refine EL_at (.int .i64 (y8.2)) rfl rfl ?_
   refine EL_nil (thn_n (E_ret (blk_r ?_)))
   refine thn_r ?_
   obtain rfl := sinj h
   obtain ⟨ad48, cv48, hp48, x8, cr48⟩ := ob_read Tryz.isAgg29 Tryz.sizeOf29 b47
   exact endm_ct rfl rfl ((show _ = p4 from rfl).trans hp48) x8 (show _ = .int .i64 (y8.2) from rfl) ⟨_, hfr, _, _, rfl, cr48, rfl⟩
  ·refine E_cf t5 rfl ?_
   obtain ⟨o0, hx, h⟩ := bsome h
   refine E_join (fun e w => ∃ (g : Gh) , Fr gI wI g w ∧ e 4 = p2 ∧ PT g.m w (x1 : PayPiece) p2 ∧ e 5 = p3 ∧ PT g.m w (x2 : Span) p3 ∧ e 6 = p4 ∧ OB 2006 g w 29 ((⟨0, 0⟩ : Span) : Span) p4 ∧ e 8 = p9 ∧ OB 2008 g w 117 (y8.1 : PayPayList) p9 ∧ e 20 = .bool (o0)) (fun Q' hQ => ?_) (fun vB iC hR => ?_)
   ·replace h := hx
    clear hx
    refine E_seq (E_region (EL_p (fPtr p3 0) (P_fieldAddr at_29_0 rfl (PT.ptr q3)) rfl ?_))
    have gA := PT_field (part_Span_0).1 q3
    refine EL_do .plain rfl (D_load (g := z4) Tryz.isAgg3 Tryz.sizeOf3 rfl gA fun v62 iA => ?_)
    obtain rfl := RV_int.1 iA
    refine EL_p (fPtr p3 1) (P_fieldAddr at_29_1 rfl (PT.ptr q3)) rfl ?_
    have jA := PT_field (part_Span_1).1 q3
    refine EL_do .plain rfl (D_load (g := z4) Tryz.isAgg3 Tryz.sizeOf3 rfl jA fun jC lA => ?_)
    obtain rfl := RV_int.1 lA
    refine EL_do .plain rfl (D_buildSlice (g := z4) 3025 (xs := ([(x2).Low, (x2).High] : List Int)) (vs := [.int .i64 ((x2).Low), .int .i64 ((x2).High)]) Tryz.underlying23 Tryz.sizeOf3 Tryz.zeroValue3 rfl rfl (.cons rfl (.cons rfl .nil)) (RVs.cons (RV_int.2 rfl) (RVs.cons (RV_int.2 rfl) RVs.nil)) rfl rfl fun mA kC nA hs o66 oA hxt hfl => ?_)
    have hfr := hfr.stp hs
    have q2 := q2.stp hs
    have q3 := q3.stp hs
    have b4 := b4.stp hs rfl
    have b10 := b10.stp hs rfl
    obtain ⟨z3, a9, h⟩ := bsome h
    refine EL_do .plain rfl (D_call (g := mA) (vs := [.int .i64 (0), .int .i64 (100), nA]) en54 (.cons rfl (.cons rfl (.cons rfl .nil))) (wk54 oA a9) fun j6 xB lC hs hr => ?_)
    have hfr := hfr.ext hs
    have q2 := q2.ext hs
    have q3 := q3.ext hs
    have b4 := b4.ext hs
    have b10 := b10.ext hs
    subst hr
    refine EL_p (.bool (!z3)) (P_not rfl) rfl ?_
    refine EL_at (.bool (!z3)) rfl rfl ?_
    refine EL_nil (thn_n ?_)
    rcases csome h with ⟨x5, h⟩ | ⟨x5, h⟩
    ·refine E_ct x5 rfl ?_
     refine E_skip ?_
     obtain rfl := sinj h
     exact hQ _ _ ⟨j6, hfr, rfl, q2, rfl, q3, rfl, b4, rfl, b10, rfl⟩
    ·refine E_cf x5 rfl ?_
     refine E_region (EL_p (fPtr p3 0) (P_fieldAddr at_29_0 rfl (PT.ptr q3)) rfl ?_)
     have pA := PT_field (part_Span_0).1 q3
     refine EL_do .plain rfl (D_load (g := j6) Tryz.isAgg3 Tryz.sizeOf3 rfl pA fun mC qA => ?_)
     obtain rfl := RV_int.1 qA
     refine EL_p (fPtr p3 1) (P_fieldAddr at_29_1 rfl (PT.ptr q3)) rfl ?_
     have rA := PT_field (part_Span_1).1 q3
     refine EL_do .plain rfl (D_load (g := j6) Tryz.isAgg3 Tryz.sizeOf3 rfl rA fun qC uA => ?_)
     obtain rfl := RV_int.1 uA
     refine EL_in (.bool ((decide ((x2).Low > (x2).High)))) rfl rfl rfl rfl ?_
     refine EL_at (.bool ((decide ((x2).Low > (x2).High)))) rfl rfl ?_
     refine EL_nil ?_
     obtain rfl := sinj h
     exact hQ _ _ ⟨j6, hfr, rfl, q2, rfl, q3, rfl, b4, rfl, b10, rfl⟩
   ·clear hx
    obtain ⟨e7, hfr, n7, o7, u7, c8, i3, o3, g8, i8, i5⟩ := hR
    rcases csome h with ⟨i6, h⟩ | ⟨i6, h⟩
    ·refine E_cond_true (Eq.trans (show ev _ _ = .bool (o0) from i5) (congrArg Value.bool i6)) ?_
     refine E_seq (E_region (EL_do .plain rfl (D_loadO (g := e7) Tryz.isAgg29 Tryz.sizeOf29 i3 o3 fun xA yA => ?_)))
     refine EL_do .plain rfl (D_storeOc (g := e7) (v := xA) Tryz.sizeOf29 i3 o3 rfl yA fun rC tC hs b77 cb => ?_)
     clear cb
     have hfr := hfr.stp hs
     refine EL_at (.int .i64 (3)) rfl rfl ?_
     refine EL_nil (thn_n (E_ret (blk_r ?_)))
     refine thn_r ?_
     obtain rfl := sinj h
     obtain ⟨ad78, cv78, hp78, d9, cr78⟩ := ob_read Tryz.isAgg29 Tryz.sizeOf29 b77
     exact endm_ct rfl rfl ((show _ = p4 from i3).trans hp78) d9 (show _ = .int .i64 (3) from rfl) ⟨_, hfr, _, _, rfl, cr78, rfl⟩
    ·refine E_cond_false (Eq.trans (show ev _ _ = .bool (o0) from i5) (congrArg Value.bool i6)) ?_
     exact E_skip (blk_n (thn_n (v8 ((⟨0, 0⟩ : Span)) _ _ ⟨e7, hfr, n7, o7, u7, c8, i3, o3, g8, i8⟩ h)))
 ·rintro m7 yB uC ⟨zA, hfr, x6, y6, a7, j3, b7, u3, c7, d7⟩ h
  refine E_seq (L_loadO0 (x := .tmp 8) Tryz.isAgg117 Tryz.sizeOf117 d7 fun n8 aB e9 => ?_)
  refine L_load (x := .tmp 4) Tryz.isAgg27 Tryz.sizeOf27 y6 fun o8 bB i9 => ?_
  have cB := PT_field (part_Span_1).1 j3
  refine L_load (x := .tmp 36) Tryz.isAgg3 Tryz.sizeOf3 cB fun vC dB k9 => ?_
  obtain rfl := RV_int.1 dB
  obtain ⟨u0, l9, h⟩ := bsome h
  refine L_loadO0 (x := .tmp 8) Tryz.isAgg117 Tryz.sizeOf117 d7 fun q8 eB n9 => ?_
  refine L_load (x := .tmp 4) Tryz.isAgg27 Tryz.sizeOf27 y6 fun r8 iB o9 => ?_
  have jB := PT_field (part_Span_0).1 j3
  refine L_load (x := .tmp 41) Tryz.isAgg3 Tryz.sizeOf3 jB fun xC lB t9 => ?_
  obtain rfl := RV_int.1 lB
  obtain ⟨j1, u9, h⟩ := bsome h
  refine E_drawL (g := zA) (n := 10) [(4, (fun v g w => v = .int .i64 (u0))), (9, (fun v g w => v = .int .i64 (j1)))] [0, 1, 2, 3, 4, 5, 6, 7, 8, 9] rfl mixed (by kernel_rfl) (⟨fun _ => up_eq _, fun _ => up_eq _, trivial⟩) ?_
  refine L_ld (c := n8) rfl rfl .plain (fun _ _ h => ⟨h.ch, fun b hb _ => h.below.block b hb⟩) e9 c7 ?_
  refine L_ld (c := o8) rfl rfl .plain (fun _ _ h => h.ch) i9 x6 ?_
  refine L_p (fPtr p3 1) rfl rfl (P_fieldAddr at_29_1 a7 (PT.ptr j3)) ?_
  refine L_ld (c := .int .i64 ((x2).High)) rfl rfl .plain (fun _ _ h => h.ch) k9 rfl ?_
  refine L_do (φ := fun v g w => v = .int .i64 (u0)) rfl rfl .plain (fun g w hd => D_call (g := g) (vs := [n8, o8, .int .i64 ((x2).High)]) en58 (.cons rfl (.cons rfl (.cons rfl .nil))) (wk58 (aB.ext hd.1) (bB.ext hd.1) l9) fun g' w' v hs hr => ⟨g', hs, hr⟩) (fun yC hv => ?_)
  obtain ⟨_, _, _, rfl⟩ := hv
  refine L_ld (c := q8) rfl rfl .plain (fun _ _ h => ⟨h.ch, fun b hb _ => h.below.block b hb⟩) n9 c7 ?_
  refine L_ld (c := r8) rfl rfl .plain (fun _ _ h => h.ch) o9 x6 ?_
  refine L_p (fPtr p3 0) rfl rfl (P_fieldAddr at_29_0 a7 (PT.ptr j3)) ?_
  refine L_ld (c := .int .i64 ((x2).Low)) rfl rfl .plain (fun _ _ h => h.ch) t9 rfl ?_
  refine L_do (φ := fun v g w => v = .int .i64 (j1)) rfl rfl .plain (fun g w hd => D_call (g := g) (vs := [q8, r8, .int .i64 ((x2).Low)]) en58 (.cons rfl (.cons rfl (.cons rfl .nil))) (wk58 (eB.ext hd.1) (iB.ext hd.1) u9) fun g' w' v hs hr => ⟨g', hs, hr⟩) (fun aD hv => ?_)
  obtain ⟨_, _, _, rfl⟩ := hv
  refine L_nl fun t8 mB hs => ?_
  have hfr := hfr.ext hs
  have u3 := u3.ext hs
  clear hs
  have i7 : RV t8.m mB (⟨u0, j1⟩ : Span) (.agg (setCh [[.int .i64 0], [.int .i64 0]] [(0, .int .i64 (u0)), (1, .int .i64 (j1))]).flatten.toArray) := RV_build rfl (rep_pair (rfl) (rep_last (rfl)))
  generalize k8 : (Value.agg (setCh [[.int .i64 0], [.int .i64 0]] [(0, .int .i64 (u0)), (1, .int .i64 (j1))]).flatten.toArray) = j7 at i7
  refine EL_p j7 (k8 ▸ P_build (vs := [(0, .int .i64 (u0)), (1, .int .i64 (j1))]) [[.int .i64 0], [.int .i64 0]] lay_29 rfl rfl (.cons rfl (.cons rfl .nil)) ⟨⟨_, rfl, rfl⟩, ⟨⟨_, rfl, rfl⟩, trivial⟩⟩) rfl ?_
  refine EL_do .plain rfl (D_storeOc (g := t8) (v := j7) Tryz.sizeOf29 b7 u3 rfl i7 fun zB aC hs b108 cb => ?_)
  clear cb
  have hfr := hfr.stp hs
  refine EL_at (.int .i64 (0)) rfl rfl ?_
  refine EL_nil (thn_n (E_ret ?_))
  obtain rfl := sinj h
  obtain ⟨ad109, cv109, hp109, l8, cr109⟩ := ob_read Tryz.isAgg29 Tryz.sizeOf29 b108
  exact endm_ct rfl rfl ((show _ = p4 from b7).trans hp109) l8 (show _ = .int .i64 (0) from rfl) ⟨_, hfr, _, _, rfl, cr109, rfl⟩
def f50 (x0 : Int) (x1 : List Int) : Option ((List Int) × Int) :=
 Option.bind (α := Int) (
  lp (σ := Int × Int) (fun nG (n7, i3) =>
   bif (decide (i3 < ((x1).length : Int))) then
    Option.bind (α := Int) (
     (idx x1 i3).bind fun n8 =>
     some ((w64 (n7 + (min64 (max64 n8 (0 : Int)) (1000 : Int)))))
     ) fun o8 =>
    nG (o8, (w64 (i3 + (1 : Int))))
   else
    some (n7)
   ) big ((0 : Int), (0 : Int))
  ) fun o3 =>
 jn (σ := (List Int)) (fun cC =>
  (mks 8 (0 : Int) (((x1).length : Int))).bind fun cB =>
  Option.bind (α := (List Int) × Int × (List Int)) (
   lp (σ := (List Int) × Int × (List Int) × Int) (fun nD (a9, a7, i7, o0) =>
    bif (decide (o0 < ((x1).length : Int))) then
     Option.bind (α := (List Int) × Int × (List Int)) (
      (idx x1 o0).bind fun d9 =>
      (quo64 (w64 (x0 * d9)) o3).bind fun y158 =>
      (apnd 8 a9 (([y158] : List Int))).bind fun y161 =>
      (idx i7 o0).bind fun tG =>
      (idx y161 o0).bind fun mA =>
      some (y161, (w64 (a7 - mA)), (List.set i7 (Int.toNat o0) o0))
      ) fun (o7, u7, j7) =>
     nD (o7, u7, j7, (w64 (o0 + (1 : Int))))
    else
     some (a9, a7, i7)
    ) big (cC, x0, cB, (0 : Int))
   ) fun (e9, u3, i8) =>
  (f75 i8 ((fun a0 a1 => f76 a0 a1 x0 x1 o3))).bind fun oD =>
  Option.bind (α := (List Int)) (
   (cut oD 0 u3).bind fun y6 =>
   lp (σ := (List Int) × Int) (fun sD (b7, u0) =>
    bif (decide (u0 < ((y6).length : Int))) then
     Option.bind (α := (List Int)) (
      (idx y6 u0).bind fun c7 =>
      (idx b7 c7).bind fun nA =>
      (idx b7 c7).bind fun uG =>
      some ((List.set b7 (Int.toNat c7) ((w64 (nA + (1 : Int))))))
      ) fun v7 =>
     sD (v7, (w64 (u0 + (1 : Int))))
    else
     some (b7)
    ) big (e9, (0 : Int))
   ) fun i9 =>
  some (i9, (0 : Int))
  ) fun oG =>
 (f54 ((0 : Int)) ((1000000000 : Int)) (([x0] : List Int))).bind fun dC =>
 bif (!dC) then
  some (([] : List Int), (3 : Int))
 else
  bif (decide (((x1).length : Int) > (10 : Int))) then
   some (([] : List Int), (5 : Int))
  else
   Option.bind (α := Bool) (
    (f54 ((0 : Int)) ((1000 : Int)) x1).bind fun dB =>
    bif (!dB) then
     some ((!dB))
    else
     some ((o3 == (0 : Int)))
    ) fun d7 =>
   bif d7 then
    some (([] : List Int), (2 : Int))
   else
    oG (([] : List Int))
def f7 (x0 : Prices) (x1 : Cut) (x2 : Vector UInt8 3) : Option (Bool) :=
 (f38 x0).bind fun y6 =>
 (f39 x1 y6).bind fun r8 =>
 (idx (x2).toList (0 : Int)).bind fun oD =>
 (rem64 ((oD).toNat : Int) (101 : Int)).bind fun x8 =>
 (idx (x2).toList (1 : Int)).bind fun sD =>
 (rem64 ((sD).toNat : Int) (60 : Int)).bind fun iA =>
 (f26 x8 ((min64 (100 : Int) (w64 (x8 + iA))))).bind fun j3 =>
 (f13 y6).bind fun jA =>
 (f14 (([r8] : List PayPiece))).bind fun o9 =>
 (idx o9 (0 : Int)).bind fun lA =>
 (f17 jA lA j3).bind fun i3 =>
 jn (σ := Unit) (fun _ =>
  (idx (x2).toList (2 : Int)).bind fun mC =>
  (rem64 ((mC).toNat : Int) (w64 ((w64 ((j3).High - (j3).Low)) + (1 : Int)))).bind fun x5 =>
  jn (σ := Unit) (fun _ =>
   (f12).bind fun u9 =>
   some (u9)
   ) fun tD =>
  lp (σ := PayPiece × Int × Int) (fun uD (i6, j7, o0) =>
   jn (σ := Unit) (fun _ =>
    jn (σ := PayPiece × Int) (fun (i9, e9) =>
     uD (i9, e9, (w64 (o0 + (1 : Int))))
     ) fun vD =>
    (f13 y6).bind fun k9 =>
    (f14 (([{ i6 with Faults := o0 }] : List PayPiece))).bind fun y8 =>
    (idx y8 (0 : Int)).bind fun l9 =>
    (f16 k9 l9).bind fun u0 =>
    jn (σ := Unit) (fun _ =>
     vD ({ i6 with Faults := o0 }, u0.2.2.1)
     ) fun xD =>
    Option.bind (α := Bool) (
     bif (u0.2.2.2 != (0 : Int)) then
      some (true)
     else
      bif (decide (u0.2.2.1 > j7)) then
       some (true)
      else
       bif (o0 == (j3).Low) then
        bif (u0.2.2.1 != ((i3.1 : Span)).High) then
         some (true)
        else
         bif (o0 == (j3).High) then
          bif (u0.2.2.1 != ((i3.1 : Span)).Low) then
           some (true)
          else
           bif (o0 == (w64 ((j3).Low + x5))) then
            bif (decide (u0.2.2.1 < ((i3.1 : Span)).Low)) then
             some (true)
            else
             some ((decide (u0.2.2.1 > ((i3.1 : Span)).High)))
           else
            some (false)
         else
          bif (o0 == (w64 ((j3).Low + x5))) then
           bif (decide (u0.2.2.1 < ((i3.1 : Span)).Low)) then
            some (true)
           else
            some ((decide (u0.2.2.1 > ((i3.1 : Span)).High)))
          else
           some (false)
       else
        bif (o0 == (j3).High) then
         bif (u0.2.2.1 != ((i3.1 : Span)).Low) then
          some (true)
         else
          bif (o0 == (w64 ((j3).Low + x5))) then
           bif (decide (u0.2.2.1 < ((i3.1 : Span)).Low)) then
            some (true)
           else
            some ((decide (u0.2.2.1 > ((i3.1 : Span)).High)))
          else
           some (false)
        else
         bif (o0 == (w64 ((j3).Low + x5))) then
          bif (decide (u0.2.2.1 < ((i3.1 : Span)).Low)) then
           some (true)
          else
           some ((decide (u0.2.2.1 > ((i3.1 : Span)).High)))
         else
          some (false)
     ) fun n8 =>
    bif n8 then
     some (false)
    else
     xD ()
    ) fun yD =>
   bif (decide (o0 ≤ (j3).High)) then
    yD ()
   else
    tD ()
   ) big (r8, (1099511627776 : Int), (j3).Low)
  ) fun kG =>
 bif (i3.2 != (0 : Int)) then
  some (false)
 else
  kG ()
theorem wk7 {gI : Gh} {wI : World} {x0 : Prices} {x1 : Cut} {x2 : Vector UInt8 3} {up0 : Value} (rp0 : RV gI.m wI x0 up0) {up1 : Value} (rp1 : RV gI.m wI x1 up1) {up2 : Value} (rp2 : RV gI.m wI x2 up2) {r : Bool} (h : f7 x0 x1 x2 = some r) : Fn Tryz.prog 7 #[up0, up1, up2] gI wI (fun _ _ v => v = .bool (r)) := by
 unfold f7 at h
 refine fn_of_E Tryz.func7 rfl (Nat.le_of_ble_eq_true rfl) fun g0 hm hfr => ?_
 have rp0 : RV g0.m wI x0 up0 := hm ▸ rp0
 have rp1 : RV g0.m wI x1 up1 := hm ▸ rp1
 have rp2 : RV g0.m wI x2 up2 := hm ▸ rp2
 show E _ 138 none _ _ _ _ _
 refine E_seq (E_region (EL_do .plain rfl (D_box (g := g0) rfl rp0 fun g1 w1 p1 hs q1 => ?_)))
 have hfr := hfr.ext hs
 have rp1 := rp1.ext hs
 have rp2 := rp2.ext hs
 refine EL_do .plain rfl (D_box (g := g1) rfl rp1 fun g2 w2 p2 hs q2 => ?_)
 have hfr := hfr.ext hs
 have rp2 := rp2.ext hs
 have q1 := q1.ext hs
 refine EL_do .plain rfl (D_box (g := g2) rfl rp2 fun g3 w3 p3 hs q3 => ?_)
 have hfr := hfr.ext hs
 have q1 := q1.ext hs
 have q2 := q2.ext hs
 refine EL_at (.bool false) rfl rfl ?_
 refine EL_nil (thn_n (E_seq (E_region (EL_do .plain rfl (D_load (g := g3) Tryz.isAgg75 Tryz.sizeOf75 rfl q1 fun v4 r4 => ?_)))))
 obtain ⟨y6, tH, h⟩ := bsome h
 refine EL_do .plain rfl (D_call (g := g3) (vs := [v4]) en38 (.cons rfl .nil) (wk38 r4 tH) fun g5 w5_ v5 hs hr => ?_)
 have hfr := hfr.ext hs
 have q2 := q2.ext hs
 have q3 := q3.ext hs
 have r5 := hr
 refine EL_do .plain rfl (D_allocOc (g := g5) 2007 (⟨[], [], 0, 0⟩ : PayList) Tryz.zeroValue25 (fun m w => ⟨_, (rep_two rep_nil (rep_two rep_nil (rep_two rep_int rep_int))), rfl⟩) fun g7 w7 p7 hs b7 cb => ?_)
 have hfr := hfr.stp hs
 have q2 := q2.stp hs
 have q3 := q3.stp hs
 have r5 := r5.stp hs
 have lK : OSF 2007 60700 0 g7 w7 87 25 ([] : List PayRate) p7 := cb.osf (by rfl)
 have mK : OSF 2007 60701 1 g7 w7 3 25 ([] : List Int) p7 := cb.osf (by rfl)
 clear cb
 refine EL_do .plain rfl (D_storeOc (g := g7) (v := v5) Tryz.sizeOf25 rfl b7 rfl r5 fun g8 w8 hs b8 cb => ?_)
 clear cb
 have hfr := hfr.stp hs
 have q2 := q2.stp hs
 have q3 := q3.stp hs
 refine EL_nil (thn_n (E_seq (E_region (EL_do .plain rfl (D_load (g := g8) Tryz.isAgg83 Tryz.sizeOf83 rfl q2 fun v9 r9 => ?_)))))
 refine EL_do .plain rfl (D_loadO (g := g8) Tryz.isAgg25 Tryz.sizeOf25 rfl b8 fun uH vH => ?_)
 obtain ⟨r8, rG, h⟩ := bsome h
 refine EL_do .plain rfl (D_call (g := g8) (vs := [v9, uH]) en39 (.cons rfl (.cons rfl .nil)) (wk39 r9 vH rG) fun xH nK yH hs hr => ?_)
 have hfr := hfr.ext hs
 have q3 := q3.ext hs
 have b8 := b8.ext hs
 have zD := hr
 refine EL_do .plain rfl (D_allocOc (g := xH) 2008 (⟨0, 0, 0, [], 0⟩ : PayPiece) Tryz.zeroValue27 (fun m w => ⟨_, (rep_two rep_int (rep_two rep_int (rep_two rep_int (rep_two rep_nil rep_int)))), rfl⟩) fun lG zH t8 hs b13 cb => ?_)
 have hfr := hfr.stp hs
 have q3 := q3.stp hs
 have b8 := b8.stp hs rfl
 have zD := zD.stp hs
 have iJ : OSF 2008 60803 3 lG zH 3 27 ([] : List Int) t8 := cb.osf (by rfl)
 clear cb
 refine EL_do .plain rfl (D_storeOc (g := lG) (v := yH) Tryz.sizeOf27 rfl b13 rfl zD fun aE iL hs b14 cb => ?_)
 clear cb
 have hfr := hfr.stp hs
 have q3 := q3.stp hs
 have b8 := b8.stp hs rfl
 refine EL_nil (thn_n (E_seq (E_region ?_)))
 obtain ⟨oD, bE, h⟩ := bsome h
 refine EL_p (fPtr p3 (((0 : Int) : Int).toNat * 1)) (P_indexAddrA (α := UInt8) Tryz.underlying89 Tryz.sizeOf5 rfl (PT.ptr q3) rfl bE) rfl ?_
 have aI := PT_idxA q3 bE
 refine EL_do .plain rfl (D_load (g := aE) Tryz.isAgg5 Tryz.sizeOf5 rfl aI fun jL bI => ?_)
 obtain rfl := RV_u8.1 bI
 refine EL_p (.int .i64 (((oD).toNat : Int))) (P_u8int Tryz.underlying5 Tryz.underlying3 rfl) rfl ?_
 obtain ⟨x8, sG, h⟩ := bsome h
 refine EL_p (.int .i64 (x8)) (P_int rfl rfl (congrArg (Option.map (Value.int .i64)) sG)) rfl ?_
 refine EL_at (.int .i64 (x8)) rfl rfl ?_
 refine EL_nil (thn_n (E_seq (E_region (EL_mw (.int .i64 (x8)) rfl rfl ?_))))
 refine EL_mw (.int .i64 (x8)) rfl rfl ?_
 obtain ⟨sD, cE, h⟩ := bsome h
 refine EL_p (fPtr p3 (((1 : Int) : Int).toNat * 1)) (P_indexAddrA (α := UInt8) Tryz.underlying89 Tryz.sizeOf5 rfl (PT.ptr q3) rfl cE) rfl ?_
 have cI := PT_idxA q3 cE
 refine EL_do .plain rfl (D_load (g := aE) Tryz.isAgg5 Tryz.sizeOf5 rfl cI fun lL dI => ?_)
 obtain rfl := RV_u8.1 dI
 refine EL_p (.int .i64 (((sD).toNat : Int))) (P_u8int Tryz.underlying5 Tryz.underlying3 rfl) rfl ?_
 obtain ⟨iA, tG, h⟩ := bsome h
 refine EL_p (.int .i64 (iA)) (P_int rfl rfl (congrArg (Option.map (Value.int .i64)) tG)) rfl ?_
 refine EL_in (.int .i64 ((w64 (x8 + iA)))) rfl rfl rfl rfl ?_
 refine EL_p (.int .i64 (min64 (100 : Int) (w64 (x8 + iA)))) (P_min rfl rfl) rfl ?_
 obtain ⟨j3, uG, h⟩ := bsome h
 refine EL_do .plain rfl (D_call (g := aE) (vs := [.int .i64 (x8), .int .i64 (min64 (100 : Int) (w64 (x8 + iA)))]) en26 (.cons rfl (.cons rfl .nil)) (wk26  uG) fun iI oK jI hs hr => ?_)
 have hfr := hfr.ext hs
 have q3 := q3.ext hs
 have b8 := b8.ext hs
 have b14 := b14.ext hs
 have dE := hr
 refine EL_do .plain rfl (D_allocOc (g := iI) 2010 (⟨0, 0⟩ : Span) Tryz.zeroValue29 (fun m w => ⟨_, (rep_two rep_int rep_int), rfl⟩) fun kI mL u7 hs b25 cb => ?_)
 have hfr := hfr.stp hs
 have q3 := q3.stp hs
 have b8 := b8.stp hs rfl
 have b14 := b14.stp hs rfl
 have dE := dE.stp hs
 clear cb
 refine EL_do .plain rfl (D_storeOc (g := kI) (v := jI) Tryz.sizeOf29 rfl b25 rfl dE fun mG lI hs b26 cb => ?_)
 clear cb
 have hfr := hfr.stp hs
 have q3 := q3.stp hs
 have b8 := b8.stp hs rfl
 have b14 := b14.stp hs rfl
 refine EL_nil (thn_n (E_seq (L_loadO0 (x := .tmp 7) Tryz.isAgg25 Tryz.sizeOf25 b8 fun nG mI vG => ?_)))
 obtain ⟨jA, xG, h⟩ := bsome h
 refine L_loadO0 (x := .tmp 8) Tryz.isAgg27 Tryz.sizeOf27 b14 fun oG nI yG => ?_
 obtain ⟨o9, zG, h⟩ := bsome h
 obtain ⟨lA, yA, h⟩ := bsome h
 refine L_loadO0 (x := .tmp 10) Tryz.isAgg29 Tryz.sizeOf29 b26 fun pG pI aH => ?_
 obtain ⟨i3, bH, h⟩ := bsome h
 refine E_drawTL (g := mG) (n := 13) [11] [(1, (fun v g w => RV g.m w jA v)), (3, (fun v g w => RV g.m w ([r8] : List PayPiece) v ∧ OS 3042 g w 27 ([r8] : List PayPiece) v ∧ FullV v)), (4, (fun v g w => RV g.m w o9 v)), (6, (fun v g w => RV g.m w (lA : PayPiece) v)), (8, (fun v g w => ∃ y0 y1 : Value, v = .tuple #[y0, y1] ∧ RV g.m w (i3.1 : Span) y0 ∧ y1 = .int .i64 (i3.2))), (12, (fun v g w => OB 2011 g w 29 (⟨0, 0⟩ : Span) v))] [0, 1, 2, 3, 4, 5, 6, 7, 8, 9, 10, 11, 12] rfl mixed (by kernel_rfl) (⟨fun _ => up_rv, fun _ => up_and up_rv (up_and up_os (up_eq _)), fun _ => up_rv, fun _ => up_rv, fun _ => (up_ex fun _ => (up_ex fun _ => (up_and (up_eq _) (up_and up_rv (up_eq _))))), fun _ => up_ob, trivial⟩) rfl ?_
 refine L_ld (c := nG) rfl rfl .plain (fun _ _ h => ⟨h.ch, fun b hb _ => h.below.block b hb⟩) vG rfl ?_
 refine L_do (φ := fun v g w => RV g.m w jA v) rfl rfl .plain (fun g w hd => D_call (g := g) (vs := [nG]) en13 (.cons rfl .nil) (wk13 (mI.ext hd.1) xG) fun g' w' v hs hr => ⟨g', hs, hr⟩) (fun eE hv => ?_)
 obtain ⟨_, _, _, rq28⟩ := hv
 refine L_ld (c := oG) rfl rfl .plain (fun _ _ h => ⟨h.ch, fun b hb _ => h.below.block b hb⟩) yG rfl ?_
 refine L_do (φ := fun v g w => RV g.m w ([r8] : List PayPiece) v ∧ OS 3042 g w 27 ([r8] : List PayPiece) v ∧ FullV v) rfl rfl .plain (fun g w hd => D_buildSlice (g := g) 3042 (xs := ([r8] : List PayPiece)) (vs := [oG]) Tryz.underlying33 Tryz.sizeOf27 Tryz.zeroValue27 rfl rfl (.cons rfl .nil) (RVs.cons (nI.ext hd.1) RVs.nil) rfl rfl fun g' w' v hs o r hxt hfl => ⟨g', hxt, r, o, hfl⟩) (fun d9 hv => ?_)
 clear hv
 refine L_do (φ := fun v g w => RV g.m w o9 v) rfl rfl .plain (fun g w hd => D_call (g := g) (vs := [d9]) en14 (.cons rfl .nil) (wk14 (word (A := fun g w => RV g.m w ([r8] : List PayPiece) d9 ∧ OS 3042 g w 27 ([r8] : List PayPiece) d9 ∧ FullV d9) 3 rfl rfl (deps_of hd)).1 zG) fun g' w' v hs hr => ⟨g', hs, hr⟩) (fun uA hv => ?_)
 obtain ⟨_, _, _, rq32⟩ := hv
 refine L_pur (c := ePtr uA (0 : Int) 5) rfl rfl .plain (fun _ _ hd => P_indexAddr (α := PayPiece) Tryz.underlying33 Tryz.sizeOf27 rfl (word (A := fun g w => RV g.m w o9 uA) 4 rfl rfl (deps_of hd)) rfl yA) ?_
 refine L_do (φ := (fun v g w => RV g.m w (lA : PayPiece) v)) rfl rfl .plain (fun g w hd => D_load (g := g) Tryz.isAgg27 Tryz.sizeOf27 rfl (PT_idx (word (A := fun g w => RV g.m w o9 uA) 4 rfl rfl (hop 5 rfl rfl (deps_of hd))) yA) fun v r => ⟨g, Ext.refl g w, r⟩) (fun gE hv => ?_)
 clear hv
 refine L_ld (c := pG) rfl rfl .plain (fun _ _ h => ⟨h.ch, fun b hb _ => h.below.block b hb⟩) aH rfl ?_
 refine L_do (φ := fun v g w => ∃ y0 y1 : Value, v = .tuple #[y0, y1] ∧ RV g.m w (i3.1 : Span) y0 ∧ y1 = .int .i64 (i3.2)) rfl rfl .plain (fun g w hd => D_call (g := g) (vs := [eE, gE, pG]) en17 (.cons rfl (.cons rfl (.cons rfl .nil))) (wk17 (word (A := fun g w => RV g.m w jA eE) 1 rfl rfl (deps_of hd)) (word (A := fun g w => RV g.m w (lA : PayPiece) gE) 6 rfl rfl (deps_of hd)) (pI.ext hd.1) bH) fun g' w' v hs hr => ⟨g', hs, hr⟩) (fun nL hv => ?_)
 obtain ⟨_, _, _, y9, _, rfl, qI, rfl⟩ := hv
 refine L_p (.tuple #[y9, .int .i64 (i3.2)]) rfl rfl (P_move rfl) ?_
 refine L_p y9 rfl rfl (P_extract rfl rfl) ?_
 refine L_purL (c := .int .i64 (i3.2)) rfl rfl .plain (P_extract rfl rfl) ?_
 refine L_do (φ := fun v g w => OB 2011 g w 29 (⟨0, 0⟩ : Span) v) rfl rfl .plain (fun g w hd => D_allocX (g := g) 2011 (⟨0, 0⟩ : Span) Tryz.zeroValue29 (fun m w => ⟨_, (rep_two rep_int rep_int), rfl⟩) fun g' w' v hs b => ⟨g', hs, b⟩) (fun m7 hv => ?_)
 clear hv
 refine L_nil fun qG rI hall => ?_
 have hs := hall.1
 have hlt : Lt mG.m lI qG rI := hs.ch
 have hfr := hfr.ext hs
 have q3 := q3.ext hs
 have b8 := b8.ext hs
 have b14 := b14.ext hs
 have b26 := b26.ext hs
 have oL := (word_all (A := fun g w => RV g.m w jA eE) 1 rfl hall)
 have pL := (word_all (A := fun g w => RV g.m w ([r8] : List PayPiece) d9 ∧ OS 3042 g w 27 ([r8] : List PayPiece) d9 ∧ FullV d9) 3 rfl hall).1
 have o75 := (word_all (A := fun g w => RV g.m w ([r8] : List PayPiece) d9 ∧ OS 3042 g w 27 ([r8] : List PayPiece) d9 ∧ FullV d9) 3 rfl hall).2.1
 have qL := (word_all (A := fun g w => RV g.m w o9 uA) 4 rfl hall)
 have rL := (PT_idx (word_all (A := fun g w => RV g.m w o9 uA) 4 rfl hall) yA)
 have tL := (word_all (A := fun g w => RV g.m w (lA : PayPiece) gE) 6 rfl hall)
 have sI := (tup2_0 (word_all (A := fun g w => ∃ y0 y1 : Value, Value.tuple #[y9, .int .i64 (i3.2)] = .tuple #[y0, y1] ∧ RV g.m w (i3.1 : Span) y0 ∧ y1 = .int .i64 (i3.2)) 8 rfl hall))
 have b84 := (word_all (A := fun g w => OB 2011 g w 29 (⟨0, 0⟩ : Span) m7) 12 rfl hall)
 clear hs hall
 refine TL_do hlt.w .plain rfl (D_storeOc (g := qG) (v := y9) Tryz.sizeOf29 rfl b84 rfl sI fun tI uL hs b85 cb => ?_)
 clear cb
 have hfr := hfr.stp hs
 have hlt := hlt.stp hs
 have q3 := q3.stp hs
 have b8 := b8.stp hs rfl
 have b14 := b14.stp hs rfl
 have b26 := b26.stp hs rfl
 refine TL_pur hlt.w (v := .int .i64 (i3.2)) (P_assign rfl) .plain rfl ?_
 refine TL_nil hlt.w ?_
 clear hlt
 refine thn_n (E_joinC h (fun (s : Unit) e w => ∃ (g : Gh) , Fr gI wI g w ∧ e 5 = p3 ∧ PT g.m w (x2 : Vector UInt8 3) p3 ∧ e 7 = p7 ∧ OB 2007 g w 25 (y6 : PayList) p7 ∧ e 8 = t8 ∧ OB 2008 g w 27 (r8 : PayPiece) t8 ∧ e 10 = u7 ∧ OB 2010 g w 29 (j3 : Span) u7 ∧ e 11 = m7 ∧ OB 2011 g w 29 ((i3.1 : Span) : Span) m7) (fun X87 kG cH h => ?_) ?_)
 ·refine E_seq (E_region (EL_mw (.int .i64 (i3.2)) rfl rfl ?_))
  refine EL_in (.bool ((i3.2 != (0 : Int)))) rfl rfl rfl rfl ?_
  refine EL_nil (thn_n ?_)
  rcases csome h with ⟨zA, h⟩ | ⟨zA, h⟩
  ·refine E_ct zA rfl ?_
   refine E_seq (E_region (EL_at (.bool false) rfl rfl ?_))
   refine EL_nil (thn_n (E_ret (thn_r ?_)))
   obtain rfl := sinj h
   exact end1 rfl rfl (show _ = .bool false from rfl) ⟨_, hfr, rfl⟩
  ·refine E_cf zA rfl ?_
   exact E_skip (thn_n (cH () _ _ ⟨tI, hfr, rfl, q3, rfl, b8, rfl, b14, rfl, b26, rfl, b85⟩ h))
 ·rintro _ pK vL ⟨uI, hfr, uE, qC, vE, oA, xE, pA, a9, o7, iE, z9⟩ h
  refine E_seq (E_region (EL_at (.int .i64 (1099511627776)) rfl rfl ?_))
  refine EL_nil (thn_n (E_seq (L_loadO (x := .tmp 52) part_Span_0.1 Tryz.isAgg3 Tryz.sizeOf3 o7 fun xL vI dH => ?_)))
  obtain rfl := RV_int.1 vI
  obtain ⟨mC, jE, h⟩ := bsome h
  have xI := PT_idxA qC jE
  refine L_load (x := .tmp 54) Tryz.isAgg5 Tryz.sizeOf5 xI fun yL yI gH => ?_
  obtain rfl := RV_u8.1 yI
  refine L_loadO (x := .tmp 57) part_Span_1.1 Tryz.isAgg3 Tryz.sizeOf3 o7 fun zL zI iH => ?_
  obtain rfl := RV_int.1 zI
  refine L_loadO (x := .tmp 59) part_Span_0.1 Tryz.isAgg3 Tryz.sizeOf3 o7 fun aM aJ jH => ?_
  obtain rfl := RV_int.1 aJ
  obtain ⟨x5, kH, h⟩ := bsome h
  refine E_drawL (g := uI) (n := 14) [] [0, 1, 2, 3, 4, 5, 6, 7, 8, 9, 10, 11, 12, 13] rfl mixed (by kernel_rfl) trivial ?_
  refine L_p (fPtr u7 0) rfl rfl (P_fieldAddr at_29_0 a9 (OB.ptr o7)) ?_
  refine L_ld (c := .int .i64 ((j3).Low)) rfl rfl .plain (fun _ _ h => ⟨h.ch, fun b hb _ => h.below.block b hb⟩) dH rfl ?_
  refine L_p (fPtr p3 (((2 : Int) : Int).toNat * 1)) rfl rfl (P_indexAddrA (α := UInt8) Tryz.underlying89 Tryz.sizeOf5 uE (PT.ptr qC) rfl jE) ?_
  refine L_ld (c := .int .u8 (UInt8.toNat (mC))) rfl rfl .plain (fun _ _ h => h.ch) gH rfl ?_
  refine L_p (.int .i64 (((mC).toNat : Int))) rfl rfl (P_u8int Tryz.underlying5 Tryz.underlying3 rfl) ?_
  refine L_p (fPtr u7 1) rfl rfl (P_fieldAddr at_29_1 a9 (OB.ptr o7)) ?_
  refine L_ld (c := .int .i64 ((j3).High)) rfl rfl .plain (fun _ _ h => ⟨h.ch, fun b hb _ => h.below.block b hb⟩) iH rfl ?_
  refine L_p (fPtr u7 0) rfl rfl (P_fieldAddr at_29_0 a9 (OB.ptr o7)) ?_
  refine L_ld (c := .int .i64 ((j3).Low)) rfl rfl .plain (fun _ _ h => ⟨h.ch, fun b hb _ => h.below.block b hb⟩) jH rfl ?_
  refine L_p (.int .i64 ((w64 ((j3).High - (j3).Low)))) rfl rfl (P_int rfl rfl rfl) ?_
  refine L_p (.int .i64 ((w64 ((w64 ((j3).High - (j3).Low)) + (1 : Int))))) rfl rfl (P_int rfl rfl rfl) ?_
  refine L_p (.int .i64 (x5)) rfl rfl (P_int rfl rfl (congrArg (Option.map (Value.int .i64)) kH)) ?_
  refine L_p (.int .i64 ((w64 ((j3).Low + x5)))) rfl rfl (P_int rfl rfl rfl) ?_
  refine L_p (.int .i64 ((w64 ((j3).Low + x5)))) rfl rfl (P_assign rfl) ?_
  refine L_nl fun kE qK hs => ?_
  have hfr := hfr.ext hs
  have oA := oA.ext hs
  have pA := pA.ext hs
  have o7 := o7.ext hs
  have z9 := z9.ext hs
  clear hs
  refine EL_nil (thn_n (E_joinC h (fun (s : Unit) e w => ∃ (g : Gh) , Fr gI wI g w) (fun X581 tD yE h => ?_) ?_))
  ·refine E_seq (E_region (EL_p (fPtr u7 0) (P_fieldAddr at_29_0 a9 (OB.ptr o7)) rfl ?_))
   refine EL_do .plain rfl (D_loadF (g := kE) part_Span_0.1 Tryz.isAgg3 Tryz.sizeOf3 rfl o7 fun sK lH => ?_)
   obtain rfl := RV_int.1 lH
   refine EL_at (.int .i64 ((j3).Low)) rfl rfl ?_
   refine EL_nil (thn_n (E_block ?_))
   refine E_lp h (fun (s : PayPiece × Int × Int) e w => ∃ (g : Gh) , Fr gI wI g w ∧ e 7 = p7 ∧ OB 2007 g w 25 (y6 : PayList) p7 ∧ e 8 = t8 ∧ OB 2008 g w 27 (s.1 : PayPiece) t8 ∧ e 10 = u7 ∧ OB 2010 g w 29 (j3 : Span) u7 ∧ e 11 = m7 ∧ OB 2011 g w 29 ((i3.1 : Span) : Span) m7 ∧ e 13 = .int .i64 (s.2.1) ∧ e 14 = .int .i64 ((w64 ((j3).Low + x5))) ∧ e 15 = .int .i64 (s.2.2)) ⟨kE, hfr, vE, oA, xE, pA, a9, o7, iE, z9, rfl, rfl, rfl⟩ (fun X584 uD zE => ?_)
   rintro ⟨i6, j7, o0⟩ jJ tK ⟨aB, hfr, lE, mE, nE, oE, mA, n9, rC, tC, uC, vC, nA⟩ h
   refine E_joinC h (fun (s : Unit) e w => ∃ (g : Gh) , Fr gI wI g w ∧ e 7 = p7 ∧ OB 2007 g w 25 (y6 : PayList) p7 ∧ e 8 = t8 ∧ OB 2008 g w 27 (i6 : PayPiece) t8 ∧ e 10 = u7 ∧ OB 2010 g w 29 (j3 : Span) u7 ∧ e 11 = m7 ∧ OB 2011 g w 29 ((i3.1 : Span) : Span) m7 ∧ e 13 = .int .i64 (j7) ∧ e 14 = .int .i64 ((w64 ((j3).Low + x5))) ∧ e 15 = .int .i64 (o0)) (fun X589 yD cF h => ?_) ?_
   ·refine E_seq (E_region (EL_mv nA rfl ?_))
    refine EL_p (fPtr u7 1) (P_fieldAddr at_29_1 mA (OB.ptr n9)) rfl ?_
    refine EL_do .plain rfl (D_loadF (g := aB) part_Span_1.1 Tryz.isAgg3 Tryz.sizeOf3 rfl n9 fun uK mH => ?_)
    obtain rfl := RV_int.1 mH
    refine EL_in (.bool ((decide (o0 ≤ (j3).High)))) rfl rfl rfl rfl ?_
    refine EL_nil (thn_n ?_)
    rcases csome h with ⟨qA, h⟩ | ⟨qA, h⟩
    ·refine E_ct qA rfl ?_
     exact E_skip (thn_n (cF () _ _ ⟨aB, hfr, lE, mE, nE, oE, mA, n9, rC, tC, uC, vC, nA⟩ h))
    ·refine E_cf qA rfl ?_
     refine E_exit ?_
     refine thn_e ?_
     refine thn_e ?_
     refine blk_hit ?_
     exact thn_n (yE () _ _ ⟨aB, hfr⟩ h)
   ·rintro _ kJ vK ⟨nH, hfr, j6, l5, t5, xA, i5, u3, o3, j1, xC, z4, z3⟩ h
    refine E_joinC h (fun (s : PayPiece × Int) e w => ∃ (g : Gh) , Fr gI wI g w ∧ e 7 = p7 ∧ OB 2007 g w 25 (y6 : PayList) p7 ∧ e 8 = t8 ∧ OB 2008 g w 27 (s.1 : PayPiece) t8 ∧ e 10 = u7 ∧ OB 2010 g w 29 (j3 : Span) u7 ∧ e 11 = m7 ∧ OB 2011 g w 29 ((i3.1 : Span) : Span) m7 ∧ e 13 = .int .i64 (s.2) ∧ e 14 = .int .i64 ((w64 ((j3).Low + x5))) ∧ e 15 = .int .i64 (o0)) (fun X817 vD dF h => ?_) ?_
    ·refine E_block ?_
     refine E_seq (E_region (EL_mv z3 rfl ?_))
     refine EL_p (fPtr t8 4) (P_fieldAddr at_27_4 t5 (OB.ptr xA)) rfl ?_
     refine EL_do .plain rfl (D_storeFc (g := nH) part_PayPiece_4 Tryz.sizeOf3 rfl xA rfl (RV_int.2 rfl) fun oH xK hs b819 rst hos => ?_)
     clear rst hos
     have hfr := hfr.stp hs
     have l5 := l5.stp hs rfl
     have u3 := u3.stp hs rfl
     have j1 := j1.stp hs rfl
     refine EL_nil (thn_n (E_seq (L_loadO0 (x := .tmp 7) Tryz.isAgg25 Tryz.sizeOf25 l5 fun rE pH eF => ?_)))
     obtain ⟨k9, iF, h⟩ := bsome h
     refine L_loadO0 (x := .tmp 8) Tryz.isAgg27 Tryz.sizeOf27 b819 fun sE qH nF => ?_
     obtain ⟨y8, oF, h⟩ := bsome h
     obtain ⟨l9, rA, h⟩ := bsome h
     obtain ⟨u0, pF, h⟩ := bsome h
     refine E_drawL (g := oH) (n := 17) [(1, (fun v g w => RV g.m w k9 v)), (3, (fun v g w => RV g.m w ([{ i6 with Faults := o0 }] : List PayPiece) v ∧ OS 3079 g w 27 ([{ i6 with Faults := o0 }] : List PayPiece) v ∧ FullV v)), (4, (fun v g w => RV g.m w y8 v)), (6, (fun v g w => RV g.m w (l9 : PayPiece) v)), (7, (fun v g w => ∃ y0 y1 y2 y3 : Value, v = .tuple #[y0, y1, y2, y3] ∧ y0 = .int .i64 (u0.1) ∧ y1 = .int .i64 (u0.2.1) ∧ y2 = .int .i64 (u0.2.2.1) ∧ y3 = .int .i64 (u0.2.2.2)))] [0, 1, 2, 3, 4, 5, 6, 7, 8, 9, 10, 11, 12, 13, 14, 15, 16] rfl mixed (by kernel_rfl) (⟨fun _ => up_rv, fun _ => up_and up_rv (up_and up_os (up_eq _)), fun _ => up_rv, fun _ => up_rv, fun _ => (up_ex fun _ => (up_ex fun _ => (up_ex fun _ => (up_ex fun _ => (up_and (up_eq _) (up_and (up_eq _) (up_and (up_eq _) (up_and (up_eq _) (up_eq _))))))))), trivial⟩) ?_
     refine L_ld (c := rE) rfl rfl .plain (fun _ _ h => ⟨h.ch, fun b hb _ => h.below.block b hb⟩) eF j6 ?_
     refine L_do (φ := fun v g w => RV g.m w k9 v) rfl rfl .plain (fun g w hd => D_call (g := g) (vs := [rE]) en13 (.cons rfl .nil) (wk13 (pH.ext hd.1) iF) fun g' w' v hs hr => ⟨g', hs, hr⟩) (fun bB hv => ?_)
     obtain ⟨_, _, _, rq821⟩ := hv
     refine L_ld (c := sE) rfl rfl .plain (fun _ _ h => ⟨h.ch, fun b hb _ => h.below.block b hb⟩) nF t5 ?_
     refine L_do (φ := fun v g w => RV g.m w ([{ i6 with Faults := o0 }] : List PayPiece) v ∧ OS 3079 g w 27 ([{ i6 with Faults := o0 }] : List PayPiece) v ∧ FullV v) rfl rfl .plain (fun g w hd => D_buildSlice (g := g) 3079 (xs := ([{ i6 with Faults := o0 }] : List PayPiece)) (vs := [sE]) Tryz.underlying33 Tryz.sizeOf27 Tryz.zeroValue27 rfl rfl (.cons rfl .nil) (RVs.cons (qH.ext hd.1) RVs.nil) rfl rfl fun g' w' v hs o r hxt hfl => ⟨g', hxt, r, o, hfl⟩) (fun v8 hv => ?_)
     clear hv
     refine L_do (φ := fun v g w => RV g.m w y8 v) rfl rfl .plain (fun g w hd => D_call (g := g) (vs := [v8]) en14 (.cons rfl .nil) (wk14 (word (A := fun g w => RV g.m w ([{ i6 with Faults := o0 }] : List PayPiece) v8 ∧ OS 3079 g w 27 ([{ i6 with Faults := o0 }] : List PayPiece) v8 ∧ FullV v8) 3 rfl rfl (deps_of hd)).1 oF) fun g' w' v hs hr => ⟨g', hs, hr⟩) (fun bA hv => ?_)
     obtain ⟨_, _, _, rq825⟩ := hv
     refine L_pur (c := ePtr bA (0 : Int) 5) rfl rfl .plain (fun _ _ hd => P_indexAddr (α := PayPiece) Tryz.underlying33 Tryz.sizeOf27 rfl (word (A := fun g w => RV g.m w y8 bA) 4 rfl rfl (deps_of hd)) rfl rA) ?_
     refine L_do (φ := (fun v g w => RV g.m w (l9 : PayPiece) v)) rfl rfl .plain (fun g w hd => D_load (g := g) Tryz.isAgg27 Tryz.sizeOf27 rfl (PT_idx (word (A := fun g w => RV g.m w y8 bA) 4 rfl rfl (hop 5 rfl rfl (deps_of hd))) rA) fun v r => ⟨g, Ext.refl g w, r⟩) (fun cB hv => ?_)
     clear hv
     refine L_do (φ := fun v g w => ∃ y0 y1 y2 y3 : Value, v = .tuple #[y0, y1, y2, y3] ∧ y0 = .int .i64 (u0.1) ∧ y1 = .int .i64 (u0.2.1) ∧ y2 = .int .i64 (u0.2.2.1) ∧ y3 = .int .i64 (u0.2.2.2)) rfl rfl .plain (fun g w hd => D_call (g := g) (vs := [bB, cB]) en16 (.cons rfl (.cons rfl .nil)) (wk16 (word (A := fun g w => RV g.m w k9 bB) 1 rfl rfl (deps_of hd)) (word (A := fun g w => RV g.m w (l9 : PayPiece) cB) 6 rfl rfl (deps_of hd)) pF) fun g' w' v hs hr => ⟨g', hs, hr⟩) (fun yK hv => ?_)
     obtain ⟨_, _, _, _, _, _, _, rfl, rfl, rfl, rfl, rfl⟩ := hv
     refine L_p (.tuple #[.int .i64 (u0.1), .int .i64 (u0.2.1), .int .i64 (u0.2.2.1), .int .i64 (u0.2.2.2)]) rfl rfl (P_move rfl) ?_
     refine L_p (.int .i64 (u0.1)) rfl rfl (P_extract rfl rfl) ?_
     refine L_p (.int .i64 (u0.2.1)) rfl rfl (P_extract rfl rfl) ?_
     refine L_p (.int .i64 (u0.2.2.1)) rfl rfl (P_extract rfl rfl) ?_
     refine L_p (.int .i64 (u0.2.2.2)) rfl rfl (P_extract rfl rfl) ?_
     refine L_p (.int .i64 (u0.1)) rfl rfl (P_assign rfl) ?_
     refine L_p (.int .i64 (u0.2.1)) rfl rfl (P_assign rfl) ?_
     refine L_p (.int .i64 (u0.2.2.1)) rfl rfl (P_assign rfl) ?_
     refine L_p (.int .i64 (u0.2.2.2)) rfl rfl (P_assign rfl) ?_
     refine L_nil fun q5 zK hall => ?_
     have hs := hall.1
     have hfr := hfr.ext hs
     have l5 := l5.ext hs
     have b819 := b819.ext hs
     have u3 := u3.ext hs
     have j1 := j1.ext hs
     have aL := (word_all (A := fun g w => RV g.m w k9 bB) 1 rfl hall)
     have bL := (word_all (A := fun g w => RV g.m w ([{ i6 with Faults := o0 }] : List PayPiece) v8 ∧ OS 3079 g w 27 ([{ i6 with Faults := o0 }] : List PayPiece) v8 ∧ FullV v8) 3 rfl hall).1
     have o845 := (word_all (A := fun g w => RV g.m w ([{ i6 with Faults := o0 }] : List PayPiece) v8 ∧ OS 3079 g w 27 ([{ i6 with Faults := o0 }] : List PayPiece) v8 ∧ FullV v8) 3 rfl hall).2.1
     have cL := (word_all (A := fun g w => RV g.m w y8 bA) 4 rfl hall)
     have dL := (PT_idx (word_all (A := fun g w => RV g.m w y8 bA) 4 rfl hall) rA)
     have eL := (word_all (A := fun g w => RV g.m w (l9 : PayPiece) cB) 6 rfl hall)
     clear hs hall
     refine EL_nil (thn_n (E_joinC h (fun (s : Unit) e w => ∃ (g : Gh) , Fr gI wI g w ∧ e 7 = p7 ∧ OB 2007 g w 25 (y6 : PayList) p7 ∧ e 8 = t8 ∧ OB 2008 g w 27 ({ i6 with Faults := o0 } : PayPiece) t8 ∧ e 10 = u7 ∧ OB 2010 g w 29 (j3 : Span) u7 ∧ e 11 = m7 ∧ OB 2011 g w 29 ((i3.1 : Span) : Span) m7 ∧ e 14 = .int .i64 ((w64 ((j3).Low + x5))) ∧ e 15 = .int .i64 (o0) ∧ e 18 = .int .i64 (u0.2.2.1)) (fun X949 xD qF h => ?_) ?_))
     ·obtain ⟨n8, hx, h⟩ := bsome h
      refine E_join (fun e w => ∃ (g : Gh) , Fr gI wI g w ∧ e 7 = p7 ∧ OB 2007 g w 25 (y6 : PayList) p7 ∧ e 8 = t8 ∧ OB 2008 g w 27 ({ i6 with Faults := o0 } : PayPiece) t8 ∧ e 10 = u7 ∧ OB 2010 g w 29 (j3 : Span) u7 ∧ e 11 = m7 ∧ OB 2011 g w 29 ((i3.1 : Span) : Span) m7 ∧ e 14 = .int .i64 ((w64 ((j3).Low + x5))) ∧ e 15 = .int .i64 (o0) ∧ e 18 = .int .i64 (u0.2.2.1) ∧ e 135 = .bool (n8)) (fun Q' hQ => ?_) (fun bJ lJ hR => ?_)
      ·replace h := hx
       clear hx
       refine E_region (EL_mw (.int .i64 (u0.2.2.2)) rfl rfl ?_)
       refine EL_in (.bool ((u0.2.2.2 != (0 : Int)))) rfl rfl rfl rfl ?_
       refine EL_mw (.bool ((u0.2.2.2 != (0 : Int)))) rfl rfl ?_
       rcases csome h with ⟨o8, h⟩ | ⟨o8, h⟩
       ·refine EL_s rfl rfl o8 rfl rfl ?_
        refine EL_s rfl rfl o8 rfl rfl ?_
        refine EL_s rfl rfl o8 rfl rfl ?_
        refine EL_p (.bool true) (P_pick (b := (u0.2.2.2 != (0 : Int))) rfl (pick_t o8 rfl)) rfl ?_
        refine EL_dead 41 rfl ?_
        refine EL_nil ?_
        obtain rfl := sinj h
        exact hQ _ _ ⟨q5, hfr, j6, l5, t5, b819, i5, u3, o3, j1, z4, z3, rfl, rfl⟩
       ·refine EL_y (.int .i64 (u0.2.2.1)) (P_move rfl) rfl rfl o8 rfl ?_
        refine EL_y (.int .i64 (j7)) (P_move xC) rfl rfl o8 rfl ?_
        refine EL_y (.bool ((decide (u0.2.2.1 > j7)))) (P_int rfl rfl rfl) rfl rfl o8 rfl ?_
        refine EL_p (.bool ((decide (u0.2.2.1 > j7)))) (P_pick (b := (u0.2.2.2 != (0 : Int))) rfl (pick_f o8 rfl)) rfl ?_
        refine EL_mw (.bool ((decide (u0.2.2.1 > j7)))) rfl rfl ?_
        rcases csome h with ⟨n7, h⟩ | ⟨n7, h⟩
        ·refine EL_s rfl rfl n7 rfl rfl ?_
         iterate 4 refine EL_s rfl rfl n7 rfl rfl ?_
         refine EL_dead 4 rfl ?_
         refine EL_s rfl rfl n7 rfl rfl ?_
         refine EL_p (.bool true) (P_pick (b := (decide (u0.2.2.1 > j7))) rfl (pick_t n7 rfl)) rfl ?_
         refine EL_dead 29 rfl ?_
         refine EL_nil ?_
         obtain rfl := sinj h
         exact hQ _ _ ⟨q5, hfr, j6, l5, t5, b819, i5, u3, o3, j1, z4, z3, rfl, rfl⟩
        ·refine EL_y (.int .i64 (o0)) (P_move z3) rfl rfl n7 rfl ?_
         refine EL_y (fPtr u7 0) (P_fieldAddr at_29_0 i5 (OB.ptr u3)) rfl rfl n7 rfl ?_
         refine EL_do (.yes2 rfl rfl n7) rfl (D_loadF (g := q5) part_Span_0.1 Tryz.isAgg3 Tryz.sizeOf3 rfl u3 fun gL sH => ?_)
         obtain rfl := RV_int.1 sH
         refine EL_y (.bool ((o0 == (j3).Low))) (P_int rfl rfl rfl) rfl rfl n7 rfl ?_
         refine EL_y (.bool ((o0 == (j3).Low))) (P_move rfl) rfl rfl n7 rfl ?_
         rcases csome h with ⟨q8, h⟩ | ⟨q8, h⟩
         ·refine EL_y (.int .i64 (u0.2.2.1)) (P_move rfl) rfl rfl q8 rfl ?_
          refine EL_y (fPtr m7 1) (P_fieldAddr at_29_1 o3 (OB.ptr j1)) rfl rfl q8 rfl ?_
          refine EL_do (.yes2 rfl rfl q8) rfl (D_loadF (g := q5) part_Span_1.1 Tryz.isAgg3 Tryz.sizeOf3 rfl j1 fun mJ rF => ?_)
          obtain rfl := RV_int.1 rF
          refine EL_y (.bool ((u0.2.2.1 != ((i3.1 : Span)).High))) (P_int rfl rfl rfl) rfl rfl q8 rfl ?_
          refine EL_y (.bool ((u0.2.2.1 != ((i3.1 : Span)).High))) (P_pick (b := (o0 == (j3).Low)) rfl (pick_t q8 rfl)) rfl rfl n7 rfl ?_
          refine EL_p (.bool ((u0.2.2.1 != ((i3.1 : Span)).High))) (P_pick (b := (decide (u0.2.2.1 > j7))) rfl (pick_f n7 rfl)) rfl ?_
          refine EL_mw (.bool ((u0.2.2.1 != ((i3.1 : Span)).High))) rfl rfl ?_
          rcases csome h with ⟨a7, h⟩ | ⟨a7, h⟩
          ·refine EL_s rfl rfl a7 rfl rfl ?_
           iterate 4 refine EL_s rfl rfl a7 rfl rfl ?_
           refine EL_dead 4 rfl ?_
           refine EL_s rfl rfl a7 rfl rfl ?_
           refine EL_p (.bool true) (P_pick (b := (u0.2.2.1 != ((i3.1 : Span)).High)) rfl (pick_t a7 rfl)) rfl ?_
           refine EL_dead 17 rfl ?_
           refine EL_nil ?_
           obtain rfl := sinj h
           exact hQ _ _ ⟨q5, hfr, j6, l5, t5, b819, i5, u3, o3, j1, z4, z3, rfl, rfl⟩
          ·refine EL_y (.int .i64 (o0)) (P_move z3) rfl rfl a7 rfl ?_
           refine EL_y (fPtr u7 1) (P_fieldAddr at_29_1 i5 (OB.ptr u3)) rfl rfl a7 rfl ?_
           refine EL_do (.yes2 rfl rfl a7) rfl (D_loadF (g := q5) part_Span_1.1 Tryz.isAgg3 Tryz.sizeOf3 rfl u3 fun nJ sF => ?_)
           obtain rfl := RV_int.1 sF
           refine EL_y (.bool ((o0 == (j3).High))) (P_int rfl rfl rfl) rfl rfl a7 rfl ?_
           refine EL_y (.bool ((o0 == (j3).High))) (P_move rfl) rfl rfl a7 rfl ?_
           rcases csome h with ⟨v7, h⟩ | ⟨v7, h⟩
           ·refine EL_y (.int .i64 (u0.2.2.1)) (P_move rfl) rfl rfl v7 rfl ?_
            refine EL_y (fPtr m7 0) (P_fieldAddr at_29_0 o3 (OB.ptr j1)) rfl rfl v7 rfl ?_
            refine EL_do (.yes2 rfl rfl v7) rfl (D_loadF (g := q5) part_Span_0.1 Tryz.isAgg3 Tryz.sizeOf3 rfl j1 fun oJ tF => ?_)
            obtain rfl := RV_int.1 tF
            refine EL_y (.bool ((u0.2.2.1 != ((i3.1 : Span)).Low))) (P_int rfl rfl rfl) rfl rfl v7 rfl ?_
            refine EL_y (.bool ((u0.2.2.1 != ((i3.1 : Span)).Low))) (P_pick (b := (o0 == (j3).High)) rfl (pick_t v7 rfl)) rfl rfl a7 rfl ?_
            refine EL_p (.bool ((u0.2.2.1 != ((i3.1 : Span)).Low))) (P_pick (b := (u0.2.2.1 != ((i3.1 : Span)).High)) rfl (pick_f a7 rfl)) rfl ?_
            refine EL_mw (.bool ((u0.2.2.1 != ((i3.1 : Span)).Low))) rfl rfl ?_
            rcases csome h with ⟨v6, h⟩ | ⟨v6, h⟩
            ·refine EL_s rfl rfl v6 rfl rfl ?_
             iterate 3 refine EL_s rfl rfl v6 rfl rfl ?_
             refine EL_dead 10 rfl ?_
             refine EL_s rfl rfl v6 rfl rfl ?_
             refine EL_p (.bool true) (P_pick (b := (u0.2.2.1 != ((i3.1 : Span)).Low)) rfl (pick_t v6 rfl)) rfl ?_
             refine EL_nil ?_
             obtain rfl := sinj h
             exact hQ _ _ ⟨q5, hfr, j6, l5, t5, b819, i5, u3, o3, j1, z4, z3, rfl, rfl⟩
            ·refine EL_y (.int .i64 (o0)) (P_move z3) rfl rfl v6 rfl ?_
             refine EL_y (.int .i64 ((w64 ((j3).Low + x5)))) (P_move z4) rfl rfl v6 rfl ?_
             refine EL_y (.bool ((o0 == (w64 ((j3).Low + x5))))) (P_int rfl rfl rfl) rfl rfl v6 rfl ?_
             refine EL_y (.bool ((o0 == (w64 ((j3).Low + x5))))) (P_move rfl) rfl rfl v6 rfl ?_
             rcases csome h with ⟨c7, h⟩ | ⟨c7, h⟩
             ·refine EL_y (.int .i64 (u0.2.2.1)) (P_move rfl) rfl rfl c7 rfl ?_
              refine EL_y (fPtr m7 0) (P_fieldAddr at_29_0 o3 (OB.ptr j1)) rfl rfl c7 rfl ?_
              refine EL_do (.yes2 rfl rfl c7) rfl (D_loadF (g := q5) part_Span_0.1 Tryz.isAgg3 Tryz.sizeOf3 rfl j1 fun pJ uF => ?_)
              obtain rfl := RV_int.1 uF
              refine EL_y (.bool ((decide (u0.2.2.1 < ((i3.1 : Span)).Low)))) (P_int rfl rfl rfl) rfl rfl c7 rfl ?_
              refine EL_y (.bool ((decide (u0.2.2.1 < ((i3.1 : Span)).Low)))) (P_move rfl) rfl rfl c7 rfl ?_
              rcases csome h with ⟨c8, h⟩ | ⟨c8, h⟩
              ·refine EL_s rfl rfl c8 rfl rfl ?_
               iterate 3 refine EL_s rfl rfl c8 rfl rfl ?_
               refine EL_y (.bool true) (P_pick (b := (decide (u0.2.2.1 < ((i3.1 : Span)).Low))) rfl (pick_t c8 rfl)) rfl rfl c7 rfl ?_
               refine EL_y (.bool true) (P_pick (b := (o0 == (w64 ((j3).Low + x5)))) rfl (pick_t c7 rfl)) rfl rfl v6 rfl ?_
               refine EL_p (.bool true) (P_pick (b := (u0.2.2.1 != ((i3.1 : Span)).Low)) rfl (pick_f v6 rfl)) rfl ?_
               refine EL_nil ?_
               obtain rfl := sinj h
               exact hQ _ _ ⟨q5, hfr, j6, l5, t5, b819, i5, u3, o3, j1, z4, z3, rfl, rfl⟩
              ·refine EL_y (.int .i64 (u0.2.2.1)) (P_move rfl) rfl rfl c8 rfl ?_
               refine EL_y (fPtr m7 1) (P_fieldAddr at_29_1 o3 (OB.ptr j1)) rfl rfl c8 rfl ?_
               refine EL_do (.yes2 rfl rfl c8) rfl (D_loadF (g := q5) part_Span_1.1 Tryz.isAgg3 Tryz.sizeOf3 rfl j1 fun qJ vF => ?_)
               obtain rfl := RV_int.1 vF
               refine EL_y (.bool ((decide (u0.2.2.1 > ((i3.1 : Span)).High)))) (P_int rfl rfl rfl) rfl rfl c8 rfl ?_
               refine EL_y (.bool ((decide (u0.2.2.1 > ((i3.1 : Span)).High)))) (P_pick (b := (decide (u0.2.2.1 < ((i3.1 : Span)).Low))) rfl (pick_f c8 rfl)) rfl rfl c7 rfl ?_
               refine EL_y (.bool ((decide (u0.2.2.1 > ((i3.1 : Span)).High)))) (P_pick (b := (o0 == (w64 ((j3).Low + x5)))) rfl (pick_t c7 rfl)) rfl rfl v6 rfl ?_
               refine EL_p (.bool ((decide (u0.2.2.1 > ((i3.1 : Span)).High)))) (P_pick (b := (u0.2.2.1 != ((i3.1 : Span)).Low)) rfl (pick_f v6 rfl)) rfl ?_
               refine EL_nil ?_
               obtain rfl := sinj h
               exact hQ _ _ ⟨q5, hfr, j6, l5, t5, b819, i5, u3, o3, j1, z4, z3, rfl, rfl⟩
             ·refine EL_s rfl rfl c7 rfl rfl ?_
              iterate 4 refine EL_s rfl rfl c7 rfl rfl ?_
              refine EL_dead 4 rfl ?_
              refine EL_s rfl rfl c7 rfl rfl ?_
              refine EL_y (.bool false) (P_pick (b := (o0 == (w64 ((j3).Low + x5)))) rfl (pick_f c7 rfl)) rfl rfl v6 rfl ?_
              refine EL_p (.bool false) (P_pick (b := (u0.2.2.1 != ((i3.1 : Span)).Low)) rfl (pick_f v6 rfl)) rfl ?_
              refine EL_nil ?_
              obtain rfl := sinj h
              exact hQ _ _ ⟨q5, hfr, j6, l5, t5, b819, i5, u3, o3, j1, z4, z3, rfl, rfl⟩
           ·refine EL_s rfl rfl v7 rfl rfl ?_
            iterate 3 refine EL_s rfl rfl v7 rfl rfl ?_
            refine EL_y (.bool false) (P_pick (b := (o0 == (j3).High)) rfl (pick_f v7 rfl)) rfl rfl a7 rfl ?_
            refine EL_p (.bool false) (P_pick (b := (u0.2.2.1 != ((i3.1 : Span)).High)) rfl (pick_f a7 rfl)) rfl ?_
            refine EL_mw (.bool false) rfl rfl ?_
            refine EL_y (.int .i64 (o0)) (P_move z3) rfl rfl rfl rfl ?_
            refine EL_y (.int .i64 ((w64 ((j3).Low + x5)))) (P_move z4) rfl rfl rfl rfl ?_
            refine EL_y (.bool ((o0 == (w64 ((j3).Low + x5))))) (P_int rfl rfl rfl) rfl rfl rfl rfl ?_
            refine EL_y (.bool ((o0 == (w64 ((j3).Low + x5))))) (P_move rfl) rfl rfl rfl rfl ?_
            rcases csome h with ⟨d7, h⟩ | ⟨d7, h⟩
            ·refine EL_y (.int .i64 (u0.2.2.1)) (P_move rfl) rfl rfl d7 rfl ?_
             refine EL_y (fPtr m7 0) (P_fieldAddr at_29_0 o3 (OB.ptr j1)) rfl rfl d7 rfl ?_
             refine EL_do (.yes2 rfl rfl d7) rfl (D_loadF (g := q5) part_Span_0.1 Tryz.isAgg3 Tryz.sizeOf3 rfl j1 fun rJ xF => ?_)
             obtain rfl := RV_int.1 xF
             refine EL_y (.bool ((decide (u0.2.2.1 < ((i3.1 : Span)).Low)))) (P_int rfl rfl rfl) rfl rfl d7 rfl ?_
             refine EL_y (.bool ((decide (u0.2.2.1 < ((i3.1 : Span)).Low)))) (P_move rfl) rfl rfl d7 rfl ?_
             rcases csome h with ⟨i8, h⟩ | ⟨i8, h⟩
             ·refine EL_s rfl rfl i8 rfl rfl ?_
              iterate 3 refine EL_s rfl rfl i8 rfl rfl ?_
              refine EL_y (.bool true) (P_pick (b := (decide (u0.2.2.1 < ((i3.1 : Span)).Low))) rfl (pick_t i8 rfl)) rfl rfl d7 rfl ?_
              refine EL_y (.bool true) (P_pick (b := (o0 == (w64 ((j3).Low + x5)))) rfl (pick_t d7 rfl)) rfl rfl rfl rfl ?_
              refine EL_p (.bool true) (P_pick (b := false) rfl (pick_f rfl rfl)) rfl ?_
              refine EL_nil ?_
              obtain rfl := sinj h
              exact hQ _ _ ⟨q5, hfr, j6, l5, t5, b819, i5, u3, o3, j1, z4, z3, rfl, rfl⟩
             ·refine EL_y (.int .i64 (u0.2.2.1)) (P_move rfl) rfl rfl i8 rfl ?_
              refine EL_y (fPtr m7 1) (P_fieldAddr at_29_1 o3 (OB.ptr j1)) rfl rfl i8 rfl ?_
              refine EL_do (.yes2 rfl rfl i8) rfl (D_loadF (g := q5) part_Span_1.1 Tryz.isAgg3 Tryz.sizeOf3 rfl j1 fun sJ yF => ?_)
              obtain rfl := RV_int.1 yF
              refine EL_y (.bool ((decide (u0.2.2.1 > ((i3.1 : Span)).High)))) (P_int rfl rfl rfl) rfl rfl i8 rfl ?_
              refine EL_y (.bool ((decide (u0.2.2.1 > ((i3.1 : Span)).High)))) (P_pick (b := (decide (u0.2.2.1 < ((i3.1 : Span)).Low))) rfl (pick_f i8 rfl)) rfl rfl d7 rfl ?_
              refine EL_y (.bool ((decide (u0.2.2.1 > ((i3.1 : Span)).High)))) (P_pick (b := (o0 == (w64 ((j3).Low + x5)))) rfl (pick_t d7 rfl)) rfl rfl rfl rfl ?_
              refine EL_p (.bool ((decide (u0.2.2.1 > ((i3.1 : Span)).High)))) (P_pick (b := false) rfl (pick_f rfl rfl)) rfl ?_
              refine EL_nil ?_
              obtain rfl := sinj h
              exact hQ _ _ ⟨q5, hfr, j6, l5, t5, b819, i5, u3, o3, j1, z4, z3, rfl, rfl⟩
            ·refine EL_s rfl rfl d7 rfl rfl ?_
             iterate 4 refine EL_s rfl rfl d7 rfl rfl ?_
             refine EL_dead 4 rfl ?_
             refine EL_s rfl rfl d7 rfl rfl ?_
             refine EL_y (.bool false) (P_pick (b := (o0 == (w64 ((j3).Low + x5)))) rfl (pick_f d7 rfl)) rfl rfl rfl rfl ?_
             refine EL_p (.bool false) (P_pick (b := false) rfl (pick_f rfl rfl)) rfl ?_
             refine EL_nil ?_
             obtain rfl := sinj h
             exact hQ _ _ ⟨q5, hfr, j6, l5, t5, b819, i5, u3, o3, j1, z4, z3, rfl, rfl⟩
         ·refine EL_s rfl rfl q8 rfl rfl ?_
          iterate 3 refine EL_s rfl rfl q8 rfl rfl ?_
          refine EL_y (.bool false) (P_pick (b := (o0 == (j3).Low)) rfl (pick_f q8 rfl)) rfl rfl n7 rfl ?_
          refine EL_p (.bool false) (P_pick (b := (decide (u0.2.2.1 > j7))) rfl (pick_f n7 rfl)) rfl ?_
          refine EL_mw (.bool false) rfl rfl ?_
          refine EL_y (.int .i64 (o0)) (P_move z3) rfl rfl rfl rfl ?_
          refine EL_y (fPtr u7 1) (P_fieldAddr at_29_1 i5 (OB.ptr u3)) rfl rfl rfl rfl ?_
          refine EL_do (.yes2 rfl rfl rfl) rfl (D_loadF (g := q5) part_Span_1.1 Tryz.isAgg3 Tryz.sizeOf3 rfl u3 fun tJ zF => ?_)
          obtain rfl := RV_int.1 zF
          refine EL_y (.bool ((o0 == (j3).High))) (P_int rfl rfl rfl) rfl rfl rfl rfl ?_
          refine EL_y (.bool ((o0 == (j3).High))) (P_move rfl) rfl rfl rfl rfl ?_
          rcases csome h with ⟨k8, h⟩ | ⟨k8, h⟩
          ·refine EL_y (.int .i64 (u0.2.2.1)) (P_move rfl) rfl rfl k8 rfl ?_
           refine EL_y (fPtr m7 0) (P_fieldAddr at_29_0 o3 (OB.ptr j1)) rfl rfl k8 rfl ?_
           refine EL_do (.yes2 rfl rfl k8) rfl (D_loadF (g := q5) part_Span_0.1 Tryz.isAgg3 Tryz.sizeOf3 rfl j1 fun uJ aG => ?_)
           obtain rfl := RV_int.1 aG
           refine EL_y (.bool ((u0.2.2.1 != ((i3.1 : Span)).Low))) (P_int rfl rfl rfl) rfl rfl k8 rfl ?_
           refine EL_y (.bool ((u0.2.2.1 != ((i3.1 : Span)).Low))) (P_pick (b := (o0 == (j3).High)) rfl (pick_t k8 rfl)) rfl rfl rfl rfl ?_
           refine EL_p (.bool ((u0.2.2.1 != ((i3.1 : Span)).Low))) (P_pick (b := false) rfl (pick_f rfl rfl)) rfl ?_
           refine EL_mw (.bool ((u0.2.2.1 != ((i3.1 : Span)).Low))) rfl rfl ?_
           rcases csome h with ⟨x6, h⟩ | ⟨x6, h⟩
           ·refine EL_s rfl rfl x6 rfl rfl ?_
            iterate 3 refine EL_s rfl rfl x6 rfl rfl ?_
            refine EL_dead 10 rfl ?_
            refine EL_s rfl rfl x6 rfl rfl ?_
            refine EL_p (.bool true) (P_pick (b := (u0.2.2.1 != ((i3.1 : Span)).Low)) rfl (pick_t x6 rfl)) rfl ?_
            refine EL_nil ?_
            obtain rfl := sinj h
            exact hQ _ _ ⟨q5, hfr, j6, l5, t5, b819, i5, u3, o3, j1, z4, z3, rfl, rfl⟩
           ·refine EL_y (.int .i64 (o0)) (P_move z3) rfl rfl x6 rfl ?_
            refine EL_y (.int .i64 ((w64 ((j3).Low + x5)))) (P_move z4) rfl rfl x6 rfl ?_
            refine EL_y (.bool ((o0 == (w64 ((j3).Low + x5))))) (P_int rfl rfl rfl) rfl rfl x6 rfl ?_
            refine EL_y (.bool ((o0 == (w64 ((j3).Low + x5))))) (P_move rfl) rfl rfl x6 rfl ?_
            rcases csome h with ⟨e7, h⟩ | ⟨e7, h⟩
            ·refine EL_y (.int .i64 (u0.2.2.1)) (P_move rfl) rfl rfl e7 rfl ?_
             refine EL_y (fPtr m7 0) (P_fieldAddr at_29_0 o3 (OB.ptr j1)) rfl rfl e7 rfl ?_
             refine EL_do (.yes2 rfl rfl e7) rfl (D_loadF (g := q5) part_Span_0.1 Tryz.isAgg3 Tryz.sizeOf3 rfl j1 fun vJ bG => ?_)
             obtain rfl := RV_int.1 bG
             refine EL_y (.bool ((decide (u0.2.2.1 < ((i3.1 : Span)).Low)))) (P_int rfl rfl rfl) rfl rfl e7 rfl ?_
             refine EL_y (.bool ((decide (u0.2.2.1 < ((i3.1 : Span)).Low)))) (P_move rfl) rfl rfl e7 rfl ?_
             rcases csome h with ⟨l8, h⟩ | ⟨l8, h⟩
             ·refine EL_s rfl rfl l8 rfl rfl ?_
              iterate 3 refine EL_s rfl rfl l8 rfl rfl ?_
              refine EL_y (.bool true) (P_pick (b := (decide (u0.2.2.1 < ((i3.1 : Span)).Low))) rfl (pick_t l8 rfl)) rfl rfl e7 rfl ?_
              refine EL_y (.bool true) (P_pick (b := (o0 == (w64 ((j3).Low + x5)))) rfl (pick_t e7 rfl)) rfl rfl x6 rfl ?_
              refine EL_p (.bool true) (P_pick (b := (u0.2.2.1 != ((i3.1 : Span)).Low)) rfl (pick_f x6 rfl)) rfl ?_
              refine EL_nil ?_
              obtain rfl := sinj h
              exact hQ _ _ ⟨q5, hfr, j6, l5, t5, b819, i5, u3, o3, j1, z4, z3, rfl, rfl⟩
             ·refine EL_y (.int .i64 (u0.2.2.1)) (P_move rfl) rfl rfl l8 rfl ?_
              refine EL_y (fPtr m7 1) (P_fieldAddr at_29_1 o3 (OB.ptr j1)) rfl rfl l8 rfl ?_
              refine EL_do (.yes2 rfl rfl l8) rfl (D_loadF (g := q5) part_Span_1.1 Tryz.isAgg3 Tryz.sizeOf3 rfl j1 fun xJ cG => ?_)
              obtain rfl := RV_int.1 cG
              refine EL_y (.bool ((decide (u0.2.2.1 > ((i3.1 : Span)).High)))) (P_int rfl rfl rfl) rfl rfl l8 rfl ?_
              refine EL_y (.bool ((decide (u0.2.2.1 > ((i3.1 : Span)).High)))) (P_pick (b := (decide (u0.2.2.1 < ((i3.1 : Span)).Low))) rfl (pick_f l8 rfl)) rfl rfl e7 rfl ?_
              refine EL_y (.bool ((decide (u0.2.2.1 > ((i3.1 : Span)).High)))) (P_pick (b := (o0 == (w64 ((j3).Low + x5)))) rfl (pick_t e7 rfl)) rfl rfl x6 rfl ?_
              refine EL_p (.bool ((decide (u0.2.2.1 > ((i3.1 : Span)).High)))) (P_pick (b := (u0.2.2.1 != ((i3.1 : Span)).Low)) rfl (pick_f x6 rfl)) rfl ?_
              refine EL_nil ?_
              obtain rfl := sinj h
              exact hQ _ _ ⟨q5, hfr, j6, l5, t5, b819, i5, u3, o3, j1, z4, z3, rfl, rfl⟩
            ·refine EL_s rfl rfl e7 rfl rfl ?_
             iterate 4 refine EL_s rfl rfl e7 rfl rfl ?_
             refine EL_dead 4 rfl ?_
             refine EL_s rfl rfl e7 rfl rfl ?_
             refine EL_y (.bool false) (P_pick (b := (o0 == (w64 ((j3).Low + x5)))) rfl (pick_f e7 rfl)) rfl rfl x6 rfl ?_
             refine EL_p (.bool false) (P_pick (b := (u0.2.2.1 != ((i3.1 : Span)).Low)) rfl (pick_f x6 rfl)) rfl ?_
             refine EL_nil ?_
             obtain rfl := sinj h
             exact hQ _ _ ⟨q5, hfr, j6, l5, t5, b819, i5, u3, o3, j1, z4, z3, rfl, rfl⟩
          ·refine EL_s rfl rfl k8 rfl rfl ?_
           iterate 3 refine EL_s rfl rfl k8 rfl rfl ?_
           refine EL_y (.bool false) (P_pick (b := (o0 == (j3).High)) rfl (pick_f k8 rfl)) rfl rfl rfl rfl ?_
           refine EL_p (.bool false) (P_pick (b := false) rfl (pick_f rfl rfl)) rfl ?_
           refine EL_mw (.bool false) rfl rfl ?_
           refine EL_y (.int .i64 (o0)) (P_move z3) rfl rfl rfl rfl ?_
           refine EL_y (.int .i64 ((w64 ((j3).Low + x5)))) (P_move z4) rfl rfl rfl rfl ?_
           refine EL_y (.bool ((o0 == (w64 ((j3).Low + x5))))) (P_int rfl rfl rfl) rfl rfl rfl rfl ?_
           refine EL_y (.bool ((o0 == (w64 ((j3).Low + x5))))) (P_move rfl) rfl rfl rfl rfl ?_
           rcases csome h with ⟨i7, h⟩ | ⟨i7, h⟩
           ·refine EL_y (.int .i64 (u0.2.2.1)) (P_move rfl) rfl rfl i7 rfl ?_
            refine EL_y (fPtr m7 0) (P_fieldAddr at_29_0 o3 (OB.ptr j1)) rfl rfl i7 rfl ?_
            refine EL_do (.yes2 rfl rfl i7) rfl (D_loadF (g := q5) part_Span_0.1 Tryz.isAgg3 Tryz.sizeOf3 rfl j1 fun yJ dG => ?_)
            obtain rfl := RV_int.1 dG
            refine EL_y (.bool ((decide (u0.2.2.1 < ((i3.1 : Span)).Low)))) (P_int rfl rfl rfl) rfl rfl i7 rfl ?_
            refine EL_y (.bool ((decide (u0.2.2.1 < ((i3.1 : Span)).Low)))) (P_move rfl) rfl rfl i7 rfl ?_
            rcases csome h with ⟨m8, h⟩ | ⟨m8, h⟩
            ·refine EL_s rfl rfl m8 rfl rfl ?_
             iterate 3 refine EL_s rfl rfl m8 rfl rfl ?_
             refine EL_y (.bool true) (P_pick (b := (decide (u0.2.2.1 < ((i3.1 : Span)).Low))) rfl (pick_t m8 rfl)) rfl rfl i7 rfl ?_
             refine EL_y (.bool true) (P_pick (b := (o0 == (w64 ((j3).Low + x5)))) rfl (pick_t i7 rfl)) rfl rfl rfl rfl ?_
             refine EL_p (.bool true) (P_pick (b := false) rfl (pick_f rfl rfl)) rfl ?_
             refine EL_nil ?_
             obtain rfl := sinj h
             exact hQ _ _ ⟨q5, hfr, j6, l5, t5, b819, i5, u3, o3, j1, z4, z3, rfl, rfl⟩
            ·refine EL_y (.int .i64 (u0.2.2.1)) (P_move rfl) rfl rfl m8 rfl ?_
             refine EL_y (fPtr m7 1) (P_fieldAddr at_29_1 o3 (OB.ptr j1)) rfl rfl m8 rfl ?_
             refine EL_do (.yes2 rfl rfl m8) rfl (D_loadF (g := q5) part_Span_1.1 Tryz.isAgg3 Tryz.sizeOf3 rfl j1 fun zJ eG => ?_)
             obtain rfl := RV_int.1 eG
             refine EL_y (.bool ((decide (u0.2.2.1 > ((i3.1 : Span)).High)))) (P_int rfl rfl rfl) rfl rfl m8 rfl ?_
             refine EL_y (.bool ((decide (u0.2.2.1 > ((i3.1 : Span)).High)))) (P_pick (b := (decide (u0.2.2.1 < ((i3.1 : Span)).Low))) rfl (pick_f m8 rfl)) rfl rfl i7 rfl ?_
             refine EL_y (.bool ((decide (u0.2.2.1 > ((i3.1 : Span)).High)))) (P_pick (b := (o0 == (w64 ((j3).Low + x5)))) rfl (pick_t i7 rfl)) rfl rfl rfl rfl ?_
             refine EL_p (.bool ((decide (u0.2.2.1 > ((i3.1 : Span)).High)))) (P_pick (b := false) rfl (pick_f rfl rfl)) rfl ?_
             refine EL_nil ?_
             obtain rfl := sinj h
             exact hQ _ _ ⟨q5, hfr, j6, l5, t5, b819, i5, u3, o3, j1, z4, z3, rfl, rfl⟩
           ·refine EL_s rfl rfl i7 rfl rfl ?_
            iterate 4 refine EL_s rfl rfl i7 rfl rfl ?_
            refine EL_dead 4 rfl ?_
            refine EL_s rfl rfl i7 rfl rfl ?_
            refine EL_y (.bool false) (P_pick (b := (o0 == (w64 ((j3).Low + x5)))) rfl (pick_f i7 rfl)) rfl rfl rfl rfl ?_
            refine EL_p (.bool false) (P_pick (b := false) rfl (pick_f rfl rfl)) rfl ?_
            refine EL_nil ?_
            obtain rfl := sinj h
            exact hQ _ _ ⟨q5, hfr, j6, l5, t5, b819, i5, u3, o3, j1, z4, z3, rfl, rfl⟩
      ·clear hx
       obtain ⟨gG, hfr, yC, aD, bD, cD, dB, eB, iB, jB, lB, mB, nB, t9⟩ := hR
       rcases csome h with ⟨gA, h⟩ | ⟨gA, h⟩
       ·refine E_cond_true (Eq.trans (show ev _ _ = .bool (n8) from t9) (congrArg Value.bool gA)) ?_
        refine E_seq (E_region (EL_at (.bool false) rfl rfl ?_))
        refine EL_nil (thn_n (E_ret (thn_r ?_)))
        refine blk_r ?_
        refine thn_r ?_
        refine thn_r ?_
        refine blk_r ?_
        refine thn_r ?_
        obtain rfl := sinj h
        exact end1 rfl rfl (show _ = .bool false from rfl) ⟨_, hfr, rfl⟩
       ·refine E_cond_false (Eq.trans (show ev _ _ = .bool (n8) from t9) (congrArg Value.bool gA)) ?_
        exact E_skip (thn_n (qF () _ _ ⟨gG, hfr, yC, aD, bD, cD, dB, eB, iB, jB, lB, mB, nB⟩ h))
     ·rintro _ cJ aK ⟨hG, hfr, eD, gD, iD, jD, oB, tB, vB, xB, yB, zB, aC⟩ h
      refine E_region (EL_mv aC rfl ?_)
      refine EL_at (.int .i64 (u0.2.2.1)) rfl rfl ?_
      exact EL_nil (blk_n (thn_n (dF ({ i6 with Faults := o0 }, u0.2.2.1) _ _ ⟨hG, hfr, eD, gD, iD, jD, oB, tB, vB, xB, rfl, yB, zB⟩ h)))
    ·rintro ⟨i9, e9⟩ dJ bK ⟨iG, hfr, kD, lD, mD, nD, cC, dC, eC, iC, jC, kC, lC⟩ h
     refine E_region (EL_mv lC rfl ?_)
     refine EL_in (.int .i64 ((w64 (o0 + (1 : Int))))) rfl rfl rfl rfl ?_
     refine EL_at (.int .i64 ((w64 (o0 + (1 : Int))))) rfl rfl ?_
     exact EL_nil (thn_n (zE (i9, e9, (w64 (o0 + (1 : Int)))) _ _ ⟨iG, hfr, kD, lD, mD, nD, cC, dC, eC, iC, jC, kC, rfl⟩ h))
  ·rintro _ eJ cK ⟨jG, hfr⟩ h
   refine E_seq (E_region ?_)
   obtain ⟨u9, tE, h⟩ := bsome h
   refine EL_do .plain rfl (D_call (g := jG) (vs := []) en12 .nil (wk12  tE) fun dK gJ eK hs hr => ?_)
   have hfr := hfr.ext hs
   subst hr
   refine EL_at (.bool (u9)) rfl rfl ?_
   refine EL_nil (thn_n (E_ret ?_))
   obtain rfl := sinj h
   exact end1 rfl rfl (show _ = .bool (u9) from rfl) ⟨_, hfr, rfl⟩
end Go.Proofs.YtkmbkaoolacofaaGreat
